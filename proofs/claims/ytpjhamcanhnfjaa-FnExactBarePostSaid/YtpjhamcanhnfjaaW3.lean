/- The walks: what each function that the laws reach computes (part 3). -/
import Derived.Test.YtpjhamcanhnfjaaW2
import Derived.Test.YtpjhamcanhnfjaaProg
import Derived.KernelRfl
namespace Go.Proofs.Ytpjhamcanhnfjaa
open Go
set_option linter.unusedVariables false
set_option linter.unusedSimpArgs false

set_option maxRecDepth 100000 in
theorem c_impl_BarePost (w0 : World) (b : TBare) (pb : PBare) (hb : GT.rd KK (Lt w0.heap.size) w0 b pb) (n : Int) : Calls Try.prog 39 [GT.val b pb, I n].toArray w0 (Ret2 NoB w0 ((f_barePost b n).1 : TBare) ((f_barePost b n).2 : Bool)) := by
  refine Calls.walk (args := [GT.val b pb, I n]) NoB Try.func39 rfl rfl ?_
  intro ac β S
  have hleb_mem : b.mem.length ≤ 4194304 := LRd.le (RBare.mem (d := b) hb)
  have hleb_guests : b.guests.length ≤ 4194304 := LRd.le (RBare.guests (d := b) hb)
  have hleb_outs : b.outs.length ≤ 4194304 := LRd.le (RBare.outs (d := b) hb)
  refine wp_seq (RG.start ?_)
  refine S.quiet (k := 3) (keep := [1, 2, 4]) (m := 2) (σ' := ⟨[(1, .v (I n)), (2, .p 0 0), (4, .p 1 0)], [GT.cells b pb, Zc TBare]⟩) .nil (by kernel_rfl) ?_
  clear S; intro ac w β S
  refine RG.done rfl (nx_then (wp_seq (RG.start ?_)))
  refine S.quiet (k := 1) (keep := [1, 2, 4, 10]) (m := 2) (σ' := ⟨[(1, .v (I n)), (2, .p 0 0), (4, .p 1 0), (10, .v (GT.val b pb))], [GT.cells b pb, Zc TBare]⟩) .nil (by kernel_rfl) ?_
  clear S; intro ac w β S
  refine RG.op rfl (S.call1 (r := b) (d := 11) (c_impl_copyBare w b pb (S.rd (S.arg hb))) (by kernel_rfl) rfl ?_)
  clear S; intro ac w N q1 F2 S up o3 d4
  clear up d4
  have i14 : In64 b.pend := RBare.pend (d := b) o3.rn
  obtain ⟨F5, F8, F11, o6, o9, o12, s7, s10, s13, d15, d16, d17⟩ := sp_Bare o3
  refine S.quiet (k := 2) (keep := [1, 2, 4, 6]) (m := 3) (σ' := ⟨[(1, .v (I n)), (2, .p 0 0), (4, .p 1 0), (6, .p 2 0)], [GT.cells b pb, Zc TBare, [slv (b.mem).length q1.mem.1, slv (b.guests).length q1.guests.1, slv (b.outs).length q1.outs.1, I b.pend]]⟩) .nil (by kernel_rfl) ?_
  clear S; intro ac w β S
  refine RG.done rfl (nx_then (wp_seq (wp_seq (RG.start ?_))))
  refine S.quiet (k := 4) (keep := [1, 2, 4, 6, 15]) (m := 3) (σ' := ⟨[(1, .v (I n)), (2, .p 0 0), (4, .p 1 0), (6, .p 2 0), (15, .v (B (!(f_bareOk b))))], [GT.cells b pb, Zc TBare, [slv (b.mem).length q1.mem.1, slv (b.guests).length q1.guests.1, slv (b.outs).length q1.outs.1, I b.pend]]⟩) (.cons (Q_call fun w hw => c_impl_BareOk w b pb (rd_of (S.arg hb) hw)) .nil) (by kernel_rfl) ?_
  clear S; intro ac w β S
  rcases Bool.eq_false_or_eq_true (!(f_bareOk b)) with h18 | h18 <;> rw [h18] at S
  · have h19 : (f_bareOk b) = false := not_t h18
    refine S.quiet (k := 4) (keep := [1, 2, 4, 6, 19]) (m := 3) (σ' := ⟨[(1, .v (I n)), (2, .p 0 0), (4, .p 1 0), (6, .p 2 0), (19, .v (B true))], [GT.cells b pb, Zc TBare, [slv (b.mem).length q1.mem.1, slv (b.guests).length q1.guests.1, slv (b.outs).length q1.outs.1, I b.pend]]⟩) .nil (by kernel_rfl) ?_
    clear S; intro ac w β S
    refine RG.done rfl (nx_then ?_)
    refine S.cond (e := true) (by kernel_rfl) (fun _ => ?_) (fun hx => by cases hx)
    refine wp_seq (RG.start ?_)
    refine S.quiet (k := 3) (keep := [4, 5]) (m := 2) (σ' := ⟨[(4, .p 1 0), (5, .v (B false))], [GT.cells b pb, [slv (b.mem).length q1.mem.1, slv (b.guests).length q1.guests.1, slv (b.outs).length q1.outs.1, I b.pend]]⟩) .nil (by kernel_rfl) ?_
    clear S; intro ac w β S
    refine RG.done rfl (nx_then (wp_ret (rt_then ?_)))
    refine S.ret (vs := [GT.val b q1, B false]) (by kernel_rfl) ?_
    have o20 := ow_Bare (x := b) (p := q1) o6 o9 o12 d15 d16 d17 i14
    exact ret2_of (p' := ()) S (show (f_barePost b n).1 = b by clear S; (first | (unfold f_barePost; rw [if_neg (by simp_all)]; done) | (unfold f_barePost; rw [if_pos ⟨by assumption, by omega, by omega⟩]; done) | (unfold f_barePost; rw [if_pos ⟨by assumption, by omega, by omega⟩, show (f_postedTo b n).foldl (stepPost n) b.guests = gs by rw [hg, take_all (by omega)], if_pos (by omega)]; done) | (unfold f_barePost; rw [if_pos ⟨by assumption, by omega, by omega⟩, show (f_postedTo b n).foldl (stepPost n) b.guests = gs by rw [hg, take_all (by omega)], if_neg (by omega)]; done))) (show (f_barePost b n).2 = false by clear S; (first | (unfold f_barePost; rw [if_neg (by simp_all)]; done) | (unfold f_barePost; rw [if_pos ⟨by assumption, by omega, by omega⟩]; done) | (unfold f_barePost; rw [if_pos ⟨by assumption, by omega, by omega⟩, show (f_postedTo b n).foldl (stepPost n) b.guests = gs by rw [hg, take_all (by omega)], if_pos (by omega)]; done) | (unfold f_barePost; rw [if_pos ⟨by assumption, by omega, by omega⟩, show (f_postedTo b n).foldl (stepPost n) b.guests = gs by rw [hg, take_all (by omega)], if_neg (by omega)]; done))) rfl rfl o20 trivial
  · have h21 : (f_bareOk b) = true := not_f h18
    have g22 := bareOk_t h21
    refine S.quiet (k := 4) (keep := [1, 2, 4, 6, 19]) (m := 3) (σ' := ⟨[(1, .v (I n)), (2, .p 0 0), (4, .p 1 0), (6, .p 2 0), (19, .v (B (!(f_within n 0 7))))], [GT.cells b pb, Zc TBare, [slv (b.mem).length q1.mem.1, slv (b.guests).length q1.guests.1, slv (b.outs).length q1.outs.1, I b.pend]]⟩) (.cons (Q_call fun w hw => c_impl_within w n 0 7) .nil) (by kernel_rfl) ?_
    clear S; intro ac w β S
    refine RG.done rfl (nx_then ?_)
    refine S.cond (e := (!(f_within n 0 7))) (by kernel_rfl) (fun h23 => ?_) (fun h23 => ?_)
    · have h24 : (f_within n 0 7) = false := not_t h23
      have g25 := within_f h24
      refine wp_seq (RG.start ?_)
      refine S.quiet (k := 3) (keep := [4, 5]) (m := 2) (σ' := ⟨[(4, .p 1 0), (5, .v (B false))], [GT.cells b pb, [slv (b.mem).length q1.mem.1, slv (b.guests).length q1.guests.1, slv (b.outs).length q1.outs.1, I b.pend]]⟩) .nil (by kernel_rfl) ?_
      clear S; intro ac w β S
      refine RG.done rfl (nx_then (wp_ret (rt_then ?_)))
      refine S.ret (vs := [GT.val b q1, B false]) (by kernel_rfl) ?_
      have o26 := ow_Bare (x := b) (p := q1) o6 o9 o12 d15 d16 d17 i14
      exact ret2_of (p' := ()) S (show (f_barePost b n).1 = b by clear S; (first | (unfold f_barePost; rw [if_neg (by simp_all)]; done) | (unfold f_barePost; rw [if_pos ⟨by assumption, by omega, by omega⟩]; done) | (unfold f_barePost; rw [if_pos ⟨by assumption, by omega, by omega⟩, show (f_postedTo b n).foldl (stepPost n) b.guests = gs by rw [hg, take_all (by omega)], if_pos (by omega)]; done) | (unfold f_barePost; rw [if_pos ⟨by assumption, by omega, by omega⟩, show (f_postedTo b n).foldl (stepPost n) b.guests = gs by rw [hg, take_all (by omega)], if_neg (by omega)]; done))) (show (f_barePost b n).2 = false by clear S; (first | (unfold f_barePost; rw [if_neg (by simp_all)]; done) | (unfold f_barePost; rw [if_pos ⟨by assumption, by omega, by omega⟩]; done) | (unfold f_barePost; rw [if_pos ⟨by assumption, by omega, by omega⟩, show (f_postedTo b n).foldl (stepPost n) b.guests = gs by rw [hg, take_all (by omega)], if_pos (by omega)]; done) | (unfold f_barePost; rw [if_pos ⟨by assumption, by omega, by omega⟩, show (f_postedTo b n).foldl (stepPost n) b.guests = gs by rw [hg, take_all (by omega)], if_neg (by omega)]; done))) rfl rfl o26 trivial
    · have h27 : (f_within n 0 7) = true := not_f h23
      have g28 := within_t h27
      refine wp_skip (nx_then (wp_seq (RG.start ?_)))
      refine S.quiet (k := 2) (keep := [1, 4, 6, 21, 22]) (m := 3) (σ' := ⟨[(1, .v (I n)), (4, .p 1 0), (6, .p 2 0), (21, .v (GT.val b pb)), (22, .v (I n))], [GT.cells b pb, Zc TBare, [slv (b.mem).length q1.mem.1, slv (b.guests).length q1.guests.1, slv (b.outs).length q1.outs.1, I b.pend]]⟩) .nil (by kernel_rfl) ?_
      clear S; intro ac w β S
      refine RG.op rfl (S.call1 (r := f_postedTo b n) (d := 23) (c_impl_PostedTo w b pb (S.rd (S.arg hb)) n) (by kernel_rfl) rfl ?_)
      clear S; intro ac w N q29 F30 S up o31 d32
      have d33 : Disj F5 F30 := fun b x y => d32 b (o6.sub b x) y
      have d34 : Disj F8 F30 := fun b x y => d32 b (o9.sub b x) y
      have d35 : Disj F11 F30 := fun b x y => d32 b (o12.sub b x) y
      replace o6 := o6.up up
      replace o9 := o9.up up
      replace o12 := o12.up up
      clear up d32
      refine S.quiet (k := 1) (keep := [1, 4, 6, 7]) (m := 3) (σ' := ⟨[(1, .v (I n)), (4, .p 1 0), (6, .p 2 0), (7, .v (slv ((f_postedTo b n)).length q29.1))], [GT.cells b pb, Zc TBare, [slv (b.mem).length q1.mem.1, slv (b.guests).length q1.guests.1, slv (b.outs).length q1.outs.1, I b.pend]]⟩) .nil (by kernel_rfl) ?_
      clear S; intro ac w β S
      refine RG.done rfl (nx_then (wp_seq (wp_seq (RG.start ?_))))
      refine S.quiet (k := 3) (keep := [1, 4, 6, 7, 24, 25, 26]) (m := 3) (σ' := ⟨[(1, .v (I n)), (4, .p 1 0), (6, .p 2 0), (7, .v (slv ((f_postedTo b n)).length q29.1)), (24, .v (slv ((f_postedTo b n)).length q29.1)), (25, .v (I (((f_postedTo b n)).length : Int))), (26, .v (I 0))], [GT.cells b pb, Zc TBare, [slv (b.mem).length q1.mem.1, slv (b.guests).length q1.guests.1, slv (b.outs).length q1.outs.1, I b.pend]]⟩) .nil (by kernel_rfl) ?_
      clear S; intro ac w β S
      refine RG.done rfl (nx_then (wp_block ?_))
      replace S := S.prune (keep := [1, 4, 6, 7, 24, 25, 26]) (m := 3) (σ' := ⟨[(1, .v (I n)), (4, .p 1 0), (6, .p 2 0), (7, .v (slv ((f_postedTo b n)).length q29.1)), (24, .v (slv ((f_postedTo b n)).length q29.1)), (25, .v (I (((f_postedTo b n)).length : Int))), (26, .v (I 0))], [GT.cells b pb, Zc TBare, [slv (b.mem).length q1.mem.1, slv (b.guests).length q1.guests.1, slv (b.outs).length q1.outs.1, I b.pend]]⟩) (by kernel_rfl)
      refine wp_loop_down (fun mm ac w => ∃ (k : Nat) (gs : List TGuest) (q36 : GT.Ptr (List TGuest)) (F37 : Bl) (u : World) (N : Bl) (β : Nat → Nat), mm = (f_postedTo b n).length - k ∧ (k ≤ (f_postedTo b n).length) ∧ (gs = ((f_postedTo b n).take k).foldl (stepPost n) b.guests) ∧ (gs.length = b.guests.length) ∧ St Try.prog Try.f39.ntmps w0 NoB u N β ⟨[(1, .v (I n)), (4, .p 1 0), (6, .p 2 0), (7, .v (slv ((f_postedTo b n)).length q29.1)), (24, .v (slv ((f_postedTo b n)).length q29.1)), (25, .v (I (((f_postedTo b n)).length : Int))), (26, .v (I (k : Int)))], [GT.cells b pb, Zc TBare, [slv (b.mem).length q1.mem.1, slv (gs).length q36.1, slv (b.outs).length q1.outs.1, I b.pend]]⟩ ac w ∧ Ow w0 NoB u N F37 gs q36 ∧ Ow w0 NoB u N F5 b.mem q1.mem ∧ Ow w0 NoB u N F11 b.outs q1.outs ∧ Ow w0 NoB u N F30 (f_postedTo b n) q29 ∧ Disj F37 F5 ∧ Disj F37 F11 ∧ Disj F37 F30) _ ⟨0, b.guests, q1.guests, F8, _, _, _, rfl, (by first | omega | (simp; done) | (simp; omega)), (by rfl), (by rfl), S.cast (by kernel_rfl), o9, o6, o12, o31, (Disj.symm d15), d17, d34⟩ ?_
      clear S o12 o31 o6 o9
      rintro mm ac w ⟨k, gs, q36, F37, u, N, β, rfl, hk, hg, hgl, S, o38, o6, o12, o31, d39, d40, d41⟩
      have hix := postedTo_bd (b := b) (n := n) (k := k) (by omega)
      have hpl : (f_postedTo b n).length ≤ b.guests.length := idx_len _ _
      refine wp_seq (RG.start ?_)
      refine S.quiet (k := 1) (keep := [1, 4, 6, 7, 24, 25, 26, 27]) (m := 3) (σ' := ⟨[(1, .v (I n)), (4, .p 1 0), (6, .p 2 0), (7, .v (slv ((f_postedTo b n)).length q29.1)), (24, .v (slv ((f_postedTo b n)).length q29.1)), (25, .v (I (((f_postedTo b n)).length : Int))), (26, .v (I (k : Int))), (27, .v (B (decide ((k : Int) < (((f_postedTo b n)).length : Int)))))], [GT.cells b pb, Zc TBare, [slv (b.mem).length q1.mem.1, slv (gs).length q36.1, slv (b.outs).length q1.outs.1, I b.pend]]⟩) .nil (by kernel_rfl) ?_
      clear S; intro ac w β S
      refine RG.done rfl (nx_then (wp_seq ?_))
      refine S.cond (e := (decide ((k : Int) < (((f_postedTo b n)).length : Int)))) (by kernel_rfl) (fun h42 => ?_) (fun h42 => ?_)
      · have g43 : (k : Int) < (((f_postedTo b n)).length : Int) := of_decide_eq_true h42
        refine wp_skip (nx_then (wp_seq (wp_block (wp_seq (RG.start ?_)))))
        refine S.quiet (k := 3) (keep := [1, 4, 6, 7, 9, 24, 25, 26]) (m := 3) (σ' := ⟨[(1, .v (I n)), (4, .p 1 0), (6, .p 2 0), (7, .v (slv ((f_postedTo b n)).length q29.1)), (9, .v (I (el (f_postedTo b n) k))), (24, .v (slv ((f_postedTo b n)).length q29.1)), (25, .v (I (((f_postedTo b n)).length : Int))), (26, .v (I (k : Int)))], [GT.cells b pb, Zc TBare, [slv (b.mem).length q1.mem.1, slv (gs).length q36.1, slv (b.outs).length q1.outs.1, I b.pend]]⟩) (.cons (Q_idx o31.rn (l := ((f_postedTo b n)).length) (k := k) (i := (k : Int)) rfl rfl (by omega) Try.underlying24 (by kernel_rfl)) (.cons (Q_el1 o31.rn (t := 3) (k := k) (by omega) rfl (by kernel_rfl)) .nil)) (by kernel_rfl) ?_
        clear S; intro ac w β S
        refine RG.done rfl (nx_then ?_)
        replace S := S.prune (keep := [1, 4, 6, 7, 9, 24, 25, 26]) (m := 3) (σ' := ⟨[(1, .v (I n)), (4, .p 1 0), (6, .p 2 0), (7, .v (slv ((f_postedTo b n)).length q29.1)), (9, .v (I (el (f_postedTo b n) k))), (24, .v (slv ((f_postedTo b n)).length q29.1)), (25, .v (I (((f_postedTo b n)).length : Int))), (26, .v (I (k : Int)))], [GT.cells b pb, Zc TBare, [slv (b.mem).length q1.mem.1, slv (gs).length q36.1, slv (b.outs).length q1.outs.1, I b.pend]]⟩) (by kernel_rfl)
        obtain ⟨u0, N0, β0, S, o38, o6, o12, o31⟩ : ∃ (u0 : World) (N0 : Bl) (β0 : Nat → Nat), St Try.prog Try.f39.ntmps w0 NoB u0 N0 β0 ⟨[(1, .v (I n)), (4, .p 1 0), (6, .p 2 0), (7, .v (slv ((f_postedTo b n)).length q29.1)), (9, .v (I (el (f_postedTo b n) k))), (24, .v (slv ((f_postedTo b n)).length q29.1)), (25, .v (I (((f_postedTo b n)).length : Int))), (26, .v (I (k : Int)))], [GT.cells b pb, Zc TBare, [slv (b.mem).length q1.mem.1, slv (gs).length q36.1, slv (b.outs).length q1.outs.1, I b.pend]]⟩ ac w ∧ Ow w0 NoB u0 N0 F37 gs q36 ∧ Ow w0 NoB u0 N0 F5 b.mem q1.mem ∧ Ow w0 NoB u0 N0 F11 b.outs q1.outs ∧ Ow w0 NoB u0 N0 F30 (f_postedTo b n) q29 := ⟨_, _, _, S.cast (by kernel_rfl), o38, o6, o12, o31⟩
        refine wp_region_cut (fun ac w => ∃ (q55 : GT.Ptr (List TGuest)) (F56 : Bl) (u : World) (N : Bl) (β : Nat → Nat), St Try.prog Try.f39.ntmps w0 NoB u N β ⟨[(1, .v (I n)), (4, .p 1 0), (6, .p 2 0), (7, .v (slv ((f_postedTo b n)).length q29.1)), (24, .v (slv ((f_postedTo b n)).length q29.1)), (25, .v (I (((f_postedTo b n)).length : Int))), (26, .v (I (k : Int)))], [GT.cells b pb, Zc TBare, [slv (b.mem).length q1.mem.1, slv (((gs).set (((el (f_postedTo b n) k)).toNat) ({ el gs (((el (f_postedTo b n) k)).toNat) with pend := ((f_postIrq ((el gs (((el (f_postedTo b n) k)).toNat)).pend) n).1) }))).length q55.1, slv (b.outs).length q1.outs.1, I b.pend]]⟩ ac w ∧ Ow w0 NoB u N F5 b.mem q1.mem ∧ Ow w0 NoB u N F11 b.outs q1.outs ∧ Ow w0 NoB u N F30 (f_postedTo b n) q29 ∧ Ow w0 NoB u N F56 ((gs).set (((el (f_postedTo b n) k)).toNat) ({ el gs (((el (f_postedTo b n) k)).toNat) with pend := ((f_postIrq ((el gs (((el (f_postedTo b n) k)).toNat)).pend) n).1) })) q55 ∧ Disj F5 F56 ∧ Disj F11 F56 ∧ Disj F30 F56 ∧ In64 b.pend) ?_ ?_
        · refine S.draw0 (f := 17) 16 rfl rfl ?_
          clear S; intro w S
          refine S.hoist (i := 0) (path := [0]) (keep := [1, 4, 6, 7, 9, 24, 25, 26, 31]) (m := 3) (σ' := ⟨[(1, .v (I n)), (4, .p 1 0), (6, .p 2 0), (7, .v (slv ((f_postedTo b n)).length q29.1)), (9, .v (I (el (f_postedTo b n) k))), (24, .v (slv ((f_postedTo b n)).length q29.1)), (25, .v (I (((f_postedTo b n)).length : Int))), (26, .v (I (k : Int))), (31, .p 2 1)], [GT.cells b pb, Zc TBare, [slv (b.mem).length q1.mem.1, slv (gs).length q36.1, slv (b.outs).length q1.outs.1, I b.pend]]⟩) (by kernel_rfl) (by kernel_rfl) .nil (by kernel_rfl) ?_
          clear S; intro ac S
          refine S.hoist (i := 1) (path := [1]) (keep := [1, 4, 6, 7, 9, 24, 25, 26, 32]) (m := 3) (σ' := ⟨[(1, .v (I n)), (4, .p 1 0), (6, .p 2 0), (7, .v (slv ((f_postedTo b n)).length q29.1)), (9, .v (I (el (f_postedTo b n) k))), (24, .v (slv ((f_postedTo b n)).length q29.1)), (25, .v (I (((f_postedTo b n)).length : Int))), (26, .v (I (k : Int))), (32, .v (slv (gs).length q36.1))], [GT.cells b pb, Zc TBare, [slv (b.mem).length q1.mem.1, slv (gs).length q36.1, slv (b.outs).length q1.outs.1, I b.pend]]⟩) (by kernel_rfl) (by kernel_rfl) .nil (by kernel_rfl) ?_
          clear S; intro ac S
          refine S.hoist (i := 2) (path := [2]) (keep := [1, 4, 6, 7, 9, 24, 25, 26, 32, 33]) (m := 3) (σ' := ⟨[(1, .v (I n)), (4, .p 1 0), (6, .p 2 0), (7, .v (slv ((f_postedTo b n)).length q29.1)), (9, .v (I (el (f_postedTo b n) k))), (24, .v (slv ((f_postedTo b n)).length q29.1)), (25, .v (I (((f_postedTo b n)).length : Int))), (26, .v (I (k : Int))), (32, .v (slv (gs).length q36.1)), (33, .v (I (el (f_postedTo b n) k)))], [GT.cells b pb, Zc TBare, [slv (b.mem).length q1.mem.1, slv (gs).length q36.1, slv (b.outs).length q1.outs.1, I b.pend]]⟩) (by kernel_rfl) (by kernel_rfl) .nil (by kernel_rfl) ?_
          clear S; intro ac S
          refine S.hoist (i := 3) (path := [3]) (keep := [1, 4, 6, 7, 9, 24, 25, 26, 32, 33, 34]) (m := 3) (σ' := ⟨[(1, .v (I n)), (4, .p 1 0), (6, .p 2 0), (7, .v (slv ((f_postedTo b n)).length q29.1)), (9, .v (I (el (f_postedTo b n) k))), (24, .v (slv ((f_postedTo b n)).length q29.1)), (25, .v (I (((f_postedTo b n)).length : Int))), (26, .v (I (k : Int))), (32, .v (slv (gs).length q36.1)), (33, .v (I (el (f_postedTo b n) k))), (34, .p 2 1)], [GT.cells b pb, Zc TBare, [slv (b.mem).length q1.mem.1, slv (gs).length q36.1, slv (b.outs).length q1.outs.1, I b.pend]]⟩) (by kernel_rfl) (by kernel_rfl) .nil (by kernel_rfl) ?_
          clear S; intro ac S
          refine S.hoist (i := 4) (path := [4]) (keep := [1, 4, 6, 7, 9, 24, 25, 26, 32, 33, 35]) (m := 3) (σ' := ⟨[(1, .v (I n)), (4, .p 1 0), (6, .p 2 0), (7, .v (slv ((f_postedTo b n)).length q29.1)), (9, .v (I (el (f_postedTo b n) k))), (24, .v (slv ((f_postedTo b n)).length q29.1)), (25, .v (I (((f_postedTo b n)).length : Int))), (26, .v (I (k : Int))), (32, .v (slv (gs).length q36.1)), (33, .v (I (el (f_postedTo b n) k))), (35, .v (slv (gs).length q36.1))], [GT.cells b pb, Zc TBare, [slv (b.mem).length q1.mem.1, slv (gs).length q36.1, slv (b.outs).length q1.outs.1, I b.pend]]⟩) (by kernel_rfl) (by kernel_rfl) .nil (by kernel_rfl) ?_
          clear S; intro ac S
          refine S.hoist (i := 5) (path := [5]) (keep := [1, 4, 6, 7, 24, 25, 26, 32, 33, 35, 36]) (m := 3) (σ' := ⟨[(1, .v (I n)), (4, .p 1 0), (6, .p 2 0), (7, .v (slv ((f_postedTo b n)).length q29.1)), (24, .v (slv ((f_postedTo b n)).length q29.1)), (25, .v (I (((f_postedTo b n)).length : Int))), (26, .v (I (k : Int))), (32, .v (slv (gs).length q36.1)), (33, .v (I (el (f_postedTo b n) k))), (35, .v (slv (gs).length q36.1)), (36, .v (I (el (f_postedTo b n) k)))], [GT.cells b pb, Zc TBare, [slv (b.mem).length q1.mem.1, slv (gs).length q36.1, slv (b.outs).length q1.outs.1, I b.pend]]⟩) (by kernel_rfl) (by kernel_rfl) .nil (by kernel_rfl) ?_
          clear S; intro ac S
          refine S.hoist (i := 6) (path := [6]) (keep := [1, 4, 6, 7, 24, 25, 26, 32, 33, 37]) (m := 3) (σ' := ⟨[(1, .v (I n)), (4, .p 1 0), (6, .p 2 0), (7, .v (slv ((f_postedTo b n)).length q29.1)), (24, .v (slv ((f_postedTo b n)).length q29.1)), (25, .v (I (((f_postedTo b n)).length : Int))), (26, .v (I (k : Int))), (32, .v (slv (gs).length q36.1)), (33, .v (I (el (f_postedTo b n) k))), (37, .v (pt q36.1.b (q36.1.off + (((el (f_postedTo b n) k)).toNat) * 15)))], [GT.cells b pb, Zc TBare, [slv (b.mem).length q1.mem.1, slv (gs).length q36.1, slv (b.outs).length q1.outs.1, I b.pend]]⟩) (by kernel_rfl) (by kernel_rfl) (.cons (Q_idx o38.rn (l := (gs).length) (k := ((el (f_postedTo b n) k)).toNat) (i := (el (f_postedTo b n) k)) rfl (by omega) (by omega) Try.underlying39 (by kernel_rfl)) .nil) (by kernel_rfl) ?_
          clear S; intro ac S
          refine S.hoist (i := 7) (path := [7]) (keep := [1, 4, 6, 7, 24, 25, 26, 32, 33, 38]) (m := 3) (σ' := ⟨[(1, .v (I n)), (4, .p 1 0), (6, .p 2 0), (7, .v (slv ((f_postedTo b n)).length q29.1)), (24, .v (slv ((f_postedTo b n)).length q29.1)), (25, .v (I (((f_postedTo b n)).length : Int))), (26, .v (I (k : Int))), (32, .v (slv (gs).length q36.1)), (33, .v (I (el (f_postedTo b n) k))), (38, .v (pt q36.1.b (q36.1.off + (((el (f_postedTo b n) k)).toNat) * 15 + 8)))], [GT.cells b pb, Zc TBare, [slv (b.mem).length q1.mem.1, slv (gs).length q36.1, slv (b.outs).length q1.outs.1, I b.pend]]⟩) (by kernel_rfl) (by kernel_rfl) .nil (by kernel_rfl) ?_
          clear S; intro ac S
          refine S.hoist (i := 8) (path := [8]) (keep := [1, 4, 6, 7, 24, 25, 26, 32, 33, 39]) (m := 3) (σ' := ⟨[(1, .v (I n)), (4, .p 1 0), (6, .p 2 0), (7, .v (slv ((f_postedTo b n)).length q29.1)), (24, .v (slv ((f_postedTo b n)).length q29.1)), (25, .v (I (((f_postedTo b n)).length : Int))), (26, .v (I (k : Int))), (32, .v (slv (gs).length q36.1)), (33, .v (I (el (f_postedTo b n) k))), (39, .v (I ((el gs (((el (f_postedTo b n) k)).toNat)).pend)))], [GT.cells b pb, Zc TBare, [slv (b.mem).length q1.mem.1, slv (gs).length q36.1, slv (b.outs).length q1.outs.1, I b.pend]]⟩) (by kernel_rfl) (by kernel_rfl) (.cons (Q_cell o38.rn (t := 3) (k := ((el (f_postedTo b n) k)).toNat) (j := 8) (v := I ((el gs (((el (f_postedTo b n) k)).toNat)).pend)) (by omega) (by kernel_rfl) (by kernel_rfl)) .nil) (by kernel_rfl) ?_
          clear S; intro ac S
          refine S.hoist (i := 9) (path := [9]) (keep := [1, 4, 6, 7, 24, 25, 26, 32, 33, 39, 40]) (m := 3) (σ' := ⟨[(1, .v (I n)), (4, .p 1 0), (6, .p 2 0), (7, .v (slv ((f_postedTo b n)).length q29.1)), (24, .v (slv ((f_postedTo b n)).length q29.1)), (25, .v (I (((f_postedTo b n)).length : Int))), (26, .v (I (k : Int))), (32, .v (slv (gs).length q36.1)), (33, .v (I (el (f_postedTo b n) k))), (39, .v (I ((el gs (((el (f_postedTo b n) k)).toNat)).pend))), (40, .v (I n))], [GT.cells b pb, Zc TBare, [slv (b.mem).length q1.mem.1, slv (gs).length q36.1, slv (b.outs).length q1.outs.1, I b.pend]]⟩) (by kernel_rfl) (by kernel_rfl) .nil (by kernel_rfl) ?_
          clear S; intro ac S
          refine WD.nameW fun W hW => ?_
          refine WD.castW (l' := mkL 17 [0, 1, 2, 3, 4, 5, 6, 7, 8, 9]) (by kernel_rfl) ?_
          have hK66 : ∀ (ac : Act) (w : World) (q55 : GT.Ptr (List TGuest)) (F56 : Bl) (u : World) (N : Bl) (β : Nat → Nat) (S : St Try.prog Try.f39.ntmps w0 NoB u N β ⟨[(1, .v (I n)), (4, .p 1 0), (6, .p 2 0), (7, .v (slv ((f_postedTo b n)).length q29.1)), (24, .v (slv ((f_postedTo b n)).length q29.1)), (25, .v (I (((f_postedTo b n)).length : Int))), (26, .v (I (k : Int)))], [GT.cells b pb, Zc TBare, [slv (b.mem).length q1.mem.1, slv (((gs).set (((el (f_postedTo b n) k)).toNat) ({ el gs (((el (f_postedTo b n) k)).toNat) with pend := ((f_postIrq ((el gs (((el (f_postedTo b n) k)).toNat)).pend) n).1) }))).length q55.1, slv (b.outs).length q1.outs.1, I b.pend]]⟩ ac w) (o6 : Ow w0 NoB u N F5 b.mem q1.mem) (o12 : Ow w0 NoB u N F11 b.outs q1.outs) (o31 : Ow w0 NoB u N F30 (f_postedTo b n) q29) (o54 : Ow w0 NoB u N F56 ((gs).set (((el (f_postedTo b n) k)).toNat) ({ el gs (((el (f_postedTo b n) k)).toNat) with pend := ((f_postIrq ((el gs (((el (f_postedTo b n) k)).toNat)).pend) n).1) })) q55) (d67 : Disj F5 F56) (d68 : Disj F11 F56) (d69 : Disj F30 F56) (i44 : In64 b.pend) (hNN : True) (hBB : True), W 0 (mkL 17 [0, 1, 2, 3, 4, 5, 6, 7, 8, 9, 10, 11, 12, 13, 14, 15, 16]) ac w := by
            intro ac w q55 F56 u N β S o6 o12 o31 o54 d67 d68 d69 i44 hNN hBB
            rw [hW]
            refine WD.done (by kernel_rfl) ?_ _
            replace S := S.prune (keep := [1, 4, 6, 7, 24, 25, 26]) (m := 3) (σ' := ⟨[(1, .v (I n)), (4, .p 1 0), (6, .p 2 0), (7, .v (slv ((f_postedTo b n)).length q29.1)), (24, .v (slv ((f_postedTo b n)).length q29.1)), (25, .v (I (((f_postedTo b n)).length : Int))), (26, .v (I (k : Int)))], [GT.cells b pb, Zc TBare, [slv (b.mem).length q1.mem.1, slv (((gs).set (((el (f_postedTo b n) k)).toNat) ({ el gs (((el (f_postedTo b n) k)).toNat) with pend := ((f_postIrq ((el gs (((el (f_postedTo b n) k)).toNat)).pend) n).1) }))).length q55.1, slv (b.outs).length q1.outs.1, I b.pend]]⟩) (by kernel_rfl)
            exact ⟨rfl, q55, F56, _, _, _, S.cast (by kernel_rfl), o6, o12, o31, o54, d67, d68, d69, i44⟩
          have hK70 : ∀ (ac : Act) (w : World)  (u : World) (N : Bl) (β : Nat → Nat) (S : St Try.prog Try.f39.ntmps w0 NoB u N β ⟨[(1, .v (I n)), (4, .p 1 0), (6, .p 2 0), (7, .v (slv ((f_postedTo b n)).length q29.1)), (24, .v (slv ((f_postedTo b n)).length q29.1)), (25, .v (I (((f_postedTo b n)).length : Int))), (26, .v (I (k : Int))), (42, .v (I ((f_postIrq ((el gs (((el (f_postedTo b n) k)).toNat)).pend) n).1))), (45, .v (pt q36.1.b (q36.1.off + (((el (f_postedTo b n) k)).toNat) * 15 + 8)))], [GT.cells b pb, Zc TBare, [slv (b.mem).length q1.mem.1, slv (gs).length q36.1, slv (b.outs).length q1.outs.1, I b.pend]]⟩ ac w) (o38 : Ow w0 NoB u N F37 gs q36) (o6 : Ow w0 NoB u N F5 b.mem q1.mem) (o12 : Ow w0 NoB u N F11 b.outs q1.outs) (o31 : Ow w0 NoB u N F30 (f_postedTo b n) q29) (i44 : In64 b.pend) (hNN : ∀ b, N0 b → N b ∧ u.heap[b]? = u0.heap[b]?) (hBB : ∀ k, k < 3 → β k = β0 k), W 1 (mkL 17 [0, 1, 2, 3, 4, 5, 6, 7, 8, 9, 10, 11, 12, 13, 14, 15]) ac w := by
            intro ac w  u N β S o38 o6 o12 o31 i44 hNN hBB
            rw [hW]
            refine WD.one (i := 16) (by kernel_rfl) ?_
            refine id (S.setEl (α := TGuest) o38 (t := 3) (v := I ((f_postIrq ((el gs (((el (f_postedTo b n) k)).toNat)).pend) n).1)) (k := ((el (f_postedTo b n) k)).toNat) (j := 8) (off := q36.1.off + (((el (f_postedTo b n) k)).toNat) * 15 + 8) (y := ({ el gs (((el (f_postedTo b n) k)).toNat) with pend := ((f_postIrq ((el gs (((el (f_postedTo b n) k)).toNat)).pend) n).1) } : TGuest)) (q := (q36.2 (((el (f_postedTo b n) k)).toNat))) (Fy := NoB) (by kernel_rfl) (by kernel_rfl) (by omega) (by kernel_rfl) (by kernel_rfl) (Nat.le_of_ble_eq_true (by kernel_rfl)) (by kernel_rfl) (fun G g _ => ⟨G, ows_Guest_pend g ((postIrq_in64 (RGuest.pend (d := (el gs (((el (f_postedTo b n) k)).toNat))) (LRd.el o38.rn (((el (f_postedTo b n) k)).toNat) (by omega))))), fun _ h => .inl h⟩) (fun b _ h => False.elim h) (fun b h => False.elim h) (fun b h => False.elim h) ?_)
            clear S; intro w N F72 q73 S up o71 d74 s75
            refine WD.last (by kernel_rfl) ?_
            have d76 : Disj F5 F72 := d74 _ (Disj.symm d39) (fun b _ h => False.elim h) o6.sub
            have d77 : Disj F11 F72 := d74 _ (Disj.symm d40) (fun b _ h => False.elim h) o12.sub
            have d78 : Disj F30 F72 := d74 _ (Disj.symm d41) (fun b _ h => False.elim h) o31.sub
            replace o6 := o6.upF (Disj.symm d39) up
            replace o12 := o12.upF (Disj.symm d40) up
            replace o31 := o31.upF (Disj.symm d41) up
            clear up d74 o38
            have l79 : ((gs).set (((el (f_postedTo b n) k)).toNat) ({ el gs (((el (f_postedTo b n) k)).toNat) with pend := ((f_postIrq ((el gs (((el (f_postedTo b n) k)).toNat)).pend) n).1) })).length = (gs).length := List.length_set
            replace S := S.prune (keep := [1, 4, 6, 7, 24, 25, 26, 42, 45]) (m := 3) (σ' := ⟨[(1, .v (I n)), (4, .p 1 0), (6, .p 2 0), (7, .v (slv ((f_postedTo b n)).length q29.1)), (24, .v (slv ((f_postedTo b n)).length q29.1)), (25, .v (I (((f_postedTo b n)).length : Int))), (26, .v (I (k : Int))), (42, .v (I ((f_postIrq ((el gs (((el (f_postedTo b n) k)).toNat)).pend) n).1))), (45, .v (pt q36.1.b (q36.1.off + (((el (f_postedTo b n) k)).toNat) * 15 + 8)))], [GT.cells b pb, Zc TBare, [slv (b.mem).length q1.mem.1, slv (gs).length q36.1, slv (b.outs).length q1.outs.1, I b.pend]]⟩) (by kernel_rfl)
            replace S := S.cast (σ' := ⟨[(1, .v (I n)), (4, .p 1 0), (6, .p 2 0), (7, .v (slv ((f_postedTo b n)).length q29.1)), (24, .v (slv ((f_postedTo b n)).length q29.1)), (25, .v (I (((f_postedTo b n)).length : Int))), (26, .v (I (k : Int))), (42, .v (I ((f_postIrq ((el gs (((el (f_postedTo b n) k)).toNat)).pend) n).1))), (45, .v (pt q36.1.b (q36.1.off + (((el (f_postedTo b n) k)).toNat) * 15 + 8)))], [GT.cells b pb, Zc TBare, [slv (b.mem).length q1.mem.1, slv (((gs).set (((el (f_postedTo b n) k)).toNat) ({ el gs (((el (f_postedTo b n) k)).toNat) with pend := ((f_postIrq ((el gs (((el (f_postedTo b n) k)).toNat)).pend) n).1) }))).length q36.1, slv (b.outs).length q1.outs.1, I b.pend]]⟩) (by rw [show (((gs).set (((el (f_postedTo b n) k)).toNat) ({ el gs (((el (f_postedTo b n) k)).toNat) with pend := ((f_postIrq ((el gs (((el (f_postedTo b n) k)).toNat)).pend) n).1) }))).length = (gs).length by omega])
            exact WD.ofW hW (by kernel_rfl) (hK66 ac w (q36.1, q73) F72 _ _ _ (S.prune (keep := [1, 4, 6, 7, 24, 25, 26]) (m := 3) (by kernel_rfl)) o6 o12 o31 o71 d76 d77 d78 i44 trivial trivial)
          have hK80 : ∀ (ac : Act) (w : World) (q55 : GT.Ptr (List TGuest)) (F56 : Bl) (u : World) (N : Bl) (β : Nat → Nat) (S : St Try.prog Try.f39.ntmps w0 NoB u N β ⟨[(1, .v (I n)), (4, .p 1 0), (6, .p 2 0), (7, .v (slv ((f_postedTo b n)).length q29.1)), (24, .v (slv ((f_postedTo b n)).length q29.1)), (25, .v (I (((f_postedTo b n)).length : Int))), (26, .v (I (k : Int))), (30, .v (.tuple #[I ((f_postIrq ((el gs (((el (f_postedTo b n) k)).toNat)).pend) n).1), B ((f_postIrq ((el gs (((el (f_postedTo b n) k)).toNat)).pend) n).2)]))], [GT.cells b pb, Zc TBare, [slv (b.mem).length q1.mem.1, slv (((gs).set (((el (f_postedTo b n) k)).toNat) ({ el gs (((el (f_postedTo b n) k)).toNat) with pend := ((f_postIrq ((el gs (((el (f_postedTo b n) k)).toNat)).pend) n).1) }))).length q55.1, slv (b.outs).length q1.outs.1, I b.pend]]⟩ ac w) (o6 : Ow w0 NoB u N F5 b.mem q1.mem) (o12 : Ow w0 NoB u N F11 b.outs q1.outs) (o31 : Ow w0 NoB u N F30 (f_postedTo b n) q29) (o54 : Ow w0 NoB u N F56 ((gs).set (((el (f_postedTo b n) k)).toNat) ({ el gs (((el (f_postedTo b n) k)).toNat) with pend := ((f_postIrq ((el gs (((el (f_postedTo b n) k)).toNat)).pend) n).1) })) q55) (d81 : Disj F5 F56) (d82 : Disj F11 F56) (d83 : Disj F30 F56) (i44 : In64 b.pend) (hNN : True) (hBB : True), W 1 (mkL 17 [0, 1, 2, 3, 4, 5, 6, 7, 8, 9, 10, 11, 12, 14, 15, 16]) ac w := by
            intro ac w q55 F56 u N β S o6 o12 o31 o54 d81 d82 d83 i44 hNN hBB
            rw [hW]
            refine WD.one (i := 13) (by kernel_rfl) ?_
            refine S.stepq (i := 13) (keep := [1, 4, 6, 7, 24, 25, 26]) (m := 3) (σ' := ⟨[(1, .v (I n)), (4, .p 1 0), (6, .p 2 0), (7, .v (slv ((f_postedTo b n)).length q29.1)), (24, .v (slv ((f_postedTo b n)).length q29.1)), (25, .v (I (((f_postedTo b n)).length : Int))), (26, .v (I (k : Int)))], [GT.cells b pb, Zc TBare, [slv (b.mem).length q1.mem.1, slv (((gs).set (((el (f_postedTo b n) k)).toNat) ({ el gs (((el (f_postedTo b n) k)).toNat) with pend := ((f_postIrq ((el gs (((el (f_postedTo b n) k)).toNat)).pend) n).1) }))).length q55.1, slv (b.outs).length q1.outs.1, I b.pend]]⟩) .nil (by kernel_rfl) ?_
            clear S; intro ac w β S hβ
            refine WD.last (by kernel_rfl) ?_
            clear hβ
            exact WD.ofW hW (by kernel_rfl) (hK66 ac w q55 F56 _ _ _ (S.prune (keep := [1, 4, 6, 7, 24, 25, 26]) (m := 3) (by kernel_rfl)) o6 o12 o31 o54 d81 d82 d83 i44 trivial trivial)
          have hK84 : ∀ (ac : Act) (w : World)  (u : World) (N : Bl) (β : Nat → Nat) (S : St Try.prog Try.f39.ntmps w0 NoB u N β ⟨[(1, .v (I n)), (4, .p 1 0), (6, .p 2 0), (7, .v (slv ((f_postedTo b n)).length q29.1)), (24, .v (slv ((f_postedTo b n)).length q29.1)), (25, .v (I (((f_postedTo b n)).length : Int))), (26, .v (I (k : Int))), (42, .v (I ((f_postIrq ((el gs (((el (f_postedTo b n) k)).toNat)).pend) n).1))), (44, .v (pt q36.1.b (q36.1.off + (((el (f_postedTo b n) k)).toNat) * 15)))], [GT.cells b pb, Zc TBare, [slv (b.mem).length q1.mem.1, slv (gs).length q36.1, slv (b.outs).length q1.outs.1, I b.pend]]⟩ ac w) (o38 : Ow w0 NoB u N F37 gs q36) (o6 : Ow w0 NoB u N F5 b.mem q1.mem) (o12 : Ow w0 NoB u N F11 b.outs q1.outs) (o31 : Ow w0 NoB u N F30 (f_postedTo b n) q29) (i44 : In64 b.pend) (hNN : ∀ b, N0 b → N b ∧ u.heap[b]? = u0.heap[b]?) (hBB : ∀ k, k < 3 → β k = β0 k), W 2 (mkL 17 [0, 1, 2, 3, 4, 5, 6, 7, 8, 9, 10, 11, 12, 13, 14]) ac w := by
            intro ac w  u N β S o38 o6 o12 o31 i44 hNN hBB
            rw [hW]
            refine WD.one (i := 15) (by kernel_rfl) ?_
            refine S.stepq (i := 15) (keep := [1, 4, 6, 7, 24, 25, 26, 42, 45]) (m := 3) (σ' := ⟨[(1, .v (I n)), (4, .p 1 0), (6, .p 2 0), (7, .v (slv ((f_postedTo b n)).length q29.1)), (24, .v (slv ((f_postedTo b n)).length q29.1)), (25, .v (I (((f_postedTo b n)).length : Int))), (26, .v (I (k : Int))), (42, .v (I ((f_postIrq ((el gs (((el (f_postedTo b n) k)).toNat)).pend) n).1))), (45, .v (pt q36.1.b (q36.1.off + (((el (f_postedTo b n) k)).toNat) * 15 + 8)))], [GT.cells b pb, Zc TBare, [slv (b.mem).length q1.mem.1, slv (gs).length q36.1, slv (b.outs).length q1.outs.1, I b.pend]]⟩) .nil (by kernel_rfl) ?_
            clear S; intro ac w β S hβ
            have hB2 := fun k (hk : k < 3) => (hβ k (Nat.lt_of_lt_of_le hk (Nat.le_of_ble_eq_true rfl))).trans (hBB k hk)
            refine WD.stayK S (fun b h => ⟨(hNN b h).1, (hNN b h).2⟩) hB2 (fun _ _ h => h) ?_
            clear hβ
            exact WD.ofW hW (by kernel_rfl) (hK70 ac w  _ _ _ (S.prune (keep := [1, 4, 6, 7, 24, 25, 26, 42, 45]) (m := 3) (by kernel_rfl)) o38 o6 o12 o31 i44 hNN hB2)
          have hK85 : ∀ (ac : Act) (w : World)  (u : World) (N : Bl) (β : Nat → Nat) (S : St Try.prog Try.f39.ntmps w0 NoB u N β ⟨[(1, .v (I n)), (4, .p 1 0), (6, .p 2 0), (7, .v (slv ((f_postedTo b n)).length q29.1)), (24, .v (slv ((f_postedTo b n)).length q29.1)), (25, .v (I (((f_postedTo b n)).length : Int))), (26, .v (I (k : Int))), (30, .v (.tuple #[I ((f_postIrq ((el gs (((el (f_postedTo b n) k)).toNat)).pend) n).1), B ((f_postIrq ((el gs (((el (f_postedTo b n) k)).toNat)).pend) n).2)])), (42, .v (I ((f_postIrq ((el gs (((el (f_postedTo b n) k)).toNat)).pend) n).1))), (45, .v (pt q36.1.b (q36.1.off + (((el (f_postedTo b n) k)).toNat) * 15 + 8)))], [GT.cells b pb, Zc TBare, [slv (b.mem).length q1.mem.1, slv (gs).length q36.1, slv (b.outs).length q1.outs.1, I b.pend]]⟩ ac w) (o38 : Ow w0 NoB u N F37 gs q36) (o6 : Ow w0 NoB u N F5 b.mem q1.mem) (o12 : Ow w0 NoB u N F11 b.outs q1.outs) (o31 : Ow w0 NoB u N F30 (f_postedTo b n) q29) (i44 : In64 b.pend) (hNN : ∀ b, N0 b → N b ∧ u.heap[b]? = u0.heap[b]?) (hBB : ∀ k, k < 3 → β k = β0 k), W 2 (mkL 17 [0, 1, 2, 3, 4, 5, 6, 7, 8, 9, 10, 11, 12, 14, 15]) ac w := by
            intro ac w  u N β S o38 o6 o12 o31 i44 hNN hBB
            rw [hW]
            refine WD.many (rs := [13, 16]) (by kernel_rfl) rfl (List.forall_mem_cons.2 ⟨?_, List.forall_mem_cons.2 ⟨?_, List.forall_mem_nil _⟩⟩)
            · refine S.stepq (i := 13) (keep := [1, 4, 6, 7, 24, 25, 26, 42, 45]) (m := 3) (σ' := ⟨[(1, .v (I n)), (4, .p 1 0), (6, .p 2 0), (7, .v (slv ((f_postedTo b n)).length q29.1)), (24, .v (slv ((f_postedTo b n)).length q29.1)), (25, .v (I (((f_postedTo b n)).length : Int))), (26, .v (I (k : Int))), (42, .v (I ((f_postIrq ((el gs (((el (f_postedTo b n) k)).toNat)).pend) n).1))), (45, .v (pt q36.1.b (q36.1.off + (((el (f_postedTo b n) k)).toNat) * 15 + 8)))], [GT.cells b pb, Zc TBare, [slv (b.mem).length q1.mem.1, slv (gs).length q36.1, slv (b.outs).length q1.outs.1, I b.pend]]⟩) .nil (by kernel_rfl) ?_
              clear S; intro ac w β S hβ
              have hB2 := fun k (hk : k < 3) => (hβ k (Nat.lt_of_lt_of_le hk (Nat.le_of_ble_eq_true rfl))).trans (hBB k hk)
              refine WD.stayK S (fun b h => ⟨(hNN b h).1, (hNN b h).2⟩) hB2 (fun _ _ h => h) ?_
              clear hβ
              exact WD.ofW hW (by kernel_rfl) (hK70 ac w  _ _ _ (S.prune (keep := [1, 4, 6, 7, 24, 25, 26, 42, 45]) (m := 3) (by kernel_rfl)) o38 o6 o12 o31 i44 hNN hB2)
            · refine id (S.setEl (α := TGuest) o38 (t := 3) (v := I ((f_postIrq ((el gs (((el (f_postedTo b n) k)).toNat)).pend) n).1)) (k := ((el (f_postedTo b n) k)).toNat) (j := 8) (off := q36.1.off + (((el (f_postedTo b n) k)).toNat) * 15 + 8) (y := ({ el gs (((el (f_postedTo b n) k)).toNat) with pend := ((f_postIrq ((el gs (((el (f_postedTo b n) k)).toNat)).pend) n).1) } : TGuest)) (q := (q36.2 (((el (f_postedTo b n) k)).toNat))) (Fy := NoB) (by kernel_rfl) (by kernel_rfl) (by omega) (by kernel_rfl) (by kernel_rfl) (Nat.le_of_ble_eq_true (by kernel_rfl)) (by kernel_rfl) (fun G g _ => ⟨G, ows_Guest_pend g ((postIrq_in64 (RGuest.pend (d := (el gs (((el (f_postedTo b n) k)).toNat))) (LRd.el o38.rn (((el (f_postedTo b n) k)).toNat) (by omega))))), fun _ h => .inl h⟩) (fun b _ h => False.elim h) (fun b h => False.elim h) (fun b h => False.elim h) ?_)
              clear S; intro w N F87 q88 S up o86 d89 s90
              refine WD.last (by kernel_rfl) ?_
              have d91 : Disj F5 F87 := d89 _ (Disj.symm d39) (fun b _ h => False.elim h) o6.sub
              have d92 : Disj F11 F87 := d89 _ (Disj.symm d40) (fun b _ h => False.elim h) o12.sub
              have d93 : Disj F30 F87 := d89 _ (Disj.symm d41) (fun b _ h => False.elim h) o31.sub
              replace o6 := o6.upF (Disj.symm d39) up
              replace o12 := o12.upF (Disj.symm d40) up
              replace o31 := o31.upF (Disj.symm d41) up
              clear up d89 o38
              have l94 : ((gs).set (((el (f_postedTo b n) k)).toNat) ({ el gs (((el (f_postedTo b n) k)).toNat) with pend := ((f_postIrq ((el gs (((el (f_postedTo b n) k)).toNat)).pend) n).1) })).length = (gs).length := List.length_set
              replace S := S.prune (keep := [1, 4, 6, 7, 24, 25, 26, 30, 42, 45]) (m := 3) (σ' := ⟨[(1, .v (I n)), (4, .p 1 0), (6, .p 2 0), (7, .v (slv ((f_postedTo b n)).length q29.1)), (24, .v (slv ((f_postedTo b n)).length q29.1)), (25, .v (I (((f_postedTo b n)).length : Int))), (26, .v (I (k : Int))), (30, .v (.tuple #[I ((f_postIrq ((el gs (((el (f_postedTo b n) k)).toNat)).pend) n).1), B ((f_postIrq ((el gs (((el (f_postedTo b n) k)).toNat)).pend) n).2)])), (42, .v (I ((f_postIrq ((el gs (((el (f_postedTo b n) k)).toNat)).pend) n).1))), (45, .v (pt q36.1.b (q36.1.off + (((el (f_postedTo b n) k)).toNat) * 15 + 8)))], [GT.cells b pb, Zc TBare, [slv (b.mem).length q1.mem.1, slv (gs).length q36.1, slv (b.outs).length q1.outs.1, I b.pend]]⟩) (by kernel_rfl)
              replace S := S.cast (σ' := ⟨[(1, .v (I n)), (4, .p 1 0), (6, .p 2 0), (7, .v (slv ((f_postedTo b n)).length q29.1)), (24, .v (slv ((f_postedTo b n)).length q29.1)), (25, .v (I (((f_postedTo b n)).length : Int))), (26, .v (I (k : Int))), (30, .v (.tuple #[I ((f_postIrq ((el gs (((el (f_postedTo b n) k)).toNat)).pend) n).1), B ((f_postIrq ((el gs (((el (f_postedTo b n) k)).toNat)).pend) n).2)])), (42, .v (I ((f_postIrq ((el gs (((el (f_postedTo b n) k)).toNat)).pend) n).1))), (45, .v (pt q36.1.b (q36.1.off + (((el (f_postedTo b n) k)).toNat) * 15 + 8)))], [GT.cells b pb, Zc TBare, [slv (b.mem).length q1.mem.1, slv (((gs).set (((el (f_postedTo b n) k)).toNat) ({ el gs (((el (f_postedTo b n) k)).toNat) with pend := ((f_postIrq ((el gs (((el (f_postedTo b n) k)).toNat)).pend) n).1) }))).length q36.1, slv (b.outs).length q1.outs.1, I b.pend]]⟩) (by rw [show (((gs).set (((el (f_postedTo b n) k)).toNat) ({ el gs (((el (f_postedTo b n) k)).toNat) with pend := ((f_postIrq ((el gs (((el (f_postedTo b n) k)).toNat)).pend) n).1) }))).length = (gs).length by omega])
              exact WD.ofW hW (by kernel_rfl) (hK80 ac w (q36.1, q88) F87 _ _ _ (S.prune (keep := [1, 4, 6, 7, 24, 25, 26, 30]) (m := 3) (by kernel_rfl)) o6 o12 o31 o86 d91 d92 d93 i44 trivial trivial)
          have hK95 : ∀ (ac : Act) (w : World)  (u : World) (N : Bl) (β : Nat → Nat) (S : St Try.prog Try.f39.ntmps w0 NoB u N β ⟨[(1, .v (I n)), (4, .p 1 0), (6, .p 2 0), (7, .v (slv ((f_postedTo b n)).length q29.1)), (24, .v (slv ((f_postedTo b n)).length q29.1)), (25, .v (I (((f_postedTo b n)).length : Int))), (26, .v (I (k : Int))), (32, .v (slv (gs).length q36.1)), (33, .v (I (el (f_postedTo b n) k))), (42, .v (I ((f_postIrq ((el gs (((el (f_postedTo b n) k)).toNat)).pend) n).1)))], [GT.cells b pb, Zc TBare, [slv (b.mem).length q1.mem.1, slv (gs).length q36.1, slv (b.outs).length q1.outs.1, I b.pend]]⟩ ac w) (o38 : Ow w0 NoB u N F37 gs q36) (o6 : Ow w0 NoB u N F5 b.mem q1.mem) (o12 : Ow w0 NoB u N F11 b.outs q1.outs) (o31 : Ow w0 NoB u N F30 (f_postedTo b n) q29) (i44 : In64 b.pend) (hNN : ∀ b, N0 b → N b ∧ u.heap[b]? = u0.heap[b]?) (hBB : ∀ k, k < 3 → β k = β0 k), W 3 (mkL 17 [0, 1, 2, 3, 4, 5, 6, 7, 8, 9, 10, 11, 12, 13]) ac w := by
            intro ac w  u N β S o38 o6 o12 o31 i44 hNN hBB
            rw [hW]
            refine WD.one (i := 14) (by kernel_rfl) ?_
            refine S.stepq (i := 14) (keep := [1, 4, 6, 7, 24, 25, 26, 42, 44]) (m := 3) (σ' := ⟨[(1, .v (I n)), (4, .p 1 0), (6, .p 2 0), (7, .v (slv ((f_postedTo b n)).length q29.1)), (24, .v (slv ((f_postedTo b n)).length q29.1)), (25, .v (I (((f_postedTo b n)).length : Int))), (26, .v (I (k : Int))), (42, .v (I ((f_postIrq ((el gs (((el (f_postedTo b n) k)).toNat)).pend) n).1))), (44, .v (pt q36.1.b (q36.1.off + (((el (f_postedTo b n) k)).toNat) * 15)))], [GT.cells b pb, Zc TBare, [slv (b.mem).length q1.mem.1, slv (gs).length q36.1, slv (b.outs).length q1.outs.1, I b.pend]]⟩) (.cons (Q_idx o38.rn (l := (gs).length) (k := ((el (f_postedTo b n) k)).toNat) (i := (el (f_postedTo b n) k)) rfl (by omega) (by omega) Try.underlying39 (by kernel_rfl)) .nil) (by kernel_rfl) ?_
            clear S; intro ac w β S hβ
            have hB2 := fun k (hk : k < 3) => (hβ k (Nat.lt_of_lt_of_le hk (Nat.le_of_ble_eq_true rfl))).trans (hBB k hk)
            refine WD.stayK S (fun b h => ⟨(hNN b h).1, (hNN b h).2⟩) hB2 (fun _ _ h => h) ?_
            clear hβ
            exact WD.ofW hW (by kernel_rfl) (hK84 ac w  _ _ _ (S.prune (keep := [1, 4, 6, 7, 24, 25, 26, 42, 44]) (m := 3) (by kernel_rfl)) o38 o6 o12 o31 i44 hNN hB2)
          have hK96 : ∀ (ac : Act) (w : World)  (u : World) (N : Bl) (β : Nat → Nat) (S : St Try.prog Try.f39.ntmps w0 NoB u N β ⟨[(1, .v (I n)), (4, .p 1 0), (6, .p 2 0), (7, .v (slv ((f_postedTo b n)).length q29.1)), (24, .v (slv ((f_postedTo b n)).length q29.1)), (25, .v (I (((f_postedTo b n)).length : Int))), (26, .v (I (k : Int))), (30, .v (.tuple #[I ((f_postIrq ((el gs (((el (f_postedTo b n) k)).toNat)).pend) n).1), B ((f_postIrq ((el gs (((el (f_postedTo b n) k)).toNat)).pend) n).2)])), (42, .v (I ((f_postIrq ((el gs (((el (f_postedTo b n) k)).toNat)).pend) n).1))), (44, .v (pt q36.1.b (q36.1.off + (((el (f_postedTo b n) k)).toNat) * 15)))], [GT.cells b pb, Zc TBare, [slv (b.mem).length q1.mem.1, slv (gs).length q36.1, slv (b.outs).length q1.outs.1, I b.pend]]⟩ ac w) (o38 : Ow w0 NoB u N F37 gs q36) (o6 : Ow w0 NoB u N F5 b.mem q1.mem) (o12 : Ow w0 NoB u N F11 b.outs q1.outs) (o31 : Ow w0 NoB u N F30 (f_postedTo b n) q29) (i44 : In64 b.pend) (hNN : ∀ b, N0 b → N b ∧ u.heap[b]? = u0.heap[b]?) (hBB : ∀ k, k < 3 → β k = β0 k), W 3 (mkL 17 [0, 1, 2, 3, 4, 5, 6, 7, 8, 9, 10, 11, 12, 14]) ac w := by
            intro ac w  u N β S o38 o6 o12 o31 i44 hNN hBB
            rw [hW]
            refine WD.many (rs := [13, 15]) (by kernel_rfl) rfl (List.forall_mem_cons.2 ⟨?_, List.forall_mem_cons.2 ⟨?_, List.forall_mem_nil _⟩⟩)
            · refine S.stepq (i := 13) (keep := [1, 4, 6, 7, 24, 25, 26, 42, 44]) (m := 3) (σ' := ⟨[(1, .v (I n)), (4, .p 1 0), (6, .p 2 0), (7, .v (slv ((f_postedTo b n)).length q29.1)), (24, .v (slv ((f_postedTo b n)).length q29.1)), (25, .v (I (((f_postedTo b n)).length : Int))), (26, .v (I (k : Int))), (42, .v (I ((f_postIrq ((el gs (((el (f_postedTo b n) k)).toNat)).pend) n).1))), (44, .v (pt q36.1.b (q36.1.off + (((el (f_postedTo b n) k)).toNat) * 15)))], [GT.cells b pb, Zc TBare, [slv (b.mem).length q1.mem.1, slv (gs).length q36.1, slv (b.outs).length q1.outs.1, I b.pend]]⟩) .nil (by kernel_rfl) ?_
              clear S; intro ac w β S hβ
              have hB2 := fun k (hk : k < 3) => (hβ k (Nat.lt_of_lt_of_le hk (Nat.le_of_ble_eq_true rfl))).trans (hBB k hk)
              refine WD.stayK S (fun b h => ⟨(hNN b h).1, (hNN b h).2⟩) hB2 (fun _ _ h => h) ?_
              clear hβ
              exact WD.ofW hW (by kernel_rfl) (hK84 ac w  _ _ _ (S.prune (keep := [1, 4, 6, 7, 24, 25, 26, 42, 44]) (m := 3) (by kernel_rfl)) o38 o6 o12 o31 i44 hNN hB2)
            · refine S.stepq (i := 15) (keep := [1, 4, 6, 7, 24, 25, 26, 30, 42, 45]) (m := 3) (σ' := ⟨[(1, .v (I n)), (4, .p 1 0), (6, .p 2 0), (7, .v (slv ((f_postedTo b n)).length q29.1)), (24, .v (slv ((f_postedTo b n)).length q29.1)), (25, .v (I (((f_postedTo b n)).length : Int))), (26, .v (I (k : Int))), (30, .v (.tuple #[I ((f_postIrq ((el gs (((el (f_postedTo b n) k)).toNat)).pend) n).1), B ((f_postIrq ((el gs (((el (f_postedTo b n) k)).toNat)).pend) n).2)])), (42, .v (I ((f_postIrq ((el gs (((el (f_postedTo b n) k)).toNat)).pend) n).1))), (45, .v (pt q36.1.b (q36.1.off + (((el (f_postedTo b n) k)).toNat) * 15 + 8)))], [GT.cells b pb, Zc TBare, [slv (b.mem).length q1.mem.1, slv (gs).length q36.1, slv (b.outs).length q1.outs.1, I b.pend]]⟩) .nil (by kernel_rfl) ?_
              clear S; intro ac w β S hβ
              have hB2 := fun k (hk : k < 3) => (hβ k (Nat.lt_of_lt_of_le hk (Nat.le_of_ble_eq_true rfl))).trans (hBB k hk)
              refine WD.stayK S (fun b h => ⟨(hNN b h).1, (hNN b h).2⟩) hB2 (fun _ _ h => h) ?_
              clear hβ
              exact WD.ofW hW (by kernel_rfl) (hK85 ac w  _ _ _ (S.prune (keep := [1, 4, 6, 7, 24, 25, 26, 30, 42, 45]) (m := 3) (by kernel_rfl)) o38 o6 o12 o31 i44 hNN hB2)
          have hK97 : ∀ (ac : Act) (w : World)  (u : World) (N : Bl) (β : Nat → Nat) (S : St Try.prog Try.f39.ntmps w0 NoB u N β ⟨[(1, .v (I n)), (4, .p 1 0), (6, .p 2 0), (7, .v (slv ((f_postedTo b n)).length q29.1)), (24, .v (slv ((f_postedTo b n)).length q29.1)), (25, .v (I (((f_postedTo b n)).length : Int))), (26, .v (I (k : Int))), (30, .v (.tuple #[I ((f_postIrq ((el gs (((el (f_postedTo b n) k)).toNat)).pend) n).1), B ((f_postIrq ((el gs (((el (f_postedTo b n) k)).toNat)).pend) n).2)])), (32, .v (slv (gs).length q36.1)), (33, .v (I (el (f_postedTo b n) k))), (42, .v (I ((f_postIrq ((el gs (((el (f_postedTo b n) k)).toNat)).pend) n).1)))], [GT.cells b pb, Zc TBare, [slv (b.mem).length q1.mem.1, slv (gs).length q36.1, slv (b.outs).length q1.outs.1, I b.pend]]⟩ ac w) (o38 : Ow w0 NoB u N F37 gs q36) (o6 : Ow w0 NoB u N F5 b.mem q1.mem) (o12 : Ow w0 NoB u N F11 b.outs q1.outs) (o31 : Ow w0 NoB u N F30 (f_postedTo b n) q29) (i44 : In64 b.pend) (hNN : ∀ b, N0 b → N b ∧ u.heap[b]? = u0.heap[b]?) (hBB : ∀ k, k < 3 → β k = β0 k), W 4 (mkL 17 [0, 1, 2, 3, 4, 5, 6, 7, 8, 9, 10, 11, 12]) ac w := by
            intro ac w  u N β S o38 o6 o12 o31 i44 hNN hBB
            rw [hW]
            refine WD.many (rs := [13, 14]) (by kernel_rfl) rfl (List.forall_mem_cons.2 ⟨?_, List.forall_mem_cons.2 ⟨?_, List.forall_mem_nil _⟩⟩)
            · refine S.stepq (i := 13) (keep := [1, 4, 6, 7, 24, 25, 26, 32, 33, 42]) (m := 3) (σ' := ⟨[(1, .v (I n)), (4, .p 1 0), (6, .p 2 0), (7, .v (slv ((f_postedTo b n)).length q29.1)), (24, .v (slv ((f_postedTo b n)).length q29.1)), (25, .v (I (((f_postedTo b n)).length : Int))), (26, .v (I (k : Int))), (32, .v (slv (gs).length q36.1)), (33, .v (I (el (f_postedTo b n) k))), (42, .v (I ((f_postIrq ((el gs (((el (f_postedTo b n) k)).toNat)).pend) n).1)))], [GT.cells b pb, Zc TBare, [slv (b.mem).length q1.mem.1, slv (gs).length q36.1, slv (b.outs).length q1.outs.1, I b.pend]]⟩) .nil (by kernel_rfl) ?_
              clear S; intro ac w β S hβ
              have hB2 := fun k (hk : k < 3) => (hβ k (Nat.lt_of_lt_of_le hk (Nat.le_of_ble_eq_true rfl))).trans (hBB k hk)
              refine WD.stayK S (fun b h => ⟨(hNN b h).1, (hNN b h).2⟩) hB2 (fun _ _ h => h) ?_
              clear hβ
              exact WD.ofW hW (by kernel_rfl) (hK95 ac w  _ _ _ (S.prune (keep := [1, 4, 6, 7, 24, 25, 26, 32, 33, 42]) (m := 3) (by kernel_rfl)) o38 o6 o12 o31 i44 hNN hB2)
            · refine S.stepq (i := 14) (keep := [1, 4, 6, 7, 24, 25, 26, 30, 42, 44]) (m := 3) (σ' := ⟨[(1, .v (I n)), (4, .p 1 0), (6, .p 2 0), (7, .v (slv ((f_postedTo b n)).length q29.1)), (24, .v (slv ((f_postedTo b n)).length q29.1)), (25, .v (I (((f_postedTo b n)).length : Int))), (26, .v (I (k : Int))), (30, .v (.tuple #[I ((f_postIrq ((el gs (((el (f_postedTo b n) k)).toNat)).pend) n).1), B ((f_postIrq ((el gs (((el (f_postedTo b n) k)).toNat)).pend) n).2)])), (42, .v (I ((f_postIrq ((el gs (((el (f_postedTo b n) k)).toNat)).pend) n).1))), (44, .v (pt q36.1.b (q36.1.off + (((el (f_postedTo b n) k)).toNat) * 15)))], [GT.cells b pb, Zc TBare, [slv (b.mem).length q1.mem.1, slv (gs).length q36.1, slv (b.outs).length q1.outs.1, I b.pend]]⟩) (.cons (Q_idx o38.rn (l := (gs).length) (k := ((el (f_postedTo b n) k)).toNat) (i := (el (f_postedTo b n) k)) rfl (by omega) (by omega) Try.underlying39 (by kernel_rfl)) .nil) (by kernel_rfl) ?_
              clear S; intro ac w β S hβ
              have hB2 := fun k (hk : k < 3) => (hβ k (Nat.lt_of_lt_of_le hk (Nat.le_of_ble_eq_true rfl))).trans (hBB k hk)
              refine WD.stayK S (fun b h => ⟨(hNN b h).1, (hNN b h).2⟩) hB2 (fun _ _ h => h) ?_
              clear hβ
              exact WD.ofW hW (by kernel_rfl) (hK96 ac w  _ _ _ (S.prune (keep := [1, 4, 6, 7, 24, 25, 26, 30, 42, 44]) (m := 3) (by kernel_rfl)) o38 o6 o12 o31 i44 hNN hB2)
          have hK98 : ∀ (ac : Act) (w : World)  (u : World) (N : Bl) (β : Nat → Nat) (S : St Try.prog Try.f39.ntmps w0 NoB u N β ⟨[(1, .v (I n)), (4, .p 1 0), (6, .p 2 0), (7, .v (slv ((f_postedTo b n)).length q29.1)), (24, .v (slv ((f_postedTo b n)).length q29.1)), (25, .v (I (((f_postedTo b n)).length : Int))), (26, .v (I (k : Int))), (30, .v (.tuple #[I ((f_postIrq ((el gs (((el (f_postedTo b n) k)).toNat)).pend) n).1), B ((f_postIrq ((el gs (((el (f_postedTo b n) k)).toNat)).pend) n).2)])), (32, .v (slv (gs).length q36.1)), (33, .v (I (el (f_postedTo b n) k)))], [GT.cells b pb, Zc TBare, [slv (b.mem).length q1.mem.1, slv (gs).length q36.1, slv (b.outs).length q1.outs.1, I b.pend]]⟩ ac w) (o38 : Ow w0 NoB u N F37 gs q36) (o6 : Ow w0 NoB u N F5 b.mem q1.mem) (o12 : Ow w0 NoB u N F11 b.outs q1.outs) (o31 : Ow w0 NoB u N F30 (f_postedTo b n) q29) (i44 : In64 b.pend) (hNN : ∀ b, N0 b → N b ∧ u.heap[b]? = u0.heap[b]?) (hBB : ∀ k, k < 3 → β k = β0 k), W 4 (mkL 17 [0, 1, 2, 3, 4, 5, 6, 7, 8, 9, 10, 11, 13]) ac w := by
            intro ac w  u N β S o38 o6 o12 o31 i44 hNN hBB
            rw [hW]
            refine WD.one (i := 12) (by kernel_rfl) ?_
            refine S.stepq (i := 12) (keep := [1, 4, 6, 7, 24, 25, 26, 32, 33, 42]) (m := 3) (σ' := ⟨[(1, .v (I n)), (4, .p 1 0), (6, .p 2 0), (7, .v (slv ((f_postedTo b n)).length q29.1)), (24, .v (slv ((f_postedTo b n)).length q29.1)), (25, .v (I (((f_postedTo b n)).length : Int))), (26, .v (I (k : Int))), (32, .v (slv (gs).length q36.1)), (33, .v (I (el (f_postedTo b n) k))), (42, .v (I ((f_postIrq ((el gs (((el (f_postedTo b n) k)).toNat)).pend) n).1)))], [GT.cells b pb, Zc TBare, [slv (b.mem).length q1.mem.1, slv (gs).length q36.1, slv (b.outs).length q1.outs.1, I b.pend]]⟩) .nil (by kernel_rfl) ?_
            clear S; intro ac w β S hβ
            have hB2 := fun k (hk : k < 3) => (hβ k (Nat.lt_of_lt_of_le hk (Nat.le_of_ble_eq_true rfl))).trans (hBB k hk)
            refine WD.stayK S (fun b h => ⟨(hNN b h).1, (hNN b h).2⟩) hB2 (fun _ _ h => h) ?_
            clear hβ
            exact WD.ofW hW (by kernel_rfl) (hK95 ac w  _ _ _ (S.prune (keep := [1, 4, 6, 7, 24, 25, 26, 32, 33, 42]) (m := 3) (by kernel_rfl)) o38 o6 o12 o31 i44 hNN hB2)
          have hK99 : ∀ (ac : Act) (w : World)  (u : World) (N : Bl) (β : Nat → Nat) (S : St Try.prog Try.f39.ntmps w0 NoB u N β ⟨[(1, .v (I n)), (4, .p 1 0), (6, .p 2 0), (7, .v (slv ((f_postedTo b n)).length q29.1)), (24, .v (slv ((f_postedTo b n)).length q29.1)), (25, .v (I (((f_postedTo b n)).length : Int))), (26, .v (I (k : Int))), (30, .v (.tuple #[I ((f_postIrq ((el gs (((el (f_postedTo b n) k)).toNat)).pend) n).1), B ((f_postIrq ((el gs (((el (f_postedTo b n) k)).toNat)).pend) n).2)])), (32, .v (slv (gs).length q36.1)), (33, .v (I (el (f_postedTo b n) k)))], [GT.cells b pb, Zc TBare, [slv (b.mem).length q1.mem.1, slv (gs).length q36.1, slv (b.outs).length q1.outs.1, I b.pend]]⟩ ac w) (o38 : Ow w0 NoB u N F37 gs q36) (o6 : Ow w0 NoB u N F5 b.mem q1.mem) (o12 : Ow w0 NoB u N F11 b.outs q1.outs) (o31 : Ow w0 NoB u N F30 (f_postedTo b n) q29) (i44 : In64 b.pend) (hNN : ∀ b, N0 b → N b ∧ u.heap[b]? = u0.heap[b]?) (hBB : ∀ k, k < 3 → β k = β0 k), W 5 (mkL 17 [0, 1, 2, 3, 4, 5, 6, 7, 8, 9, 10, 11]) ac w := by
            intro ac w  u N β S o38 o6 o12 o31 i44 hNN hBB
            rw [hW]
            refine WD.many (rs := [12, 13]) (by kernel_rfl) rfl (List.forall_mem_cons.2 ⟨?_, List.forall_mem_cons.2 ⟨?_, List.forall_mem_nil _⟩⟩)
            · refine S.stepq (i := 12) (keep := [1, 4, 6, 7, 24, 25, 26, 30, 32, 33, 42]) (m := 3) (σ' := ⟨[(1, .v (I n)), (4, .p 1 0), (6, .p 2 0), (7, .v (slv ((f_postedTo b n)).length q29.1)), (24, .v (slv ((f_postedTo b n)).length q29.1)), (25, .v (I (((f_postedTo b n)).length : Int))), (26, .v (I (k : Int))), (30, .v (.tuple #[I ((f_postIrq ((el gs (((el (f_postedTo b n) k)).toNat)).pend) n).1), B ((f_postIrq ((el gs (((el (f_postedTo b n) k)).toNat)).pend) n).2)])), (32, .v (slv (gs).length q36.1)), (33, .v (I (el (f_postedTo b n) k))), (42, .v (I ((f_postIrq ((el gs (((el (f_postedTo b n) k)).toNat)).pend) n).1)))], [GT.cells b pb, Zc TBare, [slv (b.mem).length q1.mem.1, slv (gs).length q36.1, slv (b.outs).length q1.outs.1, I b.pend]]⟩) .nil (by kernel_rfl) ?_
              clear S; intro ac w β S hβ
              have hB2 := fun k (hk : k < 3) => (hβ k (Nat.lt_of_lt_of_le hk (Nat.le_of_ble_eq_true rfl))).trans (hBB k hk)
              refine WD.stayK S (fun b h => ⟨(hNN b h).1, (hNN b h).2⟩) hB2 (fun _ _ h => h) ?_
              clear hβ
              exact WD.ofW hW (by kernel_rfl) (hK97 ac w  _ _ _ (S.prune (keep := [1, 4, 6, 7, 24, 25, 26, 30, 32, 33, 42]) (m := 3) (by kernel_rfl)) o38 o6 o12 o31 i44 hNN hB2)
            · refine S.stepq (i := 13) (keep := [1, 4, 6, 7, 24, 25, 26, 30, 32, 33]) (m := 3) (σ' := ⟨[(1, .v (I n)), (4, .p 1 0), (6, .p 2 0), (7, .v (slv ((f_postedTo b n)).length q29.1)), (24, .v (slv ((f_postedTo b n)).length q29.1)), (25, .v (I (((f_postedTo b n)).length : Int))), (26, .v (I (k : Int))), (30, .v (.tuple #[I ((f_postIrq ((el gs (((el (f_postedTo b n) k)).toNat)).pend) n).1), B ((f_postIrq ((el gs (((el (f_postedTo b n) k)).toNat)).pend) n).2)])), (32, .v (slv (gs).length q36.1)), (33, .v (I (el (f_postedTo b n) k)))], [GT.cells b pb, Zc TBare, [slv (b.mem).length q1.mem.1, slv (gs).length q36.1, slv (b.outs).length q1.outs.1, I b.pend]]⟩) .nil (by kernel_rfl) ?_
              clear S; intro ac w β S hβ
              have hB2 := fun k (hk : k < 3) => (hβ k (Nat.lt_of_lt_of_le hk (Nat.le_of_ble_eq_true rfl))).trans (hBB k hk)
              refine WD.stayK S (fun b h => ⟨(hNN b h).1, (hNN b h).2⟩) hB2 (fun _ _ h => h) ?_
              clear hβ
              exact WD.ofW hW (by kernel_rfl) (hK98 ac w  _ _ _ (S.prune (keep := [1, 4, 6, 7, 24, 25, 26, 30, 32, 33]) (m := 3) (by kernel_rfl)) o38 o6 o12 o31 i44 hNN hB2)
          have hK100 : ∀ (ac : Act) (w : World)  (u : World) (N : Bl) (β : Nat → Nat) (S : St Try.prog Try.f39.ntmps w0 NoB u N β ⟨[(1, .v (I n)), (4, .p 1 0), (6, .p 2 0), (7, .v (slv ((f_postedTo b n)).length q29.1)), (24, .v (slv ((f_postedTo b n)).length q29.1)), (25, .v (I (((f_postedTo b n)).length : Int))), (26, .v (I (k : Int))), (32, .v (slv (gs).length q36.1)), (33, .v (I (el (f_postedTo b n) k))), (41, .v (.tuple #[I ((f_postIrq ((el gs (((el (f_postedTo b n) k)).toNat)).pend) n).1), B ((f_postIrq ((el gs (((el (f_postedTo b n) k)).toNat)).pend) n).2)]))], [GT.cells b pb, Zc TBare, [slv (b.mem).length q1.mem.1, slv (gs).length q36.1, slv (b.outs).length q1.outs.1, I b.pend]]⟩ ac w) (o38 : Ow w0 NoB u N F37 gs q36) (o6 : Ow w0 NoB u N F5 b.mem q1.mem) (o12 : Ow w0 NoB u N F11 b.outs q1.outs) (o31 : Ow w0 NoB u N F30 (f_postedTo b n) q29) (i44 : In64 b.pend) (hNN : ∀ b, N0 b → N b ∧ u.heap[b]? = u0.heap[b]?) (hBB : ∀ k, k < 3 → β k = β0 k), W 6 (mkL 17 [0, 1, 2, 3, 4, 5, 6, 7, 8, 9, 10]) ac w := by
            intro ac w  u N β S o38 o6 o12 o31 i44 hNN hBB
            rw [hW]
            refine WD.one (i := 11) (by kernel_rfl) ?_
            refine S.stepq (i := 11) (keep := [1, 4, 6, 7, 24, 25, 26, 30, 32, 33]) (m := 3) (σ' := ⟨[(1, .v (I n)), (4, .p 1 0), (6, .p 2 0), (7, .v (slv ((f_postedTo b n)).length q29.1)), (24, .v (slv ((f_postedTo b n)).length q29.1)), (25, .v (I (((f_postedTo b n)).length : Int))), (26, .v (I (k : Int))), (30, .v (.tuple #[I ((f_postIrq ((el gs (((el (f_postedTo b n) k)).toNat)).pend) n).1), B ((f_postIrq ((el gs (((el (f_postedTo b n) k)).toNat)).pend) n).2)])), (32, .v (slv (gs).length q36.1)), (33, .v (I (el (f_postedTo b n) k)))], [GT.cells b pb, Zc TBare, [slv (b.mem).length q1.mem.1, slv (gs).length q36.1, slv (b.outs).length q1.outs.1, I b.pend]]⟩) .nil (by kernel_rfl) ?_
            clear S; intro ac w β S hβ
            have hB2 := fun k (hk : k < 3) => (hβ k (Nat.lt_of_lt_of_le hk (Nat.le_of_ble_eq_true rfl))).trans (hBB k hk)
            refine WD.stayK S (fun b h => ⟨(hNN b h).1, (hNN b h).2⟩) hB2 (fun _ _ h => h) ?_
            clear hβ
            exact WD.ofW hW (by kernel_rfl) (hK99 ac w  _ _ _ (S.prune (keep := [1, 4, 6, 7, 24, 25, 26, 30, 32, 33]) (m := 3) (by kernel_rfl)) o38 o6 o12 o31 i44 hNN hB2)
          have hNN : ∀ b, N0 b → N0 b ∧ u0.heap[b]? = u0.heap[b]? := fun b h => ⟨h, rfl⟩
          have hBB : ∀ k, k < 3 → β0 k = β0 k := fun _ _ => rfl
          rw [hW]
          refine WD.one (i := 10) (by kernel_rfl) ?_
          refine S.stepq (i := 10) (keep := [1, 4, 6, 7, 24, 25, 26, 32, 33, 41]) (m := 3) (σ' := ⟨[(1, .v (I n)), (4, .p 1 0), (6, .p 2 0), (7, .v (slv ((f_postedTo b n)).length q29.1)), (24, .v (slv ((f_postedTo b n)).length q29.1)), (25, .v (I (((f_postedTo b n)).length : Int))), (26, .v (I (k : Int))), (32, .v (slv (gs).length q36.1)), (33, .v (I (el (f_postedTo b n) k))), (41, .v (.tuple #[I ((f_postIrq ((el gs (((el (f_postedTo b n) k)).toNat)).pend) n).1), B ((f_postIrq ((el gs (((el (f_postedTo b n) k)).toNat)).pend) n).2)]))], [GT.cells b pb, Zc TBare, [slv (b.mem).length q1.mem.1, slv (gs).length q36.1, slv (b.outs).length q1.outs.1, I b.pend]]⟩) (.cons (Q_call fun w hw => c_impl_PostIrq w ((el gs (((el (f_postedTo b n) k)).toNat)).pend) (RGuest.pend (d := (el gs (((el (f_postedTo b n) k)).toNat))) (LRd.el o38.rn (((el (f_postedTo b n) k)).toNat) (by omega))) n) .nil) (by kernel_rfl) ?_
          clear S; intro ac w β S hβ
          have hB2 := fun k (hk : k < 3) => (hβ k (Nat.lt_of_lt_of_le hk (Nat.le_of_ble_eq_true rfl))).trans (hBB k hk)
          refine WD.stayK S (fun b h => ⟨(hNN b h).1, (hNN b h).2⟩) hB2 (fun _ _ h => h) ?_
          clear hβ
          exact WD.ofW hW (by kernel_rfl) (hK100 ac w  _ _ _ (S.prune (keep := [1, 4, 6, 7, 24, 25, 26, 32, 33, 41]) (m := 3) (by kernel_rfl)) o38 o6 o12 o31 i14 hNN hB2)
        clear S o38 o6 o12 o31
        rintro ac w ⟨q55, F56, u, N, β, S, o6, o12, o31, o54, d101, d102, d103, i44⟩
        refine id (nx_block (nx_then (RG.start ?_)))
        refine S.quiet (k := 2) (keep := [1, 4, 6, 7, 24, 25, 26]) (m := 3) (σ' := ⟨[(1, .v (I n)), (4, .p 1 0), (6, .p 2 0), (7, .v (slv ((f_postedTo b n)).length q29.1)), (24, .v (slv ((f_postedTo b n)).length q29.1)), (25, .v (I (((f_postedTo b n)).length : Int))), (26, .v (I ((k : Int) + 1)))], [GT.cells b pb, Zc TBare, [slv (b.mem).length q1.mem.1, slv (((gs).set (((el (f_postedTo b n) k)).toNat) ({ el gs (((el (f_postedTo b n) k)).toNat) with pend := ((f_postIrq ((el gs (((el (f_postedTo b n) k)).toNat)).pend) n).1) }))).length q55.1, slv (b.outs).length q1.outs.1, I b.pend]]⟩) (.cons (Q_add (x := (k : Int)) (y := 1) ⟨by omega, by omega⟩) .nil) (by kernel_rfl) ?_
        clear S; intro ac w β S
        refine RG.done rfl (nx_then ?_)
        replace S := S.prune (keep := [1, 4, 6, 7, 24, 25, 26]) (m := 3) (σ' := ⟨[(1, .v (I n)), (4, .p 1 0), (6, .p 2 0), (7, .v (slv ((f_postedTo b n)).length q29.1)), (24, .v (slv ((f_postedTo b n)).length q29.1)), (25, .v (I (((f_postedTo b n)).length : Int))), (26, .v (I ((k : Int) + 1)))], [GT.cells b pb, Zc TBare, [slv (b.mem).length q1.mem.1, slv (((gs).set (((el (f_postedTo b n) k)).toNat) ({ el gs (((el (f_postedTo b n) k)).toNat) with pend := ((f_postIrq ((el gs (((el (f_postedTo b n) k)).toNat)).pend) n).1) }))).length q55.1, slv (b.outs).length q1.outs.1, I b.pend]]⟩) (by kernel_rfl)
        refine ⟨(f_postedTo b n).length - (k + 1), by omega, k + 1, ((gs).set (((el (f_postedTo b n) k)).toNat) ({ el gs (((el (f_postedTo b n) k)).toNat) with pend := ((f_postIrq ((el gs (((el (f_postedTo b n) k)).toNat)).pend) n).1) })), q55, F56, _, _, _, rfl, ?_, ?_, ?_, S.cast (by kernel_rfl), o54, o6, o12, o31, (Disj.symm d101), (Disj.symm d102), (Disj.symm d103)⟩
        · clear S; first | omega | (simp [*]; done) | (simp [*]; omega)
        · clear S; (rw [fold_step (by omega), ← hg]; rfl)
        · clear S; (first | omega | (simp; omega))
      · have g104 : ¬ ((k : Int) < (((f_postedTo b n)).length : Int)) := of_decide_eq_false h42
        refine wp_exit (ex_then (ex_then (ex_hit (nx_then (wp_seq (wp_seq (RG.start ?_)))))))
        refine S.quiet (k := 3) (keep := [1, 4, 6, 49]) (m := 3) (σ' := ⟨[(1, .v (I n)), (4, .p 1 0), (6, .p 2 0), (49, .v (B ((((f_postedTo b n)).length : Int) == 0)))], [GT.cells b pb, Zc TBare, [slv (b.mem).length q1.mem.1, slv (gs).length q36.1, slv (b.outs).length q1.outs.1, I b.pend]]⟩) .nil (by kernel_rfl) ?_
        clear S; intro ac w β S
        refine RG.done rfl (nx_then ?_)
        refine S.cond (e := ((((f_postedTo b n)).length : Int) == 0)) (by kernel_rfl) (fun h105 => ?_) (fun h105 => ?_)
        · have g106 : (((f_postedTo b n)).length : Int) = 0 := eq_of_beq h105
          refine RG.start ?_
          refine S.quiet (k := 9) (keep := [4, 6]) (m := 3) (σ' := ⟨[(4, .p 1 0), (6, .p 2 0)], [GT.cells b pb, Zc TBare, [slv (b.mem).length q1.mem.1, slv (gs).length q36.1, slv (b.outs).length q1.outs.1, I ((f_postIrq b.pend n).1)]]⟩) (.cons (Q_call fun w hw => c_impl_PostIrq w b.pend i14 n) .nil) (by kernel_rfl) ?_
          clear S; intro ac w β S
          refine RG.done rfl (nx_then (wp_seq (RG.start ?_)))
          refine S.quiet (k := 3) (keep := [4, 5]) (m := 2) (σ' := ⟨[(4, .p 1 0), (5, .v (B true))], [GT.cells b pb, [slv (b.mem).length q1.mem.1, slv (gs).length q36.1, slv (b.outs).length q1.outs.1, I ((f_postIrq b.pend n).1)]]⟩) .nil (by kernel_rfl) ?_
          clear S; intro ac w β S
          refine RG.done rfl (nx_then (wp_ret ?_))
          refine S.ret (vs := [GT.val (⟨b.mem, gs, b.outs, ((f_postIrq b.pend n).1)⟩ : TBare) (⟨q1.mem, q36, q1.outs⟩ : PBare), B true]) (by kernel_rfl) ?_
          have o107 := ow_Bare (x := (⟨b.mem, gs, b.outs, ((f_postIrq b.pend n).1)⟩ : TBare)) (p := (⟨q1.mem, q36, q1.outs⟩ : PBare)) o6 o38 o12 (Disj.symm d39) d16 d40 (postIrq_in64 i14)
          exact ret2_of (p' := ()) S (show (f_barePost b n).1 = (⟨b.mem, gs, b.outs, ((f_postIrq b.pend n).1)⟩ : TBare) by clear S; (first | (unfold f_barePost; rw [if_neg (by simp_all)]; done) | (unfold f_barePost; rw [if_pos ⟨by assumption, by omega, by omega⟩]; done) | (unfold f_barePost; rw [if_pos ⟨by assumption, by omega, by omega⟩, show (f_postedTo b n).foldl (stepPost n) b.guests = gs by rw [hg, take_all (by omega)], if_pos (by omega)]; done) | (unfold f_barePost; rw [if_pos ⟨by assumption, by omega, by omega⟩, show (f_postedTo b n).foldl (stepPost n) b.guests = gs by rw [hg, take_all (by omega)], if_neg (by omega)]; done))) (show (f_barePost b n).2 = true by clear S; (first | (unfold f_barePost; rw [if_neg (by simp_all)]; done) | (unfold f_barePost; rw [if_pos ⟨by assumption, by omega, by omega⟩]; done) | (unfold f_barePost; rw [if_pos ⟨by assumption, by omega, by omega⟩, show (f_postedTo b n).foldl (stepPost n) b.guests = gs by rw [hg, take_all (by omega)], if_pos (by omega)]; done) | (unfold f_barePost; rw [if_pos ⟨by assumption, by omega, by omega⟩, show (f_postedTo b n).foldl (stepPost n) b.guests = gs by rw [hg, take_all (by omega)], if_neg (by omega)]; done))) rfl rfl o107 trivial
        · have g108 : ¬ ((((f_postedTo b n)).length : Int) = 0) := ne_of_beq_false h105
          refine wp_skip (nx_then (wp_seq (RG.start ?_)))
          refine S.quiet (k := 3) (keep := [4, 5]) (m := 2) (σ' := ⟨[(4, .p 1 0), (5, .v (B true))], [GT.cells b pb, [slv (b.mem).length q1.mem.1, slv (gs).length q36.1, slv (b.outs).length q1.outs.1, I b.pend]]⟩) .nil (by kernel_rfl) ?_
          clear S; intro ac w β S
          refine RG.done rfl (nx_then (wp_ret ?_))
          refine S.ret (vs := [GT.val (⟨b.mem, gs, b.outs, b.pend⟩ : TBare) (⟨q1.mem, q36, q1.outs⟩ : PBare), B true]) (by kernel_rfl) ?_
          have o109 := ow_Bare (x := (⟨b.mem, gs, b.outs, b.pend⟩ : TBare)) (p := (⟨q1.mem, q36, q1.outs⟩ : PBare)) o6 o38 o12 (Disj.symm d39) d16 d40 i14
          exact ret2_of (p' := ()) S (show (f_barePost b n).1 = (⟨b.mem, gs, b.outs, b.pend⟩ : TBare) by clear S; (first | (unfold f_barePost; rw [if_neg (by simp_all)]; done) | (unfold f_barePost; rw [if_pos ⟨by assumption, by omega, by omega⟩]; done) | (unfold f_barePost; rw [if_pos ⟨by assumption, by omega, by omega⟩, show (f_postedTo b n).foldl (stepPost n) b.guests = gs by rw [hg, take_all (by omega)], if_pos (by omega)]; done) | (unfold f_barePost; rw [if_pos ⟨by assumption, by omega, by omega⟩, show (f_postedTo b n).foldl (stepPost n) b.guests = gs by rw [hg, take_all (by omega)], if_neg (by omega)]; done))) (show (f_barePost b n).2 = true by clear S; (first | (unfold f_barePost; rw [if_neg (by simp_all)]; done) | (unfold f_barePost; rw [if_pos ⟨by assumption, by omega, by omega⟩]; done) | (unfold f_barePost; rw [if_pos ⟨by assumption, by omega, by omega⟩, show (f_postedTo b n).foldl (stepPost n) b.guests = gs by rw [hg, take_all (by omega)], if_pos (by omega)]; done) | (unfold f_barePost; rw [if_pos ⟨by assumption, by omega, by omega⟩, show (f_postedTo b n).foldl (stepPost n) b.guests = gs by rw [hg, take_all (by omega)], if_neg (by omega)]; done))) rfl rfl o109 trivial

set_option maxRecDepth 100000 in
theorem c_laws_eqIntS (w0 : World) (a : List Int) (pa : LP Int) (ha : GT.rd KK (Lt w0.heap.size) w0 a pa) (b : List Int) (pb : LP Int) (hb : GT.rd KK (Lt w0.heap.size) w0 b pb) : Calls Try.prog 88 [slv (a).length pa.1, slv (b).length pb.1].toArray w0 (fun e w' => e = .returned (B (decide (a = b))) ∧ Chg NoB w0 w') := by
  refine Calls.walk (args := [slv (a).length pa.1, slv (b).length pb.1]) NoB Try.func88 rfl rfl ?_
  intro ac β S
  have hlea : a.length ≤ 4194304 := LRd.le ha
  have hleb : b.length ≤ 4194304 := LRd.le hb
  refine wp_seq (RG.start ?_)
  refine S.quiet (k := 1) (keep := [0, 1]) (m := 0) (σ' := ⟨[(0, .v (slv (a).length pa.1)), (1, .v (slv (b).length pb.1))], []⟩) .nil (by kernel_rfl) ?_
  clear S; intro ac w β S
  refine RG.done rfl (nx_then (wp_seq (wp_seq (RG.start ?_))))
  refine S.quiet (k := 5) (keep := [0, 1, 10]) (m := 0) (σ' := ⟨[(0, .v (slv (a).length pa.1)), (1, .v (slv (b).length pb.1)), (10, .v (B (((a).length : Int) != ((b).length : Int))))], []⟩) .nil (by kernel_rfl) ?_
  clear S; intro ac w β S
  refine RG.done rfl (nx_then ?_)
  refine S.cond (e := (((a).length : Int) != ((b).length : Int))) (by kernel_rfl) (fun h1 => ?_) (fun h1 => ?_)
  · have g2 : ¬ (((a).length : Int) = ((b).length : Int)) := bne_iff_ne.1 h1
    refine wp_seq (RG.start ?_)
    refine S.quiet (k := 1) (keep := [4]) (m := 0) (σ' := ⟨[(4, .v (B false))], []⟩) .nil (by kernel_rfl) ?_
    clear S; intro ac w β S
    refine RG.done rfl (nx_then (wp_ret (rt_then ?_)))
    refine S.ret (vs := [B false]) (by kernel_rfl) ?_
    exact ⟨retB (show false = decide (a = b) by clear S; first | (simp; intro e; subst e; simp_all; done) | (simp; rw [take_all (by omega), take_all (by omega)] at he; exact he) | (simp; exact take_ne (by simp_all))), S.chg⟩
  · have g3 : ((a).length : Int) = ((b).length : Int) := ne_f h1
    refine wp_skip (nx_then (wp_seq (wp_seq (RG.start ?_))))
    refine S.quiet (k := 1) (keep := [0, 1, 5]) (m := 0) (σ' := ⟨[(0, .v (slv (a).length pa.1)), (1, .v (slv (b).length pb.1)), (5, .v (I 0))], []⟩) .nil (by kernel_rfl) ?_
    clear S; intro ac w β S
    refine RG.done rfl (nx_then (wp_block ?_))
    replace S := S.prune (keep := [0, 1, 5]) (m := 0) (σ' := ⟨[(0, .v (slv (a).length pa.1)), (1, .v (slv (b).length pb.1)), (5, .v (I 0))], []⟩) (by kernel_rfl)
    refine wp_loop_down (fun mm ac w => ∃ (k : Nat)  (u : World) (N : Bl) (β : Nat → Nat), mm = a.length - k ∧ (k ≤ a.length) ∧ (a.length = b.length) ∧ (a.take k = b.take k) ∧ St Try.prog Try.f88.ntmps w0 NoB u N β ⟨[(0, .v (slv (a).length pa.1)), (1, .v (slv (b).length pb.1)), (5, .v (I (k : Int)))], []⟩ ac w) _ ⟨0, _, _, _, rfl, (by first | omega | (simp; done) | (simp; omega)), (by first | omega | (simp; done) | (simp; omega)), (by simp), S.cast (by kernel_rfl)⟩ ?_
    clear S
    rintro mm ac w ⟨k, u, N, β, rfl, hk, hab, he, S⟩
    refine wp_seq (wp_seq (RG.start ?_))
    refine S.quiet (k := 4) (keep := [0, 1, 5, 14]) (m := 0) (σ' := ⟨[(0, .v (slv (a).length pa.1)), (1, .v (slv (b).length pb.1)), (5, .v (I (k : Int))), (14, .v (B (decide ((k : Int) < ((a).length : Int)))))], []⟩) .nil (by kernel_rfl) ?_
    clear S; intro ac w β S
    refine RG.done rfl (nx_then ?_)
    refine S.cond (e := (decide ((k : Int) < ((a).length : Int)))) (by kernel_rfl) (fun h4 => ?_) (fun h4 => ?_)
    · have g5 : (k : Int) < ((a).length : Int) := of_decide_eq_true h4
      refine wp_skip (nx_then (wp_seq (wp_block (wp_seq ?_))))
      refine S.drawn (keep := [0, 1, 5, 25]) (m := 0) (σ' := ⟨[(0, .v (slv (a).length pa.1)), (1, .v (slv (b).length pb.1)), (5, .v (I (k : Int))), (25, .v (B ((el a k) != (el b k))))], []⟩) (.cons (Q_idx (S.arg ha) (l := (a).length) (k := k) (i := (k : Int)) rfl rfl (by omega) Try.underlying24 (by kernel_rfl)) (.cons (Q_el1 (S.arg ha) (t := 3) (k := k) (by omega) rfl (by kernel_rfl)) (.cons (Q_idx (S.arg hb) (l := (b).length) (k := k) (i := (k : Int)) rfl rfl (by omega) Try.underlying24 (by kernel_rfl)) (.cons (Q_el1 (S.arg hb) (t := 3) (k := k) (by omega) rfl (by kernel_rfl)) .nil)))) rfl (by kernel_rfl) (by kernel_rfl) ?_
      clear S; intro ac w S
      refine id (nx_then ?_)
      refine S.cond (e := ((el a k) != (el b k))) (by kernel_rfl) (fun h6 => ?_) (fun h6 => ?_)
      · have g7 : ¬ ((el a k) = (el b k)) := bne_iff_ne.1 h6
        refine wp_seq (RG.start ?_)
        refine S.quiet (k := 1) (keep := [4]) (m := 0) (σ' := ⟨[(4, .v (B false))], []⟩) .nil (by kernel_rfl) ?_
        clear S; intro ac w β S
        refine RG.done rfl (nx_then (wp_ret (rt_block (rt_then (rt_then (rt_block (rt_then ?_)))))))
        refine S.ret (vs := [B false]) (by kernel_rfl) ?_
        exact ⟨retB (show false = decide (a = b) by clear S; first | (simp; intro e; subst e; simp_all; done) | (simp; rw [take_all (by omega), take_all (by omega)] at he; exact he) | (simp; exact take_ne (by simp_all))), S.chg⟩
      · have g8 : (el a k) = (el b k) := ne_f h6
        refine wp_skip (nx_block (nx_then (RG.start ?_)))
        refine S.quiet (k := 3) (keep := [0, 1, 5]) (m := 0) (σ' := ⟨[(0, .v (slv (a).length pa.1)), (1, .v (slv (b).length pb.1)), (5, .v (I ((k : Int) + 1)))], []⟩) (.cons (Q_add (x := (k : Int)) (y := 1) ⟨by omega, by omega⟩) .nil) (by kernel_rfl) ?_
        clear S; intro ac w β S
        refine RG.done rfl (nx_then ?_)
        replace S := S.prune (keep := [0, 1, 5]) (m := 0) (σ' := ⟨[(0, .v (slv (a).length pa.1)), (1, .v (slv (b).length pb.1)), (5, .v (I ((k : Int) + 1)))], []⟩) (by kernel_rfl)
        refine ⟨a.length - (k + 1), by omega, k + 1, _, _, _, rfl, ?_, ?_, ?_, S.cast (by kernel_rfl)⟩
        · clear S; first | omega | (simp [*]; done) | (simp [*]; omega)
        · clear S; first | omega | (simp [*]; done) | (simp [*]; omega)
        · clear S; exact take_eq_step (by omega) (by omega) he (by simp_all)
    · have g9 : ¬ ((k : Int) < ((a).length : Int)) := of_decide_eq_false h4
      refine wp_exit (ex_then (ex_then (ex_hit (nx_then (wp_seq (RG.start ?_))))))
      refine S.quiet (k := 1) (keep := [4]) (m := 0) (σ' := ⟨[(4, .v (B true))], []⟩) .nil (by kernel_rfl) ?_
      clear S; intro ac w β S
      refine RG.done rfl (nx_then (wp_ret ?_))
      refine S.ret (vs := [B true]) (by kernel_rfl) ?_
      exact ⟨retB (show true = decide (a = b) by clear S; first | (simp; intro e; subst e; simp_all; done) | (simp; rw [take_all (by omega), take_all (by omega)] at he; exact he) | (simp; exact take_ne (by simp_all))), S.chg⟩

set_option maxRecDepth 100000 in
theorem c_laws_eqIntSS (w0 : World) (a : List (List Int)) (pa : LP (List Int)) (ha : GT.rd KK (Lt w0.heap.size) w0 a pa) (b : List (List Int)) (pb : LP (List Int)) (hb : GT.rd KK (Lt w0.heap.size) w0 b pb) : Calls Try.prog 86 [slv (a).length pa.1, slv (b).length pb.1].toArray w0 (fun e w' => e = .returned (B (decide (a = b))) ∧ Chg NoB w0 w') := by
  refine Calls.walk (args := [slv (a).length pa.1, slv (b).length pb.1]) NoB Try.func86 rfl rfl ?_
  intro ac β S
  have hlea : a.length ≤ 4194304 := LRd.le ha
  have hleb : b.length ≤ 4194304 := LRd.le hb
  refine wp_seq (RG.start ?_)
  refine S.quiet (k := 1) (keep := [0, 1]) (m := 0) (σ' := ⟨[(0, .v (slv (a).length pa.1)), (1, .v (slv (b).length pb.1))], []⟩) .nil (by kernel_rfl) ?_
  clear S; intro ac w β S
  refine RG.done rfl (nx_then (wp_seq (wp_seq (RG.start ?_))))
  refine S.quiet (k := 5) (keep := [0, 1, 10]) (m := 0) (σ' := ⟨[(0, .v (slv (a).length pa.1)), (1, .v (slv (b).length pb.1)), (10, .v (B (((a).length : Int) != ((b).length : Int))))], []⟩) .nil (by kernel_rfl) ?_
  clear S; intro ac w β S
  refine RG.done rfl (nx_then ?_)
  refine S.cond (e := (((a).length : Int) != ((b).length : Int))) (by kernel_rfl) (fun h1 => ?_) (fun h1 => ?_)
  · have g2 : ¬ (((a).length : Int) = ((b).length : Int)) := bne_iff_ne.1 h1
    refine wp_seq (RG.start ?_)
    refine S.quiet (k := 1) (keep := [4]) (m := 0) (σ' := ⟨[(4, .v (B false))], []⟩) .nil (by kernel_rfl) ?_
    clear S; intro ac w β S
    refine RG.done rfl (nx_then (wp_ret (rt_then ?_)))
    refine S.ret (vs := [B false]) (by kernel_rfl) ?_
    exact ⟨retB (show false = decide (a = b) by clear S; first | (simp; intro e; subst e; simp_all; done) | (simp; rw [take_all (by omega), take_all (by omega)] at he; exact he) | (simp; exact take_ne (by simp_all))), S.chg⟩
  · have g3 : ((a).length : Int) = ((b).length : Int) := ne_f h1
    refine wp_skip (nx_then (wp_seq (wp_seq (RG.start ?_))))
    refine S.quiet (k := 1) (keep := [0, 1, 5]) (m := 0) (σ' := ⟨[(0, .v (slv (a).length pa.1)), (1, .v (slv (b).length pb.1)), (5, .v (I 0))], []⟩) .nil (by kernel_rfl) ?_
    clear S; intro ac w β S
    refine RG.done rfl (nx_then (wp_block ?_))
    replace S := S.prune (keep := [0, 1, 5]) (m := 0) (σ' := ⟨[(0, .v (slv (a).length pa.1)), (1, .v (slv (b).length pb.1)), (5, .v (I 0))], []⟩) (by kernel_rfl)
    refine wp_loop_down (fun mm ac w => ∃ (k : Nat)  (u : World) (N : Bl) (β : Nat → Nat), mm = a.length - k ∧ (k ≤ a.length) ∧ (a.length = b.length) ∧ (a.take k = b.take k) ∧ St Try.prog Try.f86.ntmps w0 NoB u N β ⟨[(0, .v (slv (a).length pa.1)), (1, .v (slv (b).length pb.1)), (5, .v (I (k : Int)))], []⟩ ac w) _ ⟨0, _, _, _, rfl, (by first | omega | (simp; done) | (simp; omega)), (by first | omega | (simp; done) | (simp; omega)), (by simp), S.cast (by kernel_rfl)⟩ ?_
    clear S
    rintro mm ac w ⟨k, u, N, β, rfl, hk, hab, he, S⟩
    refine wp_seq (wp_seq (RG.start ?_))
    refine S.quiet (k := 4) (keep := [0, 1, 5, 14]) (m := 0) (σ' := ⟨[(0, .v (slv (a).length pa.1)), (1, .v (slv (b).length pb.1)), (5, .v (I (k : Int))), (14, .v (B (decide ((k : Int) < ((a).length : Int)))))], []⟩) .nil (by kernel_rfl) ?_
    clear S; intro ac w β S
    refine RG.done rfl (nx_then ?_)
    refine S.cond (e := (decide ((k : Int) < ((a).length : Int)))) (by kernel_rfl) (fun h4 => ?_) (fun h4 => ?_)
    · have g5 : (k : Int) < ((a).length : Int) := of_decide_eq_true h4
      refine wp_skip (nx_then (wp_seq (wp_block (wp_seq ?_))))
      refine S.drawn (keep := [0, 1, 5, 26]) (m := 0) (σ' := ⟨[(0, .v (slv (a).length pa.1)), (1, .v (slv (b).length pb.1)), (5, .v (I (k : Int))), (26, .v (B (!(decide ((el a k) = (el b k))))))], []⟩) (.cons (Q_idx (S.arg ha) (l := (a).length) (k := k) (i := (k : Int)) rfl rfl (by omega) Try.underlying31 (by kernel_rfl)) (.cons (Q_el1 (S.arg ha) (t := 24) (k := k) (by omega) rfl (by kernel_rfl)) (.cons (Q_idx (S.arg hb) (l := (b).length) (k := k) (i := (k : Int)) rfl rfl (by omega) Try.underlying31 (by kernel_rfl)) (.cons (Q_el1 (S.arg hb) (t := 24) (k := k) (by omega) rfl (by kernel_rfl)) (.cons (Q_call fun w hw => c_laws_eqIntS w (el a k) (pa.2 k) (rd_of (LRd.el (S.arg ha) k (by omega)) hw) (el b k) (pb.2 k) (rd_of (LRd.el (S.arg hb) k (by omega)) hw)) .nil))))) rfl (by kernel_rfl) (by kernel_rfl) ?_
      clear S; intro ac w S
      refine id (nx_then ?_)
      refine S.cond (e := (!(decide ((el a k) = (el b k))))) (by kernel_rfl) (fun h6 => ?_) (fun h6 => ?_)
      · have h7 : (decide ((el a k) = (el b k))) = false := not_t h6
        have g8 := of_decide_eq_false h7
        refine wp_seq (RG.start ?_)
        refine S.quiet (k := 1) (keep := [4]) (m := 0) (σ' := ⟨[(4, .v (B false))], []⟩) .nil (by kernel_rfl) ?_
        clear S; intro ac w β S
        refine RG.done rfl (nx_then (wp_ret (rt_block (rt_then (rt_then (rt_block (rt_then ?_)))))))
        refine S.ret (vs := [B false]) (by kernel_rfl) ?_
        exact ⟨retB (show false = decide (a = b) by clear S; first | (simp; intro e; subst e; simp_all; done) | (simp; rw [take_all (by omega), take_all (by omega)] at he; exact he) | (simp; exact take_ne (by simp_all))), S.chg⟩
      · have h9 : (decide ((el a k) = (el b k))) = true := not_f h6
        have g10 := of_decide_eq_true h9
        refine wp_skip (nx_block (nx_then (RG.start ?_)))
        refine S.quiet (k := 3) (keep := [0, 1, 5]) (m := 0) (σ' := ⟨[(0, .v (slv (a).length pa.1)), (1, .v (slv (b).length pb.1)), (5, .v (I ((k : Int) + 1)))], []⟩) (.cons (Q_add (x := (k : Int)) (y := 1) ⟨by omega, by omega⟩) .nil) (by kernel_rfl) ?_
        clear S; intro ac w β S
        refine RG.done rfl (nx_then ?_)
        replace S := S.prune (keep := [0, 1, 5]) (m := 0) (σ' := ⟨[(0, .v (slv (a).length pa.1)), (1, .v (slv (b).length pb.1)), (5, .v (I ((k : Int) + 1)))], []⟩) (by kernel_rfl)
        refine ⟨a.length - (k + 1), by omega, k + 1, _, _, _, rfl, ?_, ?_, ?_, S.cast (by kernel_rfl)⟩
        · clear S; first | omega | (simp [*]; done) | (simp [*]; omega)
        · clear S; first | omega | (simp [*]; done) | (simp [*]; omega)
        · clear S; exact take_eq_step (by omega) (by omega) he (by simp_all)
    · have g11 : ¬ ((k : Int) < ((a).length : Int)) := of_decide_eq_false h4
      refine wp_exit (ex_then (ex_then (ex_hit (nx_then (wp_seq (RG.start ?_))))))
      refine S.quiet (k := 1) (keep := [4]) (m := 0) (σ' := ⟨[(4, .v (B true))], []⟩) .nil (by kernel_rfl) ?_
      clear S; intro ac w β S
      refine RG.done rfl (nx_then (wp_ret ?_))
      refine S.ret (vs := [B true]) (by kernel_rfl) ?_
      exact ⟨retB (show true = decide (a = b) by clear S; first | (simp; intro e; subst e; simp_all; done) | (simp; rw [take_all (by omega), take_all (by omega)] at he; exact he) | (simp; exact take_ne (by simp_all))), S.chg⟩

set_option maxRecDepth 100000 in
theorem c_laws_eqIns (w0 : World) (a : TIns) (b : TIns) : Calls Try.prog 170 [GT.val a (), GT.val b ()].toArray w0 (fun e w' => e = .returned (B (decide (a = b))) ∧ Chg NoB w0 w') := by
  refine Calls.walk (args := [GT.val a (), GT.val b ()]) NoB Try.func170 rfl rfl ?_
  intro ac β S
  refine wp_seq (RG.start ?_)
  refine S.quiet (k := 3) (keep := [2, 3]) (m := 2) (σ' := ⟨[(2, .p 0 0), (3, .p 1 0)], [GT.cells a (), GT.cells b ()]⟩) .nil (by kernel_rfl) ?_
  clear S; intro ac w β S
  refine RG.done rfl (nx_then (wp_seq (wp_seq (RG.start ?_))))
  refine S.quiet (k := 5) (keep := [2, 3, 9]) (m := 2) (σ' := ⟨[(2, .p 0 0), (3, .p 1 0), (9, .v (B (a.opc != b.opc)))], [GT.cells a (), GT.cells b ()]⟩) .nil (by kernel_rfl) ?_
  clear S; intro ac w β S
  refine RG.done rfl (nx_then ?_)
  refine S.cond (e := (a.opc != b.opc)) (by kernel_rfl) (fun h1 => ?_) (fun h1 => ?_)
  · have g2 : ¬ (a.opc = b.opc) := bne_iff_ne.1 h1
    refine wp_seq (RG.start ?_)
    refine S.quiet (k := 1) (keep := [4]) (m := 0) (σ' := ⟨[(4, .v (B false))], []⟩) .nil (by kernel_rfl) ?_
    clear S; intro ac w β S
    refine RG.done rfl (nx_then (wp_ret (rt_then ?_)))
    refine S.ret (vs := [B false]) (by kernel_rfl) ?_
    exact ⟨retB (show false = decide (a = b) by clear S; first | (simp [TIns.ext_iff, *]; done) | (simp_all [TIns.ext_iff]; done)), S.chg⟩
  · have g3 : a.opc = b.opc := ne_f h1
    refine wp_skip (nx_then (wp_seq (wp_seq (RG.start ?_))))
    refine S.quiet (k := 5) (keep := [14]) (m := 0) (σ' := ⟨[(14, .v (B (a.x != b.x)))], []⟩) .nil (by kernel_rfl) ?_
    clear S; intro ac w β S
    refine RG.done rfl (nx_then ?_)
    refine S.cond (e := (a.x != b.x)) (by kernel_rfl) (fun h4 => ?_) (fun h4 => ?_)
    · have g5 : ¬ (a.x = b.x) := bne_iff_ne.1 h4
      refine wp_seq (RG.start ?_)
      refine S.quiet (k := 1) (keep := [4]) (m := 0) (σ' := ⟨[(4, .v (B false))], []⟩) .nil (by kernel_rfl) ?_
      clear S; intro ac w β S
      refine RG.done rfl (nx_then (wp_ret (rt_then ?_)))
      refine S.ret (vs := [B false]) (by kernel_rfl) ?_
      exact ⟨retB (show false = decide (a = b) by clear S; first | (simp [TIns.ext_iff, *]; done) | (simp_all [TIns.ext_iff]; done)), S.chg⟩
    · have g6 : a.x = b.x := ne_f h4
      refine wp_skip (nx_then (wp_seq (RG.start ?_)))
      refine S.quiet (k := 1) (keep := [4]) (m := 0) (σ' := ⟨[(4, .v (B true))], []⟩) .nil (by kernel_rfl) ?_
      clear S; intro ac w β S
      refine RG.done rfl (nx_then (wp_ret ?_))
      refine S.ret (vs := [B true]) (by kernel_rfl) ?_
      exact ⟨retB (show true = decide (a = b) by clear S; first | (simp [TIns.ext_iff, *]; done) | (simp_all [TIns.ext_iff]; done)), S.chg⟩

set_option maxRecDepth 100000 in
theorem c_laws_eqInsS (w0 : World) (a : List TIns) (pa : LP TIns) (ha : GT.rd KK (Lt w0.heap.size) w0 a pa) (b : List TIns) (pb : LP TIns) (hb : GT.rd KK (Lt w0.heap.size) w0 b pb) : Calls Try.prog 155 [slv (a).length pa.1, slv (b).length pb.1].toArray w0 (fun e w' => e = .returned (B (decide (a = b))) ∧ Chg NoB w0 w') := by
  refine Calls.walk (args := [slv (a).length pa.1, slv (b).length pb.1]) NoB Try.func155 rfl rfl ?_
  intro ac β S
  have hlea : a.length ≤ 4194304 := LRd.le ha
  have hleb : b.length ≤ 4194304 := LRd.le hb
  refine wp_seq (RG.start ?_)
  refine S.quiet (k := 1) (keep := [0, 1]) (m := 0) (σ' := ⟨[(0, .v (slv (a).length pa.1)), (1, .v (slv (b).length pb.1))], []⟩) .nil (by kernel_rfl) ?_
  clear S; intro ac w β S
  refine RG.done rfl (nx_then (wp_seq (wp_seq (RG.start ?_))))
  refine S.quiet (k := 5) (keep := [0, 1, 10]) (m := 0) (σ' := ⟨[(0, .v (slv (a).length pa.1)), (1, .v (slv (b).length pb.1)), (10, .v (B (((a).length : Int) != ((b).length : Int))))], []⟩) .nil (by kernel_rfl) ?_
  clear S; intro ac w β S
  refine RG.done rfl (nx_then ?_)
  refine S.cond (e := (((a).length : Int) != ((b).length : Int))) (by kernel_rfl) (fun h1 => ?_) (fun h1 => ?_)
  · have g2 : ¬ (((a).length : Int) = ((b).length : Int)) := bne_iff_ne.1 h1
    refine wp_seq (RG.start ?_)
    refine S.quiet (k := 1) (keep := [4]) (m := 0) (σ' := ⟨[(4, .v (B false))], []⟩) .nil (by kernel_rfl) ?_
    clear S; intro ac w β S
    refine RG.done rfl (nx_then (wp_ret (rt_then ?_)))
    refine S.ret (vs := [B false]) (by kernel_rfl) ?_
    exact ⟨retB (show false = decide (a = b) by clear S; first | (simp; intro e; subst e; simp_all; done) | (simp; rw [take_all (by omega), take_all (by omega)] at he; exact he) | (simp; exact take_ne (by simp_all))), S.chg⟩
  · have g3 : ((a).length : Int) = ((b).length : Int) := ne_f h1
    refine wp_skip (nx_then (wp_seq (wp_seq (RG.start ?_))))
    refine S.quiet (k := 1) (keep := [0, 1, 5]) (m := 0) (σ' := ⟨[(0, .v (slv (a).length pa.1)), (1, .v (slv (b).length pb.1)), (5, .v (I 0))], []⟩) .nil (by kernel_rfl) ?_
    clear S; intro ac w β S
    refine RG.done rfl (nx_then (wp_block ?_))
    replace S := S.prune (keep := [0, 1, 5]) (m := 0) (σ' := ⟨[(0, .v (slv (a).length pa.1)), (1, .v (slv (b).length pb.1)), (5, .v (I 0))], []⟩) (by kernel_rfl)
    refine wp_loop_down (fun mm ac w => ∃ (k : Nat)  (u : World) (N : Bl) (β : Nat → Nat), mm = a.length - k ∧ (k ≤ a.length) ∧ (a.length = b.length) ∧ (a.take k = b.take k) ∧ St Try.prog Try.f155.ntmps w0 NoB u N β ⟨[(0, .v (slv (a).length pa.1)), (1, .v (slv (b).length pb.1)), (5, .v (I (k : Int)))], []⟩ ac w) _ ⟨0, _, _, _, rfl, (by first | omega | (simp; done) | (simp; omega)), (by first | omega | (simp; done) | (simp; omega)), (by simp), S.cast (by kernel_rfl)⟩ ?_
    clear S
    rintro mm ac w ⟨k, u, N, β, rfl, hk, hab, he, S⟩
    refine wp_seq (wp_seq (RG.start ?_))
    refine S.quiet (k := 4) (keep := [0, 1, 5, 14]) (m := 0) (σ' := ⟨[(0, .v (slv (a).length pa.1)), (1, .v (slv (b).length pb.1)), (5, .v (I (k : Int))), (14, .v (B (decide ((k : Int) < ((a).length : Int)))))], []⟩) .nil (by kernel_rfl) ?_
    clear S; intro ac w β S
    refine RG.done rfl (nx_then ?_)
    refine S.cond (e := (decide ((k : Int) < ((a).length : Int)))) (by kernel_rfl) (fun h4 => ?_) (fun h4 => ?_)
    · have g5 : (k : Int) < ((a).length : Int) := of_decide_eq_true h4
      refine wp_skip (nx_then (wp_seq (wp_block (wp_seq ?_))))
      refine S.drawn (keep := [0, 1, 5, 26]) (m := 0) (σ' := ⟨[(0, .v (slv (a).length pa.1)), (1, .v (slv (b).length pb.1)), (5, .v (I (k : Int))), (26, .v (B (!(decide ((el a k) = (el b k))))))], []⟩) (.cons (Q_idx (S.arg ha) (l := (a).length) (k := k) (i := (k : Int)) rfl rfl (by omega) Try.underlying28 (by kernel_rfl)) (.cons (Q_el (S.arg ha) (t := 27) (k := k) (by omega) rfl (by kernel_rfl) (by kernel_rfl)) (.cons (Q_idx (S.arg hb) (l := (b).length) (k := k) (i := (k : Int)) rfl rfl (by omega) Try.underlying28 (by kernel_rfl)) (.cons (Q_el (S.arg hb) (t := 27) (k := k) (by omega) rfl (by kernel_rfl) (by kernel_rfl)) (.cons (Q_call fun w hw => c_laws_eqIns w (el a k) (el b k)) .nil))))) rfl (by kernel_rfl) (by kernel_rfl) ?_
      clear S; intro ac w S
      refine id (nx_then ?_)
      refine S.cond (e := (!(decide ((el a k) = (el b k))))) (by kernel_rfl) (fun h6 => ?_) (fun h6 => ?_)
      · have h7 : (decide ((el a k) = (el b k))) = false := not_t h6
        have g8 := of_decide_eq_false h7
        refine wp_seq (RG.start ?_)
        refine S.quiet (k := 1) (keep := [4]) (m := 0) (σ' := ⟨[(4, .v (B false))], []⟩) .nil (by kernel_rfl) ?_
        clear S; intro ac w β S
        refine RG.done rfl (nx_then (wp_ret (rt_block (rt_then (rt_then (rt_block (rt_then ?_)))))))
        refine S.ret (vs := [B false]) (by kernel_rfl) ?_
        exact ⟨retB (show false = decide (a = b) by clear S; first | (simp; intro e; subst e; simp_all; done) | (simp; rw [take_all (by omega), take_all (by omega)] at he; exact he) | (simp; exact take_ne (by simp_all))), S.chg⟩
      · have h9 : (decide ((el a k) = (el b k))) = true := not_f h6
        have g10 := of_decide_eq_true h9
        refine wp_skip (nx_block (nx_then (RG.start ?_)))
        refine S.quiet (k := 3) (keep := [0, 1, 5]) (m := 0) (σ' := ⟨[(0, .v (slv (a).length pa.1)), (1, .v (slv (b).length pb.1)), (5, .v (I ((k : Int) + 1)))], []⟩) (.cons (Q_add (x := (k : Int)) (y := 1) ⟨by omega, by omega⟩) .nil) (by kernel_rfl) ?_
        clear S; intro ac w β S
        refine RG.done rfl (nx_then ?_)
        replace S := S.prune (keep := [0, 1, 5]) (m := 0) (σ' := ⟨[(0, .v (slv (a).length pa.1)), (1, .v (slv (b).length pb.1)), (5, .v (I ((k : Int) + 1)))], []⟩) (by kernel_rfl)
        refine ⟨a.length - (k + 1), by omega, k + 1, _, _, _, rfl, ?_, ?_, ?_, S.cast (by kernel_rfl)⟩
        · clear S; first | omega | (simp [*]; done) | (simp [*]; omega)
        · clear S; first | omega | (simp [*]; done) | (simp [*]; omega)
        · clear S; exact take_eq_step (by omega) (by omega) he (by simp_all)
    · have g11 : ¬ ((k : Int) < ((a).length : Int)) := of_decide_eq_false h4
      refine wp_exit (ex_then (ex_then (ex_hit (nx_then (wp_seq (RG.start ?_))))))
      refine S.quiet (k := 1) (keep := [4]) (m := 0) (σ' := ⟨[(4, .v (B true))], []⟩) .nil (by kernel_rfl) ?_
      clear S; intro ac w β S
      refine RG.done rfl (nx_then (wp_ret ?_))
      refine S.ret (vs := [B true]) (by kernel_rfl) ?_
      exact ⟨retB (show true = decide (a = b) by clear S; first | (simp; intro e; subst e; simp_all; done) | (simp; rw [take_all (by omega), take_all (by omega)] at he; exact he) | (simp; exact take_ne (by simp_all))), S.chg⟩

set_option maxRecDepth 100000 in
theorem c_laws_eqSlot (w0 : World) (a : TSlot) (b : TSlot) : Calls Try.prog 171 [GT.val a (), GT.val b ()].toArray w0 (fun e w' => e = .returned (B (decide (a = b))) ∧ Chg NoB w0 w') := by
  refine Calls.walk (args := [GT.val a (), GT.val b ()]) NoB Try.func171 rfl rfl ?_
  intro ac β S
  refine wp_seq (RG.start ?_)
  refine S.quiet (k := 3) (keep := [2, 3]) (m := 2) (σ' := ⟨[(2, .p 0 0), (3, .p 1 0)], [GT.cells a (), GT.cells b ()]⟩) .nil (by kernel_rfl) ?_
  clear S; intro ac w β S
  refine RG.done rfl (nx_then (wp_seq (wp_seq (RG.start ?_))))
  refine S.quiet (k := 5) (keep := [2, 3, 9]) (m := 2) (σ' := ⟨[(2, .p 0 0), (3, .p 1 0), (9, .v (B (a.page != b.page)))], [GT.cells a (), GT.cells b ()]⟩) .nil (by kernel_rfl) ?_
  clear S; intro ac w β S
  refine RG.done rfl (nx_then ?_)
  refine S.cond (e := (a.page != b.page)) (by kernel_rfl) (fun h1 => ?_) (fun h1 => ?_)
  · have g2 : ¬ (a.page = b.page) := bne_iff_ne.1 h1
    refine wp_seq (RG.start ?_)
    refine S.quiet (k := 1) (keep := [4]) (m := 0) (σ' := ⟨[(4, .v (B false))], []⟩) .nil (by kernel_rfl) ?_
    clear S; intro ac w β S
    refine RG.done rfl (nx_then (wp_ret (rt_then ?_)))
    refine S.ret (vs := [B false]) (by kernel_rfl) ?_
    exact ⟨retB (show false = decide (a = b) by clear S; first | (simp [TSlot.ext_iff, *]; done) | (simp_all [TSlot.ext_iff]; done)), S.chg⟩
  · have g3 : a.page = b.page := ne_f h1
    refine wp_skip (nx_then (wp_seq (wp_seq (RG.start ?_))))
    refine S.quiet (k := 5) (keep := [14]) (m := 0) (σ' := ⟨[(14, .v (B (a.rights != b.rights)))], []⟩) .nil (by kernel_rfl) ?_
    clear S; intro ac w β S
    refine RG.done rfl (nx_then ?_)
    refine S.cond (e := (a.rights != b.rights)) (by kernel_rfl) (fun h4 => ?_) (fun h4 => ?_)
    · have g5 : ¬ (a.rights = b.rights) := bne_iff_ne.1 h4
      refine wp_seq (RG.start ?_)
      refine S.quiet (k := 1) (keep := [4]) (m := 0) (σ' := ⟨[(4, .v (B false))], []⟩) .nil (by kernel_rfl) ?_
      clear S; intro ac w β S
      refine RG.done rfl (nx_then (wp_ret (rt_then ?_)))
      refine S.ret (vs := [B false]) (by kernel_rfl) ?_
      exact ⟨retB (show false = decide (a = b) by clear S; first | (simp [TSlot.ext_iff, *]; done) | (simp_all [TSlot.ext_iff]; done)), S.chg⟩
    · have g6 : a.rights = b.rights := ne_f h4
      refine wp_skip (nx_then (wp_seq (RG.start ?_)))
      refine S.quiet (k := 1) (keep := [4]) (m := 0) (σ' := ⟨[(4, .v (B true))], []⟩) .nil (by kernel_rfl) ?_
      clear S; intro ac w β S
      refine RG.done rfl (nx_then (wp_ret ?_))
      refine S.ret (vs := [B true]) (by kernel_rfl) ?_
      exact ⟨retB (show true = decide (a = b) by clear S; first | (simp [TSlot.ext_iff, *]; done) | (simp_all [TSlot.ext_iff]; done)), S.chg⟩

set_option maxRecDepth 100000 in
theorem c_laws_eqSlotS (w0 : World) (a : List TSlot) (pa : LP TSlot) (ha : GT.rd KK (Lt w0.heap.size) w0 a pa) (b : List TSlot) (pb : LP TSlot) (hb : GT.rd KK (Lt w0.heap.size) w0 b pb) : Calls Try.prog 156 [slv (a).length pa.1, slv (b).length pb.1].toArray w0 (fun e w' => e = .returned (B (decide (a = b))) ∧ Chg NoB w0 w') := by
  refine Calls.walk (args := [slv (a).length pa.1, slv (b).length pb.1]) NoB Try.func156 rfl rfl ?_
  intro ac β S
  have hlea : a.length ≤ 4194304 := LRd.le ha
  have hleb : b.length ≤ 4194304 := LRd.le hb
  refine wp_seq (RG.start ?_)
  refine S.quiet (k := 1) (keep := [0, 1]) (m := 0) (σ' := ⟨[(0, .v (slv (a).length pa.1)), (1, .v (slv (b).length pb.1))], []⟩) .nil (by kernel_rfl) ?_
  clear S; intro ac w β S
  refine RG.done rfl (nx_then (wp_seq (wp_seq (RG.start ?_))))
  refine S.quiet (k := 5) (keep := [0, 1, 10]) (m := 0) (σ' := ⟨[(0, .v (slv (a).length pa.1)), (1, .v (slv (b).length pb.1)), (10, .v (B (((a).length : Int) != ((b).length : Int))))], []⟩) .nil (by kernel_rfl) ?_
  clear S; intro ac w β S
  refine RG.done rfl (nx_then ?_)
  refine S.cond (e := (((a).length : Int) != ((b).length : Int))) (by kernel_rfl) (fun h1 => ?_) (fun h1 => ?_)
  · have g2 : ¬ (((a).length : Int) = ((b).length : Int)) := bne_iff_ne.1 h1
    refine wp_seq (RG.start ?_)
    refine S.quiet (k := 1) (keep := [4]) (m := 0) (σ' := ⟨[(4, .v (B false))], []⟩) .nil (by kernel_rfl) ?_
    clear S; intro ac w β S
    refine RG.done rfl (nx_then (wp_ret (rt_then ?_)))
    refine S.ret (vs := [B false]) (by kernel_rfl) ?_
    exact ⟨retB (show false = decide (a = b) by clear S; first | (simp; intro e; subst e; simp_all; done) | (simp; rw [take_all (by omega), take_all (by omega)] at he; exact he) | (simp; exact take_ne (by simp_all))), S.chg⟩
  · have g3 : ((a).length : Int) = ((b).length : Int) := ne_f h1
    refine wp_skip (nx_then (wp_seq (wp_seq (RG.start ?_))))
    refine S.quiet (k := 1) (keep := [0, 1, 5]) (m := 0) (σ' := ⟨[(0, .v (slv (a).length pa.1)), (1, .v (slv (b).length pb.1)), (5, .v (I 0))], []⟩) .nil (by kernel_rfl) ?_
    clear S; intro ac w β S
    refine RG.done rfl (nx_then (wp_block ?_))
    replace S := S.prune (keep := [0, 1, 5]) (m := 0) (σ' := ⟨[(0, .v (slv (a).length pa.1)), (1, .v (slv (b).length pb.1)), (5, .v (I 0))], []⟩) (by kernel_rfl)
    refine wp_loop_down (fun mm ac w => ∃ (k : Nat)  (u : World) (N : Bl) (β : Nat → Nat), mm = a.length - k ∧ (k ≤ a.length) ∧ (a.length = b.length) ∧ (a.take k = b.take k) ∧ St Try.prog Try.f156.ntmps w0 NoB u N β ⟨[(0, .v (slv (a).length pa.1)), (1, .v (slv (b).length pb.1)), (5, .v (I (k : Int)))], []⟩ ac w) _ ⟨0, _, _, _, rfl, (by first | omega | (simp; done) | (simp; omega)), (by first | omega | (simp; done) | (simp; omega)), (by simp), S.cast (by kernel_rfl)⟩ ?_
    clear S
    rintro mm ac w ⟨k, u, N, β, rfl, hk, hab, he, S⟩
    refine wp_seq (wp_seq (RG.start ?_))
    refine S.quiet (k := 4) (keep := [0, 1, 5, 14]) (m := 0) (σ' := ⟨[(0, .v (slv (a).length pa.1)), (1, .v (slv (b).length pb.1)), (5, .v (I (k : Int))), (14, .v (B (decide ((k : Int) < ((a).length : Int)))))], []⟩) .nil (by kernel_rfl) ?_
    clear S; intro ac w β S
    refine RG.done rfl (nx_then ?_)
    refine S.cond (e := (decide ((k : Int) < ((a).length : Int)))) (by kernel_rfl) (fun h4 => ?_) (fun h4 => ?_)
    · have g5 : (k : Int) < ((a).length : Int) := of_decide_eq_true h4
      refine wp_skip (nx_then (wp_seq (wp_block (wp_seq ?_))))
      refine S.drawn (keep := [0, 1, 5, 26]) (m := 0) (σ' := ⟨[(0, .v (slv (a).length pa.1)), (1, .v (slv (b).length pb.1)), (5, .v (I (k : Int))), (26, .v (B (!(decide ((el a k) = (el b k))))))], []⟩) (.cons (Q_idx (S.arg ha) (l := (a).length) (k := k) (i := (k : Int)) rfl rfl (by omega) Try.underlying37 (by kernel_rfl)) (.cons (Q_el (S.arg ha) (t := 54) (k := k) (by omega) rfl (by kernel_rfl) (by kernel_rfl)) (.cons (Q_idx (S.arg hb) (l := (b).length) (k := k) (i := (k : Int)) rfl rfl (by omega) Try.underlying37 (by kernel_rfl)) (.cons (Q_el (S.arg hb) (t := 54) (k := k) (by omega) rfl (by kernel_rfl) (by kernel_rfl)) (.cons (Q_call fun w hw => c_laws_eqSlot w (el a k) (el b k)) .nil))))) rfl (by kernel_rfl) (by kernel_rfl) ?_
      clear S; intro ac w S
      refine id (nx_then ?_)
      refine S.cond (e := (!(decide ((el a k) = (el b k))))) (by kernel_rfl) (fun h6 => ?_) (fun h6 => ?_)
      · have h7 : (decide ((el a k) = (el b k))) = false := not_t h6
        have g8 := of_decide_eq_false h7
        refine wp_seq (RG.start ?_)
        refine S.quiet (k := 1) (keep := [4]) (m := 0) (σ' := ⟨[(4, .v (B false))], []⟩) .nil (by kernel_rfl) ?_
        clear S; intro ac w β S
        refine RG.done rfl (nx_then (wp_ret (rt_block (rt_then (rt_then (rt_block (rt_then ?_)))))))
        refine S.ret (vs := [B false]) (by kernel_rfl) ?_
        exact ⟨retB (show false = decide (a = b) by clear S; first | (simp; intro e; subst e; simp_all; done) | (simp; rw [take_all (by omega), take_all (by omega)] at he; exact he) | (simp; exact take_ne (by simp_all))), S.chg⟩
      · have h9 : (decide ((el a k) = (el b k))) = true := not_f h6
        have g10 := of_decide_eq_true h9
        refine wp_skip (nx_block (nx_then (RG.start ?_)))
        refine S.quiet (k := 3) (keep := [0, 1, 5]) (m := 0) (σ' := ⟨[(0, .v (slv (a).length pa.1)), (1, .v (slv (b).length pb.1)), (5, .v (I ((k : Int) + 1)))], []⟩) (.cons (Q_add (x := (k : Int)) (y := 1) ⟨by omega, by omega⟩) .nil) (by kernel_rfl) ?_
        clear S; intro ac w β S
        refine RG.done rfl (nx_then ?_)
        replace S := S.prune (keep := [0, 1, 5]) (m := 0) (σ' := ⟨[(0, .v (slv (a).length pa.1)), (1, .v (slv (b).length pb.1)), (5, .v (I ((k : Int) + 1)))], []⟩) (by kernel_rfl)
        refine ⟨a.length - (k + 1), by omega, k + 1, _, _, _, rfl, ?_, ?_, ?_, S.cast (by kernel_rfl)⟩
        · clear S; first | omega | (simp [*]; done) | (simp [*]; omega)
        · clear S; first | omega | (simp [*]; done) | (simp [*]; omega)
        · clear S; exact take_eq_step (by omega) (by omega) he (by simp_all)
    · have g11 : ¬ ((k : Int) < ((a).length : Int)) := of_decide_eq_false h4
      refine wp_exit (ex_then (ex_then (ex_hit (nx_then (wp_seq (RG.start ?_))))))
      refine S.quiet (k := 1) (keep := [4]) (m := 0) (σ' := ⟨[(4, .v (B true))], []⟩) .nil (by kernel_rfl) ?_
      clear S; intro ac w β S
      refine RG.done rfl (nx_then (wp_ret ?_))
      refine S.ret (vs := [B true]) (by kernel_rfl) ?_
      exact ⟨retB (show true = decide (a = b) by clear S; first | (simp; intro e; subst e; simp_all; done) | (simp; rw [take_all (by omega), take_all (by omega)] at he; exact he) | (simp; exact take_ne (by simp_all))), S.chg⟩

set_option maxRecDepth 100000 in
theorem c_laws_eqCtl (w0 : World) (a : TCtl) (b : TCtl) : Calls Try.prog 157 [GT.val a (), GT.val b ()].toArray w0 (fun e w' => e = .returned (B (decide (a = b))) ∧ Chg NoB w0 w') := by
  refine Calls.walk (args := [GT.val a (), GT.val b ()]) NoB Try.func157 rfl rfl ?_
  intro ac β S
  refine wp_seq (RG.start ?_)
  refine S.quiet (k := 3) (keep := [2, 3]) (m := 2) (σ' := ⟨[(2, .p 0 0), (3, .p 1 0)], [GT.cells a (), GT.cells b ()]⟩) .nil (by kernel_rfl) ?_
  clear S; intro ac w β S
  refine RG.done rfl (nx_then (wp_seq (wp_seq (RG.start ?_))))
  refine S.quiet (k := 5) (keep := [2, 3, 9]) (m := 2) (σ' := ⟨[(2, .p 0 0), (3, .p 1 0), (9, .v (B (a.traps != b.traps)))], [GT.cells a (), GT.cells b ()]⟩) .nil (by kernel_rfl) ?_
  clear S; intro ac w β S
  refine RG.done rfl (nx_then ?_)
  refine S.cond (e := (a.traps != b.traps)) (by kernel_rfl) (fun h1 => ?_) (fun h1 => ?_)
  · have g2 : ¬ (a.traps = b.traps) := bne_iff_ne.1 h1
    refine wp_seq (RG.start ?_)
    refine S.quiet (k := 1) (keep := [4]) (m := 0) (σ' := ⟨[(4, .v (B false))], []⟩) .nil (by kernel_rfl) ?_
    clear S; intro ac w β S
    refine RG.done rfl (nx_then (wp_ret (rt_then ?_)))
    refine S.ret (vs := [B false]) (by kernel_rfl) ?_
    exact ⟨retB (show false = decide (a = b) by clear S; first | (simp [TCtl.ext_iff, *]; done) | (simp_all [TCtl.ext_iff]; done)), S.chg⟩
  · have g3 : a.traps = b.traps := ne_f h1
    refine wp_skip (nx_then (wp_seq (wp_seq (RG.start ?_))))
    refine S.quiet (k := 5) (keep := [2, 3, 14]) (m := 2) (σ' := ⟨[(2, .p 0 0), (3, .p 1 0), (14, .v (B (a.post != b.post)))], [GT.cells a (), GT.cells b ()]⟩) .nil (by kernel_rfl) ?_
    clear S; intro ac w β S
    refine RG.done rfl (nx_then ?_)
    refine S.cond (e := (a.post != b.post)) (by kernel_rfl) (fun h4 => ?_) (fun h4 => ?_)
    · have g5 : ¬ (a.post = b.post) := bne_iff_ne.1 h4
      refine wp_seq (RG.start ?_)
      refine S.quiet (k := 1) (keep := [4]) (m := 0) (σ' := ⟨[(4, .v (B false))], []⟩) .nil (by kernel_rfl) ?_
      clear S; intro ac w β S
      refine RG.done rfl (nx_then (wp_ret (rt_then ?_)))
      refine S.ret (vs := [B false]) (by kernel_rfl) ?_
      exact ⟨retB (show false = decide (a = b) by clear S; first | (simp [TCtl.ext_iff, *]; done) | (simp_all [TCtl.ext_iff]; done)), S.chg⟩
    · have g6 : a.post = b.post := ne_f h4
      refine wp_skip (nx_then (wp_seq (wp_seq (RG.start ?_))))
      refine S.quiet (k := 5) (keep := [19]) (m := 0) (σ' := ⟨[(19, .v (B (!(a.opn == b.opn))))], []⟩) .nil (by kernel_rfl) ?_
      clear S; intro ac w β S
      refine RG.done rfl (nx_then ?_)
      refine S.cond (e := (!(a.opn == b.opn))) (by kernel_rfl) (fun h7 => ?_) (fun h7 => ?_)
      · have h8 : (a.opn == b.opn) = false := not_t h7
        have g9 : ¬ (a.opn = b.opn) := ne_of_beq_false h8
        refine wp_seq (RG.start ?_)
        refine S.quiet (k := 1) (keep := [4]) (m := 0) (σ' := ⟨[(4, .v (B false))], []⟩) .nil (by kernel_rfl) ?_
        clear S; intro ac w β S
        refine RG.done rfl (nx_then (wp_ret (rt_then ?_)))
        refine S.ret (vs := [B false]) (by kernel_rfl) ?_
        exact ⟨retB (show false = decide (a = b) by clear S; first | (simp [TCtl.ext_iff, *]; done) | (simp_all [TCtl.ext_iff]; done)), S.chg⟩
      · have h10 : (a.opn == b.opn) = true := not_f h7
        have g11 : a.opn = b.opn := eq_of_beq h10
        refine wp_skip (nx_then (wp_seq (RG.start ?_)))
        refine S.quiet (k := 1) (keep := [4]) (m := 0) (σ' := ⟨[(4, .v (B true))], []⟩) .nil (by kernel_rfl) ?_
        clear S; intro ac w β S
        refine RG.done rfl (nx_then (wp_ret ?_))
        refine S.ret (vs := [B true]) (by kernel_rfl) ?_
        exact ⟨retB (show true = decide (a = b) by clear S; first | (simp [TCtl.ext_iff, *]; done) | (simp_all [TCtl.ext_iff]; done)), S.chg⟩

set_option maxRecDepth 100000 in
theorem c_laws_eqExit (w0 : World) (a : TExit) (b : TExit) : Calls Try.prog 158 [GT.val a (), GT.val b ()].toArray w0 (fun e w' => e = .returned (B (decide (a = b))) ∧ Chg NoB w0 w') := by
  refine Calls.walk (args := [GT.val a (), GT.val b ()]) NoB Try.func158 rfl rfl ?_
  intro ac β S
  refine wp_seq (RG.start ?_)
  refine S.quiet (k := 3) (keep := [2, 3]) (m := 2) (σ' := ⟨[(2, .p 0 0), (3, .p 1 0)], [GT.cells a (), GT.cells b ()]⟩) .nil (by kernel_rfl) ?_
  clear S; intro ac w β S
  refine RG.done rfl (nx_then (wp_seq (wp_seq (RG.start ?_))))
  refine S.quiet (k := 5) (keep := [2, 3, 9]) (m := 2) (σ' := ⟨[(2, .p 0 0), (3, .p 1 0), (9, .v (B (a.kind != b.kind)))], [GT.cells a (), GT.cells b ()]⟩) .nil (by kernel_rfl) ?_
  clear S; intro ac w β S
  refine RG.done rfl (nx_then ?_)
  refine S.cond (e := (a.kind != b.kind)) (by kernel_rfl) (fun h1 => ?_) (fun h1 => ?_)
  · have g2 : ¬ (a.kind = b.kind) := bne_iff_ne.1 h1
    refine wp_seq (RG.start ?_)
    refine S.quiet (k := 1) (keep := [4]) (m := 0) (σ' := ⟨[(4, .v (B false))], []⟩) .nil (by kernel_rfl) ?_
    clear S; intro ac w β S
    refine RG.done rfl (nx_then (wp_ret (rt_then ?_)))
    refine S.ret (vs := [B false]) (by kernel_rfl) ?_
    exact ⟨retB (show false = decide (a = b) by clear S; first | (simp [TExit.ext_iff, *]; done) | (simp_all [TExit.ext_iff]; done)), S.chg⟩
  · have g3 : a.kind = b.kind := ne_f h1
    refine wp_skip (nx_then (wp_seq (wp_seq (RG.start ?_))))
    refine S.quiet (k := 5) (keep := [2, 3, 14]) (m := 2) (σ' := ⟨[(2, .p 0 0), (3, .p 1 0), (14, .v (B (a.page != b.page)))], [GT.cells a (), GT.cells b ()]⟩) .nil (by kernel_rfl) ?_
    clear S; intro ac w β S
    refine RG.done rfl (nx_then ?_)
    refine S.cond (e := (a.page != b.page)) (by kernel_rfl) (fun h4 => ?_) (fun h4 => ?_)
    · have g5 : ¬ (a.page = b.page) := bne_iff_ne.1 h4
      refine wp_seq (RG.start ?_)
      refine S.quiet (k := 1) (keep := [4]) (m := 0) (σ' := ⟨[(4, .v (B false))], []⟩) .nil (by kernel_rfl) ?_
      clear S; intro ac w β S
      refine RG.done rfl (nx_then (wp_ret (rt_then ?_)))
      refine S.ret (vs := [B false]) (by kernel_rfl) ?_
      exact ⟨retB (show false = decide (a = b) by clear S; first | (simp [TExit.ext_iff, *]; done) | (simp_all [TExit.ext_iff]; done)), S.chg⟩
    · have g6 : a.page = b.page := ne_f h4
      refine wp_skip (nx_then (wp_seq (wp_seq (RG.start ?_))))
      refine S.quiet (k := 5) (keep := [2, 3, 19]) (m := 2) (σ' := ⟨[(2, .p 0 0), (3, .p 1 0), (19, .v (B (!(a.wr == b.wr))))], [GT.cells a (), GT.cells b ()]⟩) .nil (by kernel_rfl) ?_
      clear S; intro ac w β S
      refine RG.done rfl (nx_then ?_)
      refine S.cond (e := (!(a.wr == b.wr))) (by kernel_rfl) (fun h7 => ?_) (fun h7 => ?_)
      · have h8 : (a.wr == b.wr) = false := not_t h7
        have g9 : ¬ (a.wr = b.wr) := ne_of_beq_false h8
        refine wp_seq (RG.start ?_)
        refine S.quiet (k := 1) (keep := [4]) (m := 0) (σ' := ⟨[(4, .v (B false))], []⟩) .nil (by kernel_rfl) ?_
        clear S; intro ac w β S
        refine RG.done rfl (nx_then (wp_ret (rt_then ?_)))
        refine S.ret (vs := [B false]) (by kernel_rfl) ?_
        exact ⟨retB (show false = decide (a = b) by clear S; first | (simp [TExit.ext_iff, *]; done) | (simp_all [TExit.ext_iff]; done)), S.chg⟩
      · have h10 : (a.wr == b.wr) = true := not_f h7
        have g11 : a.wr = b.wr := eq_of_beq h10
        refine wp_skip (nx_then (wp_seq (wp_seq (RG.start ?_))))
        refine S.quiet (k := 5) (keep := [24]) (m := 0) (σ' := ⟨[(24, .v (B (a.n != b.n)))], []⟩) .nil (by kernel_rfl) ?_
        clear S; intro ac w β S
        refine RG.done rfl (nx_then ?_)
        refine S.cond (e := (a.n != b.n)) (by kernel_rfl) (fun h12 => ?_) (fun h12 => ?_)
        · have g13 : ¬ (a.n = b.n) := bne_iff_ne.1 h12
          refine wp_seq (RG.start ?_)
          refine S.quiet (k := 1) (keep := [4]) (m := 0) (σ' := ⟨[(4, .v (B false))], []⟩) .nil (by kernel_rfl) ?_
          clear S; intro ac w β S
          refine RG.done rfl (nx_then (wp_ret (rt_then ?_)))
          refine S.ret (vs := [B false]) (by kernel_rfl) ?_
          exact ⟨retB (show false = decide (a = b) by clear S; first | (simp [TExit.ext_iff, *]; done) | (simp_all [TExit.ext_iff]; done)), S.chg⟩
        · have g14 : a.n = b.n := ne_f h12
          refine wp_skip (nx_then (wp_seq (RG.start ?_)))
          refine S.quiet (k := 1) (keep := [4]) (m := 0) (σ' := ⟨[(4, .v (B true))], []⟩) .nil (by kernel_rfl) ?_
          clear S; intro ac w β S
          refine RG.done rfl (nx_then (wp_ret ?_))
          refine S.ret (vs := [B true]) (by kernel_rfl) ?_
          exact ⟨retB (show true = decide (a = b) by clear S; first | (simp [TExit.ext_iff, *]; done) | (simp_all [TExit.ext_iff]; done)), S.chg⟩

set_option maxRecDepth 100000 in
theorem c_laws_eqGuest (w0 : World) (a : TGuest) (pa : PGuest) (ha : GT.rd KK (Lt w0.heap.size) w0 a pa) (b : TGuest) (pb : PGuest) (hb : GT.rd KK (Lt w0.heap.size) w0 b pb) : Calls Try.prog 126 [GT.val a pa, GT.val b pb].toArray w0 (fun e w' => e = .returned (B (decide (a = b))) ∧ Chg NoB w0 w') := by
  refine Calls.walk (args := [GT.val a pa, GT.val b pb]) NoB Try.func126 rfl rfl ?_
  intro ac β S
  have hlea_prog : a.prog.length ≤ 4194304 := LRd.le (RGuest.prog (d := a) ha)
  have hlea_written : a.written.length ≤ 4194304 := LRd.le (RGuest.written (d := a) ha)
  have hlea_live : a.live.length ≤ 4194304 := LRd.le (RGuest.live (d := a) ha)
  have hlea_seen : a.seen.length ≤ 4194304 := LRd.le (RGuest.seen (d := a) ha)
  have hleb_prog : b.prog.length ≤ 4194304 := LRd.le (RGuest.prog (d := b) hb)
  have hleb_written : b.written.length ≤ 4194304 := LRd.le (RGuest.written (d := b) hb)
  have hleb_live : b.live.length ≤ 4194304 := LRd.le (RGuest.live (d := b) hb)
  have hleb_seen : b.seen.length ≤ 4194304 := LRd.le (RGuest.seen (d := b) hb)
  refine wp_seq (RG.start ?_)
  refine S.quiet (k := 3) (keep := [2, 3]) (m := 2) (σ' := ⟨[(2, .p 0 0), (3, .p 1 0)], [GT.cells a pa, GT.cells b pb]⟩) .nil (by kernel_rfl) ?_
  clear S; intro ac w β S
  refine RG.done rfl (nx_then (wp_seq (wp_seq (RG.start ?_))))
  refine S.quiet (k := 6) (keep := [2, 3, 10]) (m := 2) (σ' := ⟨[(2, .p 0 0), (3, .p 1 0), (10, .v (B (!(decide (a.prog = b.prog)))))], [GT.cells a pa, GT.cells b pb]⟩) (.cons (Q_call fun w hw => c_laws_eqInsS w a.prog pa.prog (rd_of (RGuest.prog (d := a) (S.arg ha)) hw) b.prog pb.prog (rd_of (RGuest.prog (d := b) (S.arg hb)) hw)) .nil) (by kernel_rfl) ?_
  clear S; intro ac w β S
  refine RG.done rfl (nx_then ?_)
  refine S.cond (e := (!(decide (a.prog = b.prog)))) (by kernel_rfl) (fun h1 => ?_) (fun h1 => ?_)
  · have h2 : (decide (a.prog = b.prog)) = false := not_t h1
    have g3 := of_decide_eq_false h2
    refine wp_seq (RG.start ?_)
    refine S.quiet (k := 1) (keep := [4]) (m := 0) (σ' := ⟨[(4, .v (B false))], []⟩) .nil (by kernel_rfl) ?_
    clear S; intro ac w β S
    refine RG.done rfl (nx_then (wp_ret (rt_then ?_)))
    refine S.ret (vs := [B false]) (by kernel_rfl) ?_
    exact ⟨retB (show false = decide (a = b) by clear S; first | (simp [TGuest.ext_iff, *]; done) | (simp_all [TGuest.ext_iff]; done)), S.chg⟩
  · have h4 : (decide (a.prog = b.prog)) = true := not_f h1
    have g5 := of_decide_eq_true h4
    refine wp_skip (nx_then (wp_seq (wp_seq (RG.start ?_))))
    refine S.quiet (k := 5) (keep := [2, 3, 15]) (m := 2) (σ' := ⟨[(2, .p 0 0), (3, .p 1 0), (15, .v (B (a.acc != b.acc)))], [GT.cells a pa, GT.cells b pb]⟩) .nil (by kernel_rfl) ?_
    clear S; intro ac w β S
    refine RG.done rfl (nx_then ?_)
    refine S.cond (e := (a.acc != b.acc)) (by kernel_rfl) (fun h6 => ?_) (fun h6 => ?_)
    · have g7 : ¬ (a.acc = b.acc) := bne_iff_ne.1 h6
      refine wp_seq (RG.start ?_)
      refine S.quiet (k := 1) (keep := [4]) (m := 0) (σ' := ⟨[(4, .v (B false))], []⟩) .nil (by kernel_rfl) ?_
      clear S; intro ac w β S
      refine RG.done rfl (nx_then (wp_ret (rt_then ?_)))
      refine S.ret (vs := [B false]) (by kernel_rfl) ?_
      exact ⟨retB (show false = decide (a = b) by clear S; first | (simp [TGuest.ext_iff, *]; done) | (simp_all [TGuest.ext_iff]; done)), S.chg⟩
    · have g8 : a.acc = b.acc := ne_f h6
      refine wp_skip (nx_then (wp_seq (wp_seq (RG.start ?_))))
      refine S.quiet (k := 5) (keep := [2, 3, 20]) (m := 2) (σ' := ⟨[(2, .p 0 0), (3, .p 1 0), (20, .v (B (a.pc != b.pc)))], [GT.cells a pa, GT.cells b pb]⟩) .nil (by kernel_rfl) ?_
      clear S; intro ac w β S
      refine RG.done rfl (nx_then ?_)
      refine S.cond (e := (a.pc != b.pc)) (by kernel_rfl) (fun h9 => ?_) (fun h9 => ?_)
      · have g10 : ¬ (a.pc = b.pc) := bne_iff_ne.1 h9
        refine wp_seq (RG.start ?_)
        refine S.quiet (k := 1) (keep := [4]) (m := 0) (σ' := ⟨[(4, .v (B false))], []⟩) .nil (by kernel_rfl) ?_
        clear S; intro ac w β S
        refine RG.done rfl (nx_then (wp_ret (rt_then ?_)))
        refine S.ret (vs := [B false]) (by kernel_rfl) ?_
        exact ⟨retB (show false = decide (a = b) by clear S; first | (simp [TGuest.ext_iff, *]; done) | (simp_all [TGuest.ext_iff]; done)), S.chg⟩
      · have g11 : a.pc = b.pc := ne_f h9
        refine wp_skip (nx_then (wp_seq (wp_seq (RG.start ?_))))
        refine S.quiet (k := 6) (keep := [2, 3, 26]) (m := 2) (σ' := ⟨[(2, .p 0 0), (3, .p 1 0), (26, .v (B (!(decide (a.written = b.written)))))], [GT.cells a pa, GT.cells b pb]⟩) (.cons (Q_call fun w hw => c_laws_eqSlotS w a.written pa.written (rd_of (RGuest.written (d := a) (S.arg ha)) hw) b.written pb.written (rd_of (RGuest.written (d := b) (S.arg hb)) hw)) .nil) (by kernel_rfl) ?_
        clear S; intro ac w β S
        refine RG.done rfl (nx_then ?_)
        refine S.cond (e := (!(decide (a.written = b.written)))) (by kernel_rfl) (fun h12 => ?_) (fun h12 => ?_)
        · have h13 : (decide (a.written = b.written)) = false := not_t h12
          have g14 := of_decide_eq_false h13
          refine wp_seq (RG.start ?_)
          refine S.quiet (k := 1) (keep := [4]) (m := 0) (σ' := ⟨[(4, .v (B false))], []⟩) .nil (by kernel_rfl) ?_
          clear S; intro ac w β S
          refine RG.done rfl (nx_then (wp_ret (rt_then ?_)))
          refine S.ret (vs := [B false]) (by kernel_rfl) ?_
          exact ⟨retB (show false = decide (a = b) by clear S; first | (simp [TGuest.ext_iff, *]; done) | (simp_all [TGuest.ext_iff]; done)), S.chg⟩
        · have h15 : (decide (a.written = b.written)) = true := not_f h12
          have g16 := of_decide_eq_true h15
          refine wp_skip (nx_then (wp_seq (wp_seq (RG.start ?_))))
          refine S.quiet (k := 6) (keep := [2, 3, 32]) (m := 2) (σ' := ⟨[(2, .p 0 0), (3, .p 1 0), (32, .v (B (!(decide (a.live = b.live)))))], [GT.cells a pa, GT.cells b pb]⟩) (.cons (Q_call fun w hw => c_laws_eqSlotS w a.live pa.live (rd_of (RGuest.live (d := a) (S.arg ha)) hw) b.live pb.live (rd_of (RGuest.live (d := b) (S.arg hb)) hw)) .nil) (by kernel_rfl) ?_
          clear S; intro ac w β S
          refine RG.done rfl (nx_then ?_)
          refine S.cond (e := (!(decide (a.live = b.live)))) (by kernel_rfl) (fun h17 => ?_) (fun h17 => ?_)
          · have h18 : (decide (a.live = b.live)) = false := not_t h17
            have g19 := of_decide_eq_false h18
            refine wp_seq (RG.start ?_)
            refine S.quiet (k := 1) (keep := [4]) (m := 0) (σ' := ⟨[(4, .v (B false))], []⟩) .nil (by kernel_rfl) ?_
            clear S; intro ac w β S
            refine RG.done rfl (nx_then (wp_ret (rt_then ?_)))
            refine S.ret (vs := [B false]) (by kernel_rfl) ?_
            exact ⟨retB (show false = decide (a = b) by clear S; first | (simp [TGuest.ext_iff, *]; done) | (simp_all [TGuest.ext_iff]; done)), S.chg⟩
          · have h20 : (decide (a.live = b.live)) = true := not_f h17
            have g21 := of_decide_eq_true h20
            refine wp_skip (nx_then (wp_seq (wp_seq (RG.start ?_))))
            refine S.quiet (k := 6) (keep := [2, 3, 38]) (m := 2) (σ' := ⟨[(2, .p 0 0), (3, .p 1 0), (38, .v (B (!(decide (a.ctl = b.ctl)))))], [GT.cells a pa, GT.cells b pb]⟩) (.cons (Q_call fun w hw => c_laws_eqCtl w a.ctl b.ctl) .nil) (by kernel_rfl) ?_
            clear S; intro ac w β S
            refine RG.done rfl (nx_then ?_)
            refine S.cond (e := (!(decide (a.ctl = b.ctl)))) (by kernel_rfl) (fun h22 => ?_) (fun h22 => ?_)
            · have h23 : (decide (a.ctl = b.ctl)) = false := not_t h22
              have g24 := of_decide_eq_false h23
              refine wp_seq (RG.start ?_)
              refine S.quiet (k := 1) (keep := [4]) (m := 0) (σ' := ⟨[(4, .v (B false))], []⟩) .nil (by kernel_rfl) ?_
              clear S; intro ac w β S
              refine RG.done rfl (nx_then (wp_ret (rt_then ?_)))
              refine S.ret (vs := [B false]) (by kernel_rfl) ?_
              exact ⟨retB (show false = decide (a = b) by clear S; first | (simp [TGuest.ext_iff, *]; done) | (simp_all [TGuest.ext_iff]; done)), S.chg⟩
            · have h25 : (decide (a.ctl = b.ctl)) = true := not_f h22
              have g26 := of_decide_eq_true h25
              refine wp_skip (nx_then (wp_seq (wp_seq (RG.start ?_))))
              refine S.quiet (k := 5) (keep := [2, 3, 43]) (m := 2) (σ' := ⟨[(2, .p 0 0), (3, .p 1 0), (43, .v (B (a.pend != b.pend)))], [GT.cells a pa, GT.cells b pb]⟩) .nil (by kernel_rfl) ?_
              clear S; intro ac w β S
              refine RG.done rfl (nx_then ?_)
              refine S.cond (e := (a.pend != b.pend)) (by kernel_rfl) (fun h27 => ?_) (fun h27 => ?_)
              · have g28 : ¬ (a.pend = b.pend) := bne_iff_ne.1 h27
                refine wp_seq (RG.start ?_)
                refine S.quiet (k := 1) (keep := [4]) (m := 0) (σ' := ⟨[(4, .v (B false))], []⟩) .nil (by kernel_rfl) ?_
                clear S; intro ac w β S
                refine RG.done rfl (nx_then (wp_ret (rt_then ?_)))
                refine S.ret (vs := [B false]) (by kernel_rfl) ?_
                exact ⟨retB (show false = decide (a = b) by clear S; first | (simp [TGuest.ext_iff, *]; done) | (simp_all [TGuest.ext_iff]; done)), S.chg⟩
              · have g29 : a.pend = b.pend := ne_f h27
                refine wp_skip (nx_then (wp_seq (wp_seq (RG.start ?_))))
                refine S.quiet (k := 6) (keep := [2, 3, 49]) (m := 2) (σ' := ⟨[(2, .p 0 0), (3, .p 1 0), (49, .v (B (!(decide (a.exit = b.exit)))))], [GT.cells a pa, GT.cells b pb]⟩) (.cons (Q_call fun w hw => c_laws_eqExit w a.exit b.exit) .nil) (by kernel_rfl) ?_
                clear S; intro ac w β S
                refine RG.done rfl (nx_then ?_)
                refine S.cond (e := (!(decide (a.exit = b.exit)))) (by kernel_rfl) (fun h30 => ?_) (fun h30 => ?_)
                · have h31 : (decide (a.exit = b.exit)) = false := not_t h30
                  have g32 := of_decide_eq_false h31
                  refine wp_seq (RG.start ?_)
                  refine S.quiet (k := 1) (keep := [4]) (m := 0) (σ' := ⟨[(4, .v (B false))], []⟩) .nil (by kernel_rfl) ?_
                  clear S; intro ac w β S
                  refine RG.done rfl (nx_then (wp_ret (rt_then ?_)))
                  refine S.ret (vs := [B false]) (by kernel_rfl) ?_
                  exact ⟨retB (show false = decide (a = b) by clear S; first | (simp [TGuest.ext_iff, *]; done) | (simp_all [TGuest.ext_iff]; done)), S.chg⟩
                · have h33 : (decide (a.exit = b.exit)) = true := not_f h30
                  have g34 := of_decide_eq_true h33
                  refine wp_skip (nx_then (wp_seq (wp_seq (RG.start ?_))))
                  refine S.quiet (k := 5) (keep := [2, 3, 54]) (m := 2) (σ' := ⟨[(2, .p 0 0), (3, .p 1 0), (54, .v (B (!(a.halted == b.halted))))], [GT.cells a pa, GT.cells b pb]⟩) .nil (by kernel_rfl) ?_
                  clear S; intro ac w β S
                  refine RG.done rfl (nx_then ?_)
                  refine S.cond (e := (!(a.halted == b.halted))) (by kernel_rfl) (fun h35 => ?_) (fun h35 => ?_)
                  · have h36 : (a.halted == b.halted) = false := not_t h35
                    have g37 : ¬ (a.halted = b.halted) := ne_of_beq_false h36
                    refine wp_seq (RG.start ?_)
                    refine S.quiet (k := 1) (keep := [4]) (m := 0) (σ' := ⟨[(4, .v (B false))], []⟩) .nil (by kernel_rfl) ?_
                    clear S; intro ac w β S
                    refine RG.done rfl (nx_then (wp_ret (rt_then ?_)))
                    refine S.ret (vs := [B false]) (by kernel_rfl) ?_
                    exact ⟨retB (show false = decide (a = b) by clear S; first | (simp [TGuest.ext_iff, *]; done) | (simp_all [TGuest.ext_iff]; done)), S.chg⟩
                  · have h38 : (a.halted == b.halted) = true := not_f h35
                    have g39 : a.halted = b.halted := eq_of_beq h38
                    refine wp_skip (nx_then (wp_seq (wp_seq (RG.start ?_))))
                    refine S.quiet (k := 6) (keep := [60]) (m := 0) (σ' := ⟨[(60, .v (B (!(decide (a.seen = b.seen)))))], []⟩) (.cons (Q_call fun w hw => c_laws_eqIntS w a.seen pa.seen (rd_of (RGuest.seen (d := a) (S.arg ha)) hw) b.seen pb.seen (rd_of (RGuest.seen (d := b) (S.arg hb)) hw)) .nil) (by kernel_rfl) ?_
                    clear S; intro ac w β S
                    refine RG.done rfl (nx_then ?_)
                    refine S.cond (e := (!(decide (a.seen = b.seen)))) (by kernel_rfl) (fun h40 => ?_) (fun h40 => ?_)
                    · have h41 : (decide (a.seen = b.seen)) = false := not_t h40
                      have g42 := of_decide_eq_false h41
                      refine wp_seq (RG.start ?_)
                      refine S.quiet (k := 1) (keep := [4]) (m := 0) (σ' := ⟨[(4, .v (B false))], []⟩) .nil (by kernel_rfl) ?_
                      clear S; intro ac w β S
                      refine RG.done rfl (nx_then (wp_ret (rt_then ?_)))
                      refine S.ret (vs := [B false]) (by kernel_rfl) ?_
                      exact ⟨retB (show false = decide (a = b) by clear S; first | (simp [TGuest.ext_iff, *]; done) | (simp_all [TGuest.ext_iff]; done)), S.chg⟩
                    · have h43 : (decide (a.seen = b.seen)) = true := not_f h40
                      have g44 := of_decide_eq_true h43
                      refine wp_skip (nx_then (wp_seq (RG.start ?_)))
                      refine S.quiet (k := 1) (keep := [4]) (m := 0) (σ' := ⟨[(4, .v (B true))], []⟩) .nil (by kernel_rfl) ?_
                      clear S; intro ac w β S
                      refine RG.done rfl (nx_then (wp_ret ?_))
                      refine S.ret (vs := [B true]) (by kernel_rfl) ?_
                      exact ⟨retB (show true = decide (a = b) by clear S; first | (simp [TGuest.ext_iff, *]; done) | (simp_all [TGuest.ext_iff]; done)), S.chg⟩

set_option maxRecDepth 100000 in
theorem c_laws_eqGuestS (w0 : World) (a : List TGuest) (pa : LP TGuest) (ha : GT.rd KK (Lt w0.heap.size) w0 a pa) (b : List TGuest) (pb : LP TGuest) (hb : GT.rd KK (Lt w0.heap.size) w0 b pb) : Calls Try.prog 87 [slv (a).length pa.1, slv (b).length pb.1].toArray w0 (fun e w' => e = .returned (B (decide (a = b))) ∧ Chg NoB w0 w') := by
  refine Calls.walk (args := [slv (a).length pa.1, slv (b).length pb.1]) NoB Try.func87 rfl rfl ?_
  intro ac β S
  have hlea : a.length ≤ 4194304 := LRd.le ha
  have hleb : b.length ≤ 4194304 := LRd.le hb
  refine wp_seq (RG.start ?_)
  refine S.quiet (k := 1) (keep := [0, 1]) (m := 0) (σ' := ⟨[(0, .v (slv (a).length pa.1)), (1, .v (slv (b).length pb.1))], []⟩) .nil (by kernel_rfl) ?_
  clear S; intro ac w β S
  refine RG.done rfl (nx_then (wp_seq (wp_seq (RG.start ?_))))
  refine S.quiet (k := 5) (keep := [0, 1, 10]) (m := 0) (σ' := ⟨[(0, .v (slv (a).length pa.1)), (1, .v (slv (b).length pb.1)), (10, .v (B (((a).length : Int) != ((b).length : Int))))], []⟩) .nil (by kernel_rfl) ?_
  clear S; intro ac w β S
  refine RG.done rfl (nx_then ?_)
  refine S.cond (e := (((a).length : Int) != ((b).length : Int))) (by kernel_rfl) (fun h1 => ?_) (fun h1 => ?_)
  · have g2 : ¬ (((a).length : Int) = ((b).length : Int)) := bne_iff_ne.1 h1
    refine wp_seq (RG.start ?_)
    refine S.quiet (k := 1) (keep := [4]) (m := 0) (σ' := ⟨[(4, .v (B false))], []⟩) .nil (by kernel_rfl) ?_
    clear S; intro ac w β S
    refine RG.done rfl (nx_then (wp_ret (rt_then ?_)))
    refine S.ret (vs := [B false]) (by kernel_rfl) ?_
    exact ⟨retB (show false = decide (a = b) by clear S; first | (simp; intro e; subst e; simp_all; done) | (simp; rw [take_all (by omega), take_all (by omega)] at he; exact he) | (simp; exact take_ne (by simp_all))), S.chg⟩
  · have g3 : ((a).length : Int) = ((b).length : Int) := ne_f h1
    refine wp_skip (nx_then (wp_seq (wp_seq (RG.start ?_))))
    refine S.quiet (k := 1) (keep := [0, 1, 5]) (m := 0) (σ' := ⟨[(0, .v (slv (a).length pa.1)), (1, .v (slv (b).length pb.1)), (5, .v (I 0))], []⟩) .nil (by kernel_rfl) ?_
    clear S; intro ac w β S
    refine RG.done rfl (nx_then (wp_block ?_))
    replace S := S.prune (keep := [0, 1, 5]) (m := 0) (σ' := ⟨[(0, .v (slv (a).length pa.1)), (1, .v (slv (b).length pb.1)), (5, .v (I 0))], []⟩) (by kernel_rfl)
    refine wp_loop_down (fun mm ac w => ∃ (k : Nat)  (u : World) (N : Bl) (β : Nat → Nat), mm = a.length - k ∧ (k ≤ a.length) ∧ (a.length = b.length) ∧ (a.take k = b.take k) ∧ St Try.prog Try.f87.ntmps w0 NoB u N β ⟨[(0, .v (slv (a).length pa.1)), (1, .v (slv (b).length pb.1)), (5, .v (I (k : Int)))], []⟩ ac w) _ ⟨0, _, _, _, rfl, (by first | omega | (simp; done) | (simp; omega)), (by first | omega | (simp; done) | (simp; omega)), (by simp), S.cast (by kernel_rfl)⟩ ?_
    clear S
    rintro mm ac w ⟨k, u, N, β, rfl, hk, hab, he, S⟩
    refine wp_seq (wp_seq (RG.start ?_))
    refine S.quiet (k := 4) (keep := [0, 1, 5, 14]) (m := 0) (σ' := ⟨[(0, .v (slv (a).length pa.1)), (1, .v (slv (b).length pb.1)), (5, .v (I (k : Int))), (14, .v (B (decide ((k : Int) < ((a).length : Int)))))], []⟩) .nil (by kernel_rfl) ?_
    clear S; intro ac w β S
    refine RG.done rfl (nx_then ?_)
    refine S.cond (e := (decide ((k : Int) < ((a).length : Int)))) (by kernel_rfl) (fun h4 => ?_) (fun h4 => ?_)
    · have g5 : (k : Int) < ((a).length : Int) := of_decide_eq_true h4
      refine wp_skip (nx_then (wp_seq (wp_block (wp_seq ?_))))
      refine S.drawn (keep := [0, 1, 5, 26]) (m := 0) (σ' := ⟨[(0, .v (slv (a).length pa.1)), (1, .v (slv (b).length pb.1)), (5, .v (I (k : Int))), (26, .v (B (!(decide ((el a k) = (el b k))))))], []⟩) (.cons (Q_idx (S.arg ha) (l := (a).length) (k := k) (i := (k : Int)) rfl rfl (by omega) Try.underlying39 (by kernel_rfl)) (.cons (Q_el (S.arg ha) (t := 117) (k := k) (by omega) rfl (by kernel_rfl) (by kernel_rfl)) (.cons (Q_idx (S.arg hb) (l := (b).length) (k := k) (i := (k : Int)) rfl rfl (by omega) Try.underlying39 (by kernel_rfl)) (.cons (Q_el (S.arg hb) (t := 117) (k := k) (by omega) rfl (by kernel_rfl) (by kernel_rfl)) (.cons (Q_call fun w hw => c_laws_eqGuest w (el a k) (pa.2 k) (rd_of (LRd.el (S.arg ha) k (by omega)) hw) (el b k) (pb.2 k) (rd_of (LRd.el (S.arg hb) k (by omega)) hw)) .nil))))) rfl (by kernel_rfl) (by kernel_rfl) ?_
      clear S; intro ac w S
      refine id (nx_then ?_)
      refine S.cond (e := (!(decide ((el a k) = (el b k))))) (by kernel_rfl) (fun h6 => ?_) (fun h6 => ?_)
      · have h7 : (decide ((el a k) = (el b k))) = false := not_t h6
        have g8 := of_decide_eq_false h7
        refine wp_seq (RG.start ?_)
        refine S.quiet (k := 1) (keep := [4]) (m := 0) (σ' := ⟨[(4, .v (B false))], []⟩) .nil (by kernel_rfl) ?_
        clear S; intro ac w β S
        refine RG.done rfl (nx_then (wp_ret (rt_block (rt_then (rt_then (rt_block (rt_then ?_)))))))
        refine S.ret (vs := [B false]) (by kernel_rfl) ?_
        exact ⟨retB (show false = decide (a = b) by clear S; first | (simp; intro e; subst e; simp_all; done) | (simp; rw [take_all (by omega), take_all (by omega)] at he; exact he) | (simp; exact take_ne (by simp_all))), S.chg⟩
      · have h9 : (decide ((el a k) = (el b k))) = true := not_f h6
        have g10 := of_decide_eq_true h9
        refine wp_skip (nx_block (nx_then (RG.start ?_)))
        refine S.quiet (k := 3) (keep := [0, 1, 5]) (m := 0) (σ' := ⟨[(0, .v (slv (a).length pa.1)), (1, .v (slv (b).length pb.1)), (5, .v (I ((k : Int) + 1)))], []⟩) (.cons (Q_add (x := (k : Int)) (y := 1) ⟨by omega, by omega⟩) .nil) (by kernel_rfl) ?_
        clear S; intro ac w β S
        refine RG.done rfl (nx_then ?_)
        replace S := S.prune (keep := [0, 1, 5]) (m := 0) (σ' := ⟨[(0, .v (slv (a).length pa.1)), (1, .v (slv (b).length pb.1)), (5, .v (I ((k : Int) + 1)))], []⟩) (by kernel_rfl)
        refine ⟨a.length - (k + 1), by omega, k + 1, _, _, _, rfl, ?_, ?_, ?_, S.cast (by kernel_rfl)⟩
        · clear S; first | omega | (simp [*]; done) | (simp [*]; omega)
        · clear S; first | omega | (simp [*]; done) | (simp [*]; omega)
        · clear S; exact take_eq_step (by omega) (by omega) he (by simp_all)
    · have g11 : ¬ ((k : Int) < ((a).length : Int)) := of_decide_eq_false h4
      refine wp_exit (ex_then (ex_then (ex_hit (nx_then (wp_seq (RG.start ?_))))))
      refine S.quiet (k := 1) (keep := [4]) (m := 0) (σ' := ⟨[(4, .v (B true))], []⟩) .nil (by kernel_rfl) ?_
      clear S; intro ac w β S
      refine RG.done rfl (nx_then (wp_ret ?_))
      refine S.ret (vs := [B true]) (by kernel_rfl) ?_
      exact ⟨retB (show true = decide (a = b) by clear S; first | (simp; intro e; subst e; simp_all; done) | (simp; rw [take_all (by omega), take_all (by omega)] at he; exact he) | (simp; exact take_ne (by simp_all))), S.chg⟩

set_option maxRecDepth 100000 in
theorem c_laws_eqBare (w0 : World) (a : TBare) (pa : PBare) (ha : GT.rd KK (Lt w0.heap.size) w0 a pa) (b : TBare) (pb : PBare) (hb : GT.rd KK (Lt w0.heap.size) w0 b pb) : Calls Try.prog 40 [GT.val a pa, GT.val b pb].toArray w0 (fun e w' => e = .returned (B (decide (a = b))) ∧ Chg NoB w0 w') := by
  refine Calls.walk (args := [GT.val a pa, GT.val b pb]) NoB Try.func40 rfl rfl ?_
  intro ac β S
  have hlea_mem : a.mem.length ≤ 4194304 := LRd.le (RBare.mem (d := a) ha)
  have hlea_guests : a.guests.length ≤ 4194304 := LRd.le (RBare.guests (d := a) ha)
  have hlea_outs : a.outs.length ≤ 4194304 := LRd.le (RBare.outs (d := a) ha)
  have hleb_mem : b.mem.length ≤ 4194304 := LRd.le (RBare.mem (d := b) hb)
  have hleb_guests : b.guests.length ≤ 4194304 := LRd.le (RBare.guests (d := b) hb)
  have hleb_outs : b.outs.length ≤ 4194304 := LRd.le (RBare.outs (d := b) hb)
  refine wp_seq (RG.start ?_)
  refine S.quiet (k := 3) (keep := [2, 3]) (m := 2) (σ' := ⟨[(2, .p 0 0), (3, .p 1 0)], [GT.cells a pa, GT.cells b pb]⟩) .nil (by kernel_rfl) ?_
  clear S; intro ac w β S
  refine RG.done rfl (nx_then (wp_seq (wp_seq (RG.start ?_))))
  refine S.quiet (k := 6) (keep := [2, 3, 10]) (m := 2) (σ' := ⟨[(2, .p 0 0), (3, .p 1 0), (10, .v (B (!(decide (a.mem = b.mem)))))], [GT.cells a pa, GT.cells b pb]⟩) (.cons (Q_call fun w hw => c_laws_eqIntSS w a.mem pa.mem (rd_of (RBare.mem (d := a) (S.arg ha)) hw) b.mem pb.mem (rd_of (RBare.mem (d := b) (S.arg hb)) hw)) .nil) (by kernel_rfl) ?_
  clear S; intro ac w β S
  refine RG.done rfl (nx_then ?_)
  refine S.cond (e := (!(decide (a.mem = b.mem)))) (by kernel_rfl) (fun h1 => ?_) (fun h1 => ?_)
  · have h2 : (decide (a.mem = b.mem)) = false := not_t h1
    have g3 := of_decide_eq_false h2
    refine wp_seq (RG.start ?_)
    refine S.quiet (k := 1) (keep := [4]) (m := 0) (σ' := ⟨[(4, .v (B false))], []⟩) .nil (by kernel_rfl) ?_
    clear S; intro ac w β S
    refine RG.done rfl (nx_then (wp_ret (rt_then ?_)))
    refine S.ret (vs := [B false]) (by kernel_rfl) ?_
    exact ⟨retB (show false = decide (a = b) by clear S; first | (simp [TBare.ext_iff, *]; done) | (simp_all [TBare.ext_iff]; done)), S.chg⟩
  · have h4 : (decide (a.mem = b.mem)) = true := not_f h1
    have g5 := of_decide_eq_true h4
    refine wp_skip (nx_then (wp_seq (wp_seq (RG.start ?_))))
    refine S.quiet (k := 6) (keep := [2, 3, 16]) (m := 2) (σ' := ⟨[(2, .p 0 0), (3, .p 1 0), (16, .v (B (!(decide (a.guests = b.guests)))))], [GT.cells a pa, GT.cells b pb]⟩) (.cons (Q_call fun w hw => c_laws_eqGuestS w a.guests pa.guests (rd_of (RBare.guests (d := a) (S.arg ha)) hw) b.guests pb.guests (rd_of (RBare.guests (d := b) (S.arg hb)) hw)) .nil) (by kernel_rfl) ?_
    clear S; intro ac w β S
    refine RG.done rfl (nx_then ?_)
    refine S.cond (e := (!(decide (a.guests = b.guests)))) (by kernel_rfl) (fun h6 => ?_) (fun h6 => ?_)
    · have h7 : (decide (a.guests = b.guests)) = false := not_t h6
      have g8 := of_decide_eq_false h7
      refine wp_seq (RG.start ?_)
      refine S.quiet (k := 1) (keep := [4]) (m := 0) (σ' := ⟨[(4, .v (B false))], []⟩) .nil (by kernel_rfl) ?_
      clear S; intro ac w β S
      refine RG.done rfl (nx_then (wp_ret (rt_then ?_)))
      refine S.ret (vs := [B false]) (by kernel_rfl) ?_
      exact ⟨retB (show false = decide (a = b) by clear S; first | (simp [TBare.ext_iff, *]; done) | (simp_all [TBare.ext_iff]; done)), S.chg⟩
    · have h9 : (decide (a.guests = b.guests)) = true := not_f h6
      have g10 := of_decide_eq_true h9
      refine wp_skip (nx_then (wp_seq (wp_seq (RG.start ?_))))
      refine S.quiet (k := 6) (keep := [2, 3, 22]) (m := 2) (σ' := ⟨[(2, .p 0 0), (3, .p 1 0), (22, .v (B (!(decide (a.outs = b.outs)))))], [GT.cells a pa, GT.cells b pb]⟩) (.cons (Q_call fun w hw => c_laws_eqIntS w a.outs pa.outs (rd_of (RBare.outs (d := a) (S.arg ha)) hw) b.outs pb.outs (rd_of (RBare.outs (d := b) (S.arg hb)) hw)) .nil) (by kernel_rfl) ?_
      clear S; intro ac w β S
      refine RG.done rfl (nx_then ?_)
      refine S.cond (e := (!(decide (a.outs = b.outs)))) (by kernel_rfl) (fun h11 => ?_) (fun h11 => ?_)
      · have h12 : (decide (a.outs = b.outs)) = false := not_t h11
        have g13 := of_decide_eq_false h12
        refine wp_seq (RG.start ?_)
        refine S.quiet (k := 1) (keep := [4]) (m := 0) (σ' := ⟨[(4, .v (B false))], []⟩) .nil (by kernel_rfl) ?_
        clear S; intro ac w β S
        refine RG.done rfl (nx_then (wp_ret (rt_then ?_)))
        refine S.ret (vs := [B false]) (by kernel_rfl) ?_
        exact ⟨retB (show false = decide (a = b) by clear S; first | (simp [TBare.ext_iff, *]; done) | (simp_all [TBare.ext_iff]; done)), S.chg⟩
      · have h14 : (decide (a.outs = b.outs)) = true := not_f h11
        have g15 := of_decide_eq_true h14
        refine wp_skip (nx_then (wp_seq (wp_seq (RG.start ?_))))
        refine S.quiet (k := 5) (keep := [27]) (m := 0) (σ' := ⟨[(27, .v (B (a.pend != b.pend)))], []⟩) .nil (by kernel_rfl) ?_
        clear S; intro ac w β S
        refine RG.done rfl (nx_then ?_)
        refine S.cond (e := (a.pend != b.pend)) (by kernel_rfl) (fun h16 => ?_) (fun h16 => ?_)
        · have g17 : ¬ (a.pend = b.pend) := bne_iff_ne.1 h16
          refine wp_seq (RG.start ?_)
          refine S.quiet (k := 1) (keep := [4]) (m := 0) (σ' := ⟨[(4, .v (B false))], []⟩) .nil (by kernel_rfl) ?_
          clear S; intro ac w β S
          refine RG.done rfl (nx_then (wp_ret (rt_then ?_)))
          refine S.ret (vs := [B false]) (by kernel_rfl) ?_
          exact ⟨retB (show false = decide (a = b) by clear S; first | (simp [TBare.ext_iff, *]; done) | (simp_all [TBare.ext_iff]; done)), S.chg⟩
        · have g18 : a.pend = b.pend := ne_f h16
          refine wp_skip (nx_then (wp_seq (RG.start ?_)))
          refine S.quiet (k := 1) (keep := [4]) (m := 0) (σ' := ⟨[(4, .v (B true))], []⟩) .nil (by kernel_rfl) ?_
          clear S; intro ac w β S
          refine RG.done rfl (nx_then (wp_ret ?_))
          refine S.ret (vs := [B true]) (by kernel_rfl) ?_
          exact ⟨retB (show true = decide (a = b) by clear S; first | (simp [TBare.ext_iff, *]; done) | (simp_all [TBare.ext_iff]; done)), S.chg⟩

set_option maxRecDepth 100000 in
theorem c_laws_markIntS (w0 : World) (a : List Int) (pa : LP Int) (F : Bl) (ha : GT.own KK F w0 a pa) (hF : ∀ b, F b → b < w0.heap.size) (k : Int) (pre0 : 0 ≤ k) (pre1 : k + 16 * (SZ.sz a : Int) ≤ 4611686018427387904) : Calls Try.prog 91 [slv (a).length pa.1, I k].toArray w0 (RetX hdl F w0 pa a k) := by
  refine Calls.walk (args := [slv (a).length pa.1, I k]) F Try.func91 rfl rfl ?_
  intro ac β S
  have oa : Ow w0 F w0 (Lt w0.heap.size) F a pa := ⟨ha, hF, fun b hb => .inr hb⟩
  have hz := szl_Int a
  have hlea : a.length ≤ 4194304 := LOwn.le ha
  refine wp_seq (RG.start ?_)
  refine S.quiet (k := 1) (keep := [0, 1]) (m := 0) (σ' := ⟨[(0, .v (slv (a).length pa.1)), (1, .v (I k))], []⟩) .nil (by kernel_rfl) ?_
  clear S; intro ac w β S
  refine RG.done rfl (nx_then (wp_seq (wp_seq (RG.start ?_))))
  refine S.quiet (k := 1) (keep := [0, 1, 5]) (m := 0) (σ' := ⟨[(0, .v (slv (a).length pa.1)), (1, .v (I k)), (5, .v (I 0))], []⟩) .nil (by kernel_rfl) ?_
  clear S; intro ac w β S
  refine RG.done rfl (nx_then (wp_block ?_))
  replace S := S.prune (keep := [0, 1, 5]) (m := 0) (σ' := ⟨[(0, .v (slv (a).length pa.1)), (1, .v (I k)), (5, .v (I 0))], []⟩) (by kernel_rfl)
  refine wp_loop_down (fun mm ac w => ∃ (i : Nat) (acc : List Int) (j : Int) (q1 : GT.Ptr (List Int)) (F2 : Bl) (u : World) (N : Bl) (β : Nat → Nat), mm = a.length - i ∧ (i ≤ a.length) ∧ (acc = f_marksInt i k ++ a.drop i) ∧ (j = k + 1 * (i : Int)) ∧ St Try.prog Try.f91.ntmps w0 F u N β ⟨[(0, .v (slv a.length q1.1)), (1, .v (I j)), (5, .v (I (i : Int)))], []⟩ ac w ∧ Ow w0 F u N F2 acc q1 ∧ q1.1 = pa.1 ∧ (∀ b, F2 b → F b)) _ ⟨0, a, k, pa, F, _, _, _, rfl, (by first | omega | (simp; done) | (simp; omega)), (by simp [f_marksInt]), (by simp), S.cast (by kernel_rfl), oa, rfl, (fun _ h => h)⟩ ?_
  clear S oa
  rintro mm ac w ⟨i, acc, j, q1, F2, u, N, β, rfl, hi, hacc, hj, S, o3, hq, hs⟩
  have hlacc : acc.length = a.length := by rw [hacc]; simp [f_marksInt]; omega
  refine wp_seq (wp_seq (RG.start ?_))
  refine S.quiet (k := 4) (keep := [0, 1, 5, 9]) (m := 0) (σ' := ⟨[(0, .v (slv a.length q1.1)), (1, .v (I j)), (5, .v (I (i : Int))), (9, .v (B (decide ((i : Int) < (a.length : Int)))))], []⟩) .nil (by kernel_rfl) ?_
  clear S; intro ac w β S
  refine RG.done rfl (nx_then ?_)
  refine S.cond (e := (decide ((i : Int) < (a.length : Int)))) (by kernel_rfl) (fun h4 => ?_) (fun h4 => ?_)
  · have g5 : (i : Int) < (a.length : Int) := of_decide_eq_true h4
    refine wp_skip (nx_then (wp_seq (wp_block (wp_seq (RG.start ?_)))))
    refine S.quiet (k := 4) (keep := [0, 1, 5, 14, 15]) (m := 0) (σ' := ⟨[(0, .v (slv a.length q1.1)), (1, .v (I j)), (5, .v (I (i : Int))), (14, .v (I j)), (15, .v (pt q1.1.b (q1.1.off + i * 1)))], []⟩) (.cons (Q_idx o3.rn (l := a.length) (k := i) (i := (i : Int)) (by rw [hacc]; simp [f_marksInt]; omega) rfl (by omega) Try.underlying24 (by kernel_rfl)) .nil) (by kernel_rfl) ?_
    clear S; intro ac w β S
    refine RG.op rfl (S.setEl (α := Int) o3 (t := 3) (v := I j) (k := i) (j := 0) (off := q1.1.off + i * 1) (y := j) (q := ()) (Fy := NoB) (by kernel_rfl) (by kernel_rfl) (by omega) (by kernel_rfl) (by kernel_rfl) (Nat.le_of_ble_eq_true (by kernel_rfl)) (by kernel_rfl) (fun _ _ _ => ⟨NoB, ⟨by omega, by omega⟩, fun _ h => False.elim h⟩) (fun b _ h => False.elim h) (fun b h => False.elim h) (fun b h => False.elim h) ?_)
    clear S; intro w N F7 q8 S up o6 d9 s10
    have s11 : ∀ b, F7 b → F b := fun b h => (s10 b h).elim (hs b) (fun h => False.elim h)
    clear up d9 o3
    have l12 : (acc.set i j).length = (acc).length := List.length_set
    replace S := S.prune (keep := [0, 1, 5]) (m := 0) (σ' := ⟨[(0, .v (slv a.length q1.1)), (1, .v (I j)), (5, .v (I (i : Int)))], []⟩) (by kernel_rfl)
    refine RG.done rfl (nx_then (RG.start ?_))
    refine S.quiet (k := 3) (keep := [0, 1, 5]) (m := 0) (σ' := ⟨[(0, .v (slv a.length q1.1)), (1, .v (I (j + 1))), (5, .v (I (i : Int)))], []⟩) (.cons (Q_add (x := j) (y := 1) ⟨by omega, by omega⟩) .nil) (by kernel_rfl) ?_
    clear S; intro ac w β S
    refine RG.done rfl (nx_block (nx_then (RG.start ?_)))
    refine S.quiet (k := 3) (keep := [0, 1, 5]) (m := 0) (σ' := ⟨[(0, .v (slv a.length q1.1)), (1, .v (I (j + 1))), (5, .v (I ((i : Int) + 1)))], []⟩) (.cons (Q_add (x := (i : Int)) (y := 1) ⟨by omega, by omega⟩) .nil) (by kernel_rfl) ?_
    clear S; intro ac w β S
    refine RG.done rfl (nx_then ?_)
    replace S := S.prune (keep := [0, 1, 5]) (m := 0) (σ' := ⟨[(0, .v (slv a.length q1.1)), (1, .v (I (j + 1))), (5, .v (I ((i : Int) + 1)))], []⟩) (by kernel_rfl)
    refine ⟨a.length - (i + 1), by omega, i + 1, (acc.set i j), (j + 1), (q1.1, q8), F7, _, _, _, rfl, ?_, ?_, ?_, S.cast (by kernel_rfl), o6, hq, s11⟩
    · clear S; first | omega | (simp [*]; done) | (simp [*]; omega)
    · clear S; (have hlt : i < acc.length := (by omega)); rw [hacc, ← marksInt_step (by omega) hj]; (first | rfl | (simp [g_markInt, Int.add_assoc]; done))
    · clear S; omega
  · have g13 : ¬ ((i : Int) < (a.length : Int)) := of_decide_eq_false h4
    refine wp_exit (ex_then (ex_then (ex_hit (nx_then (wp_seq (RG.start ?_))))))
    refine S.quiet (k := 2) (keep := [4]) (m := 0) (σ' := ⟨[(4, .v (I j))], []⟩) .nil (by kernel_rfl) ?_
    clear S; intro ac w β S
    refine RG.done rfl (nx_then (wp_ret ?_))
    refine S.ret (vs := [I j]) (by kernel_rfl) ?_
    have hyd : hdl acc k = j := by clear S; (have e : i = a.length := (by omega)); subst e; rw [hacc, List.drop_length, List.append_nil, hj]; exact hd_marksInt k (by omega) _ (by omega) id
    have hyb : k ≤ j ∧ j ≤ k + 16 * ((SZ.sz a : Nat) : Int) := by clear S; skip; constructor <;> omega
    exact retX_of S hyd hyb.1 hyb.2 (by show [slv _ _] = [slv _ _]; rw [hlacc, hq]) o3 hs

set_option maxRecDepth 100000 in
theorem c_laws_markIntSS (w0 : World) (a : List (List Int)) (pa : LP (List Int)) (F : Bl) (ha : GT.own KK F w0 a pa) (hF : ∀ b, F b → b < w0.heap.size) (k : Int) (pre0 : 0 ≤ k) (pre1 : k + 16 * (SZ.sz a : Int) ≤ 4611686018427387904) : Calls Try.prog 89 [slv (a).length pa.1, I k].toArray w0 (RetX hdl F w0 pa a k) := by
  refine Calls.walk (args := [slv (a).length pa.1, I k]) F Try.func89 rfl rfl ?_
  intro ac β S
  have oa : Ow w0 F w0 (Lt w0.heap.size) F a pa := ⟨ha, hF, fun b hb => .inr hb⟩
  have hz := sz_list a
  have hlea : a.length ≤ 4194304 := LOwn.le ha
  refine wp_seq (RG.start ?_)
  refine S.quiet (k := 1) (keep := [0, 1]) (m := 0) (σ' := ⟨[(0, .v (slv (a).length pa.1)), (1, .v (I k))], []⟩) .nil (by kernel_rfl) ?_
  clear S; intro ac w β S
  refine RG.done rfl (nx_then (wp_seq (wp_seq (RG.start ?_))))
  refine S.quiet (k := 1) (keep := [0, 1, 5]) (m := 0) (σ' := ⟨[(0, .v (slv (a).length pa.1)), (1, .v (I k)), (5, .v (I 0))], []⟩) .nil (by kernel_rfl) ?_
  clear S; intro ac w β S
  refine RG.done rfl (nx_then (wp_block ?_))
  replace S := S.prune (keep := [0, 1, 5]) (m := 0) (σ' := ⟨[(0, .v (slv (a).length pa.1)), (1, .v (I k)), (5, .v (I 0))], []⟩) (by kernel_rfl)
  refine wp_loop_down (fun mm ac w => ∃ (i : Nat) (acc : List (List Int)) (j : Int) (q1 : GT.Ptr (List (List Int))) (F2 : Bl) (u : World) (N : Bl) (β : Nat → Nat), mm = a.length - i ∧ (i ≤ a.length) ∧ (acc.length = a.length) ∧ (∀ f, hdlc (acc.take i) k f = f j) ∧ (acc.drop i = a.drop i) ∧ (k ≤ j) ∧ (j ≤ k + 16 * ((i : Int) + (szsum (a.take i) : Nat))) ∧ St Try.prog Try.f89.ntmps w0 F u N β ⟨[(0, .v (slv a.length q1.1)), (1, .v (I j)), (5, .v (I (i : Int)))], []⟩ ac w ∧ Ow w0 F u N F2 acc q1 ∧ q1.1 = pa.1 ∧ (∀ b, F2 b → F b)) _ ⟨0, a, k, pa, F, _, _, _, rfl, (by first | omega | (simp; done) | (simp; omega)), (by rfl), (by intro f; rfl), (by rfl), (by first | omega | (simp; done) | (simp; omega)), (by simp [szsum_nil]), S.cast (by kernel_rfl), oa, rfl, (fun _ h => h)⟩ ?_
  clear S oa
  rintro mm ac w ⟨i, acc, j, q1, F2, u, N, β, rfl, hi, hl, hM, hD, hj0, hj1, S, o3, hq, hs⟩
  have hel := el_of_drop hD
  have hsl := szsum_take_le a i
  refine wp_seq (wp_seq (RG.start ?_))
  refine S.quiet (k := 4) (keep := [0, 1, 5, 9]) (m := 0) (σ' := ⟨[(0, .v (slv a.length q1.1)), (1, .v (I j)), (5, .v (I (i : Int))), (9, .v (B (decide ((i : Int) < (a.length : Int)))))], []⟩) .nil (by kernel_rfl) ?_
  clear S; intro ac w β S
  refine RG.done rfl (nx_then ?_)
  refine S.cond (e := (decide ((i : Int) < (a.length : Int)))) (by kernel_rfl) (fun h4 => ?_) (fun h4 => ?_)
  · have g5 : (i : Int) < (a.length : Int) := of_decide_eq_true h4
    refine wp_skip (nx_then (wp_seq (wp_block (RG.start ?_))))
    refine S.quiet (k := 5) (keep := [0, 5, 15, 16]) (m := 0) (σ' := ⟨[(0, .v (slv a.length q1.1)), (5, .v (I (i : Int))), (15, .v (slv ((el acc i)).length (q1.2 i).1)), (16, .v (I j))], []⟩) (.cons (Q_idx o3.rn (l := a.length) (k := i) (i := (i : Int)) (by omega) rfl (by omega) Try.underlying31 (by kernel_rfl)) (.cons (Q_el1 o3.rn (t := 24) (k := i) (by omega) rfl (by kernel_rfl)) .nil)) (by kernel_rfl) ?_
    clear S; intro ac w β S
    obtain ⟨F6, o7, s8, b9⟩ := foc_id o3 (k := i) (show i < (acc).length by omega)
    have z10 := szsum_take (xs := a) (k := i) (by omega)
    have z11 := szsum_take_le a (i + 1)
    have e12 : (el acc i) = el a i := by simp only [hel]
    refine RG.op rfl (S.callX (hd := hdl) (d := 17) o7 (c_laws_markIntS w (el acc i) (q1.2 i) F6 (S.ownw o7) (fun b hb => (S.sep b (o7.sub b hb)).1) j (by omega) (by rw [e12]; omega)) (by kernel_rfl) rfl ?_)
    clear S; intro ac w N q13 y14 k15 S up o16 c17 x18 b19 b20
    rw [e12] at b20
    obtain ⟨p21, o22⟩ := b9 _ _ _ _ up o16 c17
    clear up o3 o7 s8 b9 o16 c17
    obtain ⟨a23, e24⟩ : ∃ z, z = (acc).set i (y14) := ⟨_, rfl⟩
    rw [← e24] at o22
    have l25 : a23.length = (acc).length := by rw [e24]; exact List.length_set
    have e26 : el a23 i = y14 := by rw [e24]; exact el_set_self (show i < (acc).length by omega)
    have t27 : a23.take i = (acc).take i := by rw [e24]; exact take_set_self
    have d28 : a23.drop (i + 1) = (acc).drop (i + 1) := by rw [e24]; exact drop_set_self
    clear e24
    refine S.quiet (k := 1) (keep := [0, 1, 5]) (m := 0) (σ' := ⟨[(0, .v (slv a.length q1.1)), (1, .v (I k15)), (5, .v (I (i : Int)))], []⟩) .nil (by kernel_rfl) ?_
    clear S; intro ac w β S
    refine RG.done rfl (nx_block (nx_then (RG.start ?_)))
    refine S.quiet (k := 3) (keep := [0, 1, 5]) (m := 0) (σ' := ⟨[(0, .v (slv a.length q1.1)), (1, .v (I k15)), (5, .v (I ((i : Int) + 1)))], []⟩) (.cons (Q_add (x := (i : Int)) (y := 1) ⟨by omega, by omega⟩) .nil) (by kernel_rfl) ?_
    clear S; intro ac w β S
    refine RG.done rfl (nx_then ?_)
    replace S := S.prune (keep := [0, 1, 5]) (m := 0) (σ' := ⟨[(0, .v (slv a.length q1.1)), (1, .v (I k15)), (5, .v (I ((i : Int) + 1)))], []⟩) (by kernel_rfl)
    refine ⟨a.length - (i + 1), by omega, i + 1, a23, k15, (q1.1, p21), F2, _, _, _, rfl, ?_, ?_, ?_, ?_, ?_, ?_, S.cast (by kernel_rfl), o22, hq, hs⟩
    · clear S; first | omega | (simp [*]; done) | (simp [*]; omega)
    · clear S; omega
    · clear S; refine mk_step (acc := a23) (by omega) (by intro f; rw [t27]; exact hM f) ?_; intro f; simp (disch := first | omega | rfl) only [he_list, he_list, e26, x18, hdc_pos, hdi_eq, hdb_eq]
    · clear S; rw [d28]; exact drop_more hD
    · clear S; omega
    · clear S; omega
  · have g29 : ¬ ((i : Int) < (a.length : Int)) := of_decide_eq_false h4
    refine wp_exit (ex_then (ex_then (ex_hit (nx_then (wp_seq (RG.start ?_))))))
    refine S.quiet (k := 2) (keep := [4]) (m := 0) (σ' := ⟨[(4, .v (I j))], []⟩) .nil (by kernel_rfl) ?_
    clear S; intro ac w β S
    refine RG.done rfl (nx_then (wp_ret ?_))
    refine S.ret (vs := [I j]) (by kernel_rfl) ?_
    have hyd : hdl acc k = j := by clear S; exact mk_end (by omega) hM
    have hyb : k ≤ j ∧ j ≤ k + 16 * ((SZ.sz a : Nat) : Int) := by clear S; have hs2 := szsum_take_le a i; constructor <;> omega
    exact retX_of S hyd hyb.1 hyb.2 (by show [slv _ _] = [slv _ _]; rw [hl, hq]) o3 hs

set_option maxRecDepth 100000 in
theorem c_laws_markInsS (w0 : World) (a : List TIns) (pa : LP TIns) (F : Bl) (ha : GT.own KK F w0 a pa) (hF : ∀ b, F b → b < w0.heap.size) (k : Int) (pre0 : 0 ≤ k) (pre1 : k + 16 * (SZ.sz a : Int) ≤ 4611686018427387904) : Calls Try.prog 127 [slv (a).length pa.1, I k].toArray w0 (RetX hdl F w0 pa a k) := by
  refine Calls.walk (args := [slv (a).length pa.1, I k]) F Try.func127 rfl rfl ?_
  intro ac β S
  have oa : Ow w0 F w0 (Lt w0.heap.size) F a pa := ⟨ha, hF, fun b hb => .inr hb⟩
  have hz := szl_TIns a
  have hlea : a.length ≤ 4194304 := LOwn.le ha
  refine wp_seq (RG.start ?_)
  refine S.quiet (k := 1) (keep := [0, 1]) (m := 0) (σ' := ⟨[(0, .v (slv (a).length pa.1)), (1, .v (I k))], []⟩) .nil (by kernel_rfl) ?_
  clear S; intro ac w β S
  refine RG.done rfl (nx_then (wp_seq (wp_seq (RG.start ?_))))
  refine S.quiet (k := 1) (keep := [0, 1, 5]) (m := 0) (σ' := ⟨[(0, .v (slv (a).length pa.1)), (1, .v (I k)), (5, .v (I 0))], []⟩) .nil (by kernel_rfl) ?_
  clear S; intro ac w β S
  refine RG.done rfl (nx_then (wp_block ?_))
  replace S := S.prune (keep := [0, 1, 5]) (m := 0) (σ' := ⟨[(0, .v (slv (a).length pa.1)), (1, .v (I k)), (5, .v (I 0))], []⟩) (by kernel_rfl)
  refine wp_loop_down (fun mm ac w => ∃ (i : Nat) (acc : List TIns) (j : Int) (q1 : GT.Ptr (List TIns)) (F2 : Bl) (u : World) (N : Bl) (β : Nat → Nat), mm = a.length - i ∧ (i ≤ a.length) ∧ (acc = f_marksIns i k ++ a.drop i) ∧ (j = k + 2 * (i : Int)) ∧ St Try.prog Try.f127.ntmps w0 F u N β ⟨[(0, .v (slv a.length q1.1)), (1, .v (I j)), (5, .v (I (i : Int)))], []⟩ ac w ∧ Ow w0 F u N F2 acc q1 ∧ q1.1 = pa.1 ∧ (∀ b, F2 b → F b)) _ ⟨0, a, k, pa, F, _, _, _, rfl, (by first | omega | (simp; done) | (simp; omega)), (by simp [f_marksIns]), (by simp), S.cast (by kernel_rfl), oa, rfl, (fun _ h => h)⟩ ?_
  clear S oa
  rintro mm ac w ⟨i, acc, j, q1, F2, u, N, β, rfl, hi, hacc, hj, S, o3, hq, hs⟩
  have hlacc : acc.length = a.length := by rw [hacc]; simp [f_marksIns]; omega
  refine wp_seq (wp_seq (RG.start ?_))
  refine S.quiet (k := 4) (keep := [0, 1, 5, 9]) (m := 0) (σ' := ⟨[(0, .v (slv a.length q1.1)), (1, .v (I j)), (5, .v (I (i : Int))), (9, .v (B (decide ((i : Int) < (a.length : Int)))))], []⟩) .nil (by kernel_rfl) ?_
  clear S; intro ac w β S
  refine RG.done rfl (nx_then ?_)
  refine S.cond (e := (decide ((i : Int) < (a.length : Int)))) (by kernel_rfl) (fun h4 => ?_) (fun h4 => ?_)
  · have g5 : (i : Int) < (a.length : Int) := of_decide_eq_true h4
    refine wp_skip (nx_then (wp_seq (wp_block (wp_seq (RG.start ?_)))))
    refine S.quiet (k := 5) (keep := [0, 1, 5, 14, 16]) (m := 0) (σ' := ⟨[(0, .v (slv a.length q1.1)), (1, .v (I j)), (5, .v (I (i : Int))), (14, .v (I j)), (16, .v (pt q1.1.b (q1.1.off + i * 2)))], []⟩) (.cons (Q_idx o3.rn (l := a.length) (k := i) (i := (i : Int)) (by rw [hacc]; simp [f_marksIns]; omega) rfl (by omega) Try.underlying28 (by kernel_rfl)) .nil) (by kernel_rfl) ?_
    clear S; intro ac w β S
    have e6 : RIns (el acc i) := (LRd.el o3.rn i (by omega))
    refine RG.op rfl (S.setEl (α := TIns) o3 (t := 3) (v := I j) (k := i) (j := 0) (off := q1.1.off + i * 2) (y := (⟨j, (el acc i).x⟩ : TIns)) (q := ()) (Fy := NoB) (by kernel_rfl) (by kernel_rfl) (by omega) (by kernel_rfl) (by kernel_rfl) (Nat.le_of_ble_eq_true (by kernel_rfl)) (by kernel_rfl) (fun _ _ _ => ⟨NoB, (show RIns (⟨j, (el acc i).x⟩ : TIns) from ⟨(show In64 j from ⟨by omega, by omega⟩), (RIns.x (d := (el acc i)) e6)⟩), fun _ h => False.elim h⟩) (fun b _ h => False.elim h) (fun b h => False.elim h) (fun b h => False.elim h) ?_)
    clear S; intro w N F8 q9 S up o7 d10 s11
    have s12 : ∀ b, F8 b → F b := fun b h => (s11 b h).elim (hs b) (fun h => False.elim h)
    clear up d10 o3
    have l13 : (acc.set i (⟨j, (el acc i).x⟩ : TIns)).length = (acc).length := List.length_set
    replace S := S.prune (keep := [0, 1, 5]) (m := 0) (σ' := ⟨[(0, .v (slv a.length q1.1)), (1, .v (I j)), (5, .v (I (i : Int)))], []⟩) (by kernel_rfl)
    refine RG.done rfl (nx_then (wp_seq (RG.start ?_)))
    refine S.quiet (k := 3) (keep := [0, 1, 5]) (m := 0) (σ' := ⟨[(0, .v (slv a.length q1.1)), (1, .v (I (j + 1))), (5, .v (I (i : Int)))], []⟩) (.cons (Q_add (x := j) (y := 1) ⟨by omega, by omega⟩) .nil) (by kernel_rfl) ?_
    clear S; intro ac w β S
    refine RG.done rfl (nx_then (wp_seq (RG.start ?_)))
    refine S.quiet (k := 5) (keep := [0, 1, 5, 21, 23]) (m := 0) (σ' := ⟨[(0, .v (slv a.length q1.1)), (1, .v (I (j + 1))), (5, .v (I (i : Int))), (21, .v (I (j + 1))), (23, .v (pt q1.1.b (q1.1.off + i * 2 + 1)))], []⟩) (.cons (Q_idx o7.rn (l := a.length) (k := i) (i := (i : Int)) (by rw [List.length_set]; exact (by rw [hacc]; simp [f_marksIns]; omega)) rfl (by omega) Try.underlying28 (by kernel_rfl)) .nil) (by kernel_rfl) ?_
    clear S; intro ac w β S
    refine RG.op rfl (S.setEl (α := TIns) o7 (t := 3) (v := I (j + 1)) (k := i) (j := 1) (off := q1.1.off + i * 2 + 1) (y := (⟨j, (j + 1)⟩ : TIns)) (q := ()) (Fy := NoB) (by kernel_rfl) (by kernel_rfl) (by omega) (by kernel_rfl) (by kernel_rfl) (Nat.le_of_ble_eq_true (by kernel_rfl)) (by rw [el_set_self (show i < (acc).length by omega)]; kernel_rfl) (fun _ _ _ => ⟨NoB, (show RIns (⟨j, (j + 1)⟩ : TIns) from ⟨(show In64 j from ⟨by omega, by omega⟩), (show In64 (j + 1) from ⟨by omega, by omega⟩)⟩), fun _ h => False.elim h⟩) (fun b _ h => False.elim h) (fun b h => False.elim h) (fun b h => False.elim h) ?_)
    clear S; intro w N F15 q16 S up o14 d17 s18
    have s19 : ∀ b, F15 b → F b := fun b h => (s18 b h).elim (s12 b) (fun h => False.elim h)
    clear up d17 o7
    rw [List.set_set] at o14
    have l20 : (acc.set i (⟨j, (j + 1)⟩ : TIns)).length = (acc).length := List.length_set
    replace S := S.prune (keep := [0, 1, 5]) (m := 0) (σ' := ⟨[(0, .v (slv a.length q1.1)), (1, .v (I (j + 1))), (5, .v (I (i : Int)))], []⟩) (by kernel_rfl)
    refine RG.done rfl (nx_then (RG.start ?_))
    refine S.quiet (k := 3) (keep := [0, 1, 5]) (m := 0) (σ' := ⟨[(0, .v (slv a.length q1.1)), (1, .v (I ((j + 1) + 1))), (5, .v (I (i : Int)))], []⟩) (.cons (Q_add (x := (j + 1)) (y := 1) ⟨by omega, by omega⟩) .nil) (by kernel_rfl) ?_
    clear S; intro ac w β S
    refine RG.done rfl (nx_block (nx_then (RG.start ?_)))
    refine S.quiet (k := 3) (keep := [0, 1, 5]) (m := 0) (σ' := ⟨[(0, .v (slv a.length q1.1)), (1, .v (I ((j + 1) + 1))), (5, .v (I ((i : Int) + 1)))], []⟩) (.cons (Q_add (x := (i : Int)) (y := 1) ⟨by omega, by omega⟩) .nil) (by kernel_rfl) ?_
    clear S; intro ac w β S
    refine RG.done rfl (nx_then ?_)
    replace S := S.prune (keep := [0, 1, 5]) (m := 0) (σ' := ⟨[(0, .v (slv a.length q1.1)), (1, .v (I ((j + 1) + 1))), (5, .v (I ((i : Int) + 1)))], []⟩) (by kernel_rfl)
    refine ⟨a.length - (i + 1), by omega, i + 1, (acc.set i (⟨j, (j + 1)⟩ : TIns)), ((j + 1) + 1), (q1.1, q16), F15, _, _, _, rfl, ?_, ?_, ?_, S.cast (by kernel_rfl), o14, hq, s19⟩
    · clear S; first | omega | (simp [*]; done) | (simp [*]; omega)
    · clear S; (have hlt : i < acc.length := (by omega)); rw [hacc, ← marksIns_step (by omega) hj]; (first | rfl | (simp [g_markIns, Int.add_assoc]; done))
    · clear S; omega
  · have g21 : ¬ ((i : Int) < (a.length : Int)) := of_decide_eq_false h4
    refine wp_exit (ex_then (ex_then (ex_hit (nx_then (wp_seq (RG.start ?_))))))
    refine S.quiet (k := 2) (keep := [4]) (m := 0) (σ' := ⟨[(4, .v (I j))], []⟩) .nil (by kernel_rfl) ?_
    clear S; intro ac w β S
    refine RG.done rfl (nx_then (wp_ret ?_))
    refine S.ret (vs := [I j]) (by kernel_rfl) ?_
    have hyd : hdl acc k = j := by clear S; (have e : i = a.length := (by omega)); subst e; rw [hacc, List.drop_length, List.append_nil, hj]; exact hd_marksIns k (by omega) _ (by omega) id
    have hyb : k ≤ j ∧ j ≤ k + 16 * ((SZ.sz a : Nat) : Int) := by clear S; skip; constructor <;> omega
    exact retX_of S hyd hyb.1 hyb.2 (by show [slv _ _] = [slv _ _]; rw [hlacc, hq]) o3 hs

set_option maxRecDepth 100000 in
theorem c_laws_markSlotS (w0 : World) (a : List TSlot) (pa : LP TSlot) (F : Bl) (ha : GT.own KK F w0 a pa) (hF : ∀ b, F b → b < w0.heap.size) (k : Int) (pre0 : 0 ≤ k) (pre1 : k + 16 * (SZ.sz a : Int) ≤ 4611686018427387904) : Calls Try.prog 128 [slv (a).length pa.1, I k].toArray w0 (RetX hdl F w0 pa a k) := by
  refine Calls.walk (args := [slv (a).length pa.1, I k]) F Try.func128 rfl rfl ?_
  intro ac β S
  have oa : Ow w0 F w0 (Lt w0.heap.size) F a pa := ⟨ha, hF, fun b hb => .inr hb⟩
  have hz := szl_TSlot a
  have hlea : a.length ≤ 4194304 := LOwn.le ha
  refine wp_seq (RG.start ?_)
  refine S.quiet (k := 1) (keep := [0, 1]) (m := 0) (σ' := ⟨[(0, .v (slv (a).length pa.1)), (1, .v (I k))], []⟩) .nil (by kernel_rfl) ?_
  clear S; intro ac w β S
  refine RG.done rfl (nx_then (wp_seq (wp_seq (RG.start ?_))))
  refine S.quiet (k := 1) (keep := [0, 1, 5]) (m := 0) (σ' := ⟨[(0, .v (slv (a).length pa.1)), (1, .v (I k)), (5, .v (I 0))], []⟩) .nil (by kernel_rfl) ?_
  clear S; intro ac w β S
  refine RG.done rfl (nx_then (wp_block ?_))
  replace S := S.prune (keep := [0, 1, 5]) (m := 0) (σ' := ⟨[(0, .v (slv (a).length pa.1)), (1, .v (I k)), (5, .v (I 0))], []⟩) (by kernel_rfl)
  refine wp_loop_down (fun mm ac w => ∃ (i : Nat) (acc : List TSlot) (j : Int) (q1 : GT.Ptr (List TSlot)) (F2 : Bl) (u : World) (N : Bl) (β : Nat → Nat), mm = a.length - i ∧ (i ≤ a.length) ∧ (acc = f_marksSlot i k ++ a.drop i) ∧ (j = k + 2 * (i : Int)) ∧ St Try.prog Try.f128.ntmps w0 F u N β ⟨[(0, .v (slv a.length q1.1)), (1, .v (I j)), (5, .v (I (i : Int)))], []⟩ ac w ∧ Ow w0 F u N F2 acc q1 ∧ q1.1 = pa.1 ∧ (∀ b, F2 b → F b)) _ ⟨0, a, k, pa, F, _, _, _, rfl, (by first | omega | (simp; done) | (simp; omega)), (by simp [f_marksSlot]), (by simp), S.cast (by kernel_rfl), oa, rfl, (fun _ h => h)⟩ ?_
  clear S oa
  rintro mm ac w ⟨i, acc, j, q1, F2, u, N, β, rfl, hi, hacc, hj, S, o3, hq, hs⟩
  have hlacc : acc.length = a.length := by rw [hacc]; simp [f_marksSlot]; omega
  refine wp_seq (wp_seq (RG.start ?_))
  refine S.quiet (k := 4) (keep := [0, 1, 5, 9]) (m := 0) (σ' := ⟨[(0, .v (slv a.length q1.1)), (1, .v (I j)), (5, .v (I (i : Int))), (9, .v (B (decide ((i : Int) < (a.length : Int)))))], []⟩) .nil (by kernel_rfl) ?_
  clear S; intro ac w β S
  refine RG.done rfl (nx_then ?_)
  refine S.cond (e := (decide ((i : Int) < (a.length : Int)))) (by kernel_rfl) (fun h4 => ?_) (fun h4 => ?_)
  · have g5 : (i : Int) < (a.length : Int) := of_decide_eq_true h4
    refine wp_skip (nx_then (wp_seq (wp_block (wp_seq (RG.start ?_)))))
    refine S.quiet (k := 5) (keep := [0, 1, 5, 14, 16]) (m := 0) (σ' := ⟨[(0, .v (slv a.length q1.1)), (1, .v (I j)), (5, .v (I (i : Int))), (14, .v (I j)), (16, .v (pt q1.1.b (q1.1.off + i * 2)))], []⟩) (.cons (Q_idx o3.rn (l := a.length) (k := i) (i := (i : Int)) (by rw [hacc]; simp [f_marksSlot]; omega) rfl (by omega) Try.underlying37 (by kernel_rfl)) .nil) (by kernel_rfl) ?_
    clear S; intro ac w β S
    have e6 : RSlot (el acc i) := (LRd.el o3.rn i (by omega))
    refine RG.op rfl (S.setEl (α := TSlot) o3 (t := 3) (v := I j) (k := i) (j := 0) (off := q1.1.off + i * 2) (y := (⟨j, (el acc i).rights⟩ : TSlot)) (q := ()) (Fy := NoB) (by kernel_rfl) (by kernel_rfl) (by omega) (by kernel_rfl) (by kernel_rfl) (Nat.le_of_ble_eq_true (by kernel_rfl)) (by kernel_rfl) (fun _ _ _ => ⟨NoB, (show RSlot (⟨j, (el acc i).rights⟩ : TSlot) from ⟨(show In64 j from ⟨by omega, by omega⟩), (RSlot.rights (d := (el acc i)) e6)⟩), fun _ h => False.elim h⟩) (fun b _ h => False.elim h) (fun b h => False.elim h) (fun b h => False.elim h) ?_)
    clear S; intro w N F8 q9 S up o7 d10 s11
    have s12 : ∀ b, F8 b → F b := fun b h => (s11 b h).elim (hs b) (fun h => False.elim h)
    clear up d10 o3
    have l13 : (acc.set i (⟨j, (el acc i).rights⟩ : TSlot)).length = (acc).length := List.length_set
    replace S := S.prune (keep := [0, 1, 5]) (m := 0) (σ' := ⟨[(0, .v (slv a.length q1.1)), (1, .v (I j)), (5, .v (I (i : Int)))], []⟩) (by kernel_rfl)
    refine RG.done rfl (nx_then (wp_seq (RG.start ?_)))
    refine S.quiet (k := 3) (keep := [0, 1, 5]) (m := 0) (σ' := ⟨[(0, .v (slv a.length q1.1)), (1, .v (I (j + 1))), (5, .v (I (i : Int)))], []⟩) (.cons (Q_add (x := j) (y := 1) ⟨by omega, by omega⟩) .nil) (by kernel_rfl) ?_
    clear S; intro ac w β S
    refine RG.done rfl (nx_then (wp_seq (RG.start ?_)))
    refine S.quiet (k := 5) (keep := [0, 1, 5, 21, 23]) (m := 0) (σ' := ⟨[(0, .v (slv a.length q1.1)), (1, .v (I (j + 1))), (5, .v (I (i : Int))), (21, .v (I (j + 1))), (23, .v (pt q1.1.b (q1.1.off + i * 2 + 1)))], []⟩) (.cons (Q_idx o7.rn (l := a.length) (k := i) (i := (i : Int)) (by rw [List.length_set]; exact (by rw [hacc]; simp [f_marksSlot]; omega)) rfl (by omega) Try.underlying37 (by kernel_rfl)) .nil) (by kernel_rfl) ?_
    clear S; intro ac w β S
    refine RG.op rfl (S.setEl (α := TSlot) o7 (t := 3) (v := I (j + 1)) (k := i) (j := 1) (off := q1.1.off + i * 2 + 1) (y := (⟨j, (j + 1)⟩ : TSlot)) (q := ()) (Fy := NoB) (by kernel_rfl) (by kernel_rfl) (by omega) (by kernel_rfl) (by kernel_rfl) (Nat.le_of_ble_eq_true (by kernel_rfl)) (by rw [el_set_self (show i < (acc).length by omega)]; kernel_rfl) (fun _ _ _ => ⟨NoB, (show RSlot (⟨j, (j + 1)⟩ : TSlot) from ⟨(show In64 j from ⟨by omega, by omega⟩), (show In64 (j + 1) from ⟨by omega, by omega⟩)⟩), fun _ h => False.elim h⟩) (fun b _ h => False.elim h) (fun b h => False.elim h) (fun b h => False.elim h) ?_)
    clear S; intro w N F15 q16 S up o14 d17 s18
    have s19 : ∀ b, F15 b → F b := fun b h => (s18 b h).elim (s12 b) (fun h => False.elim h)
    clear up d17 o7
    rw [List.set_set] at o14
    have l20 : (acc.set i (⟨j, (j + 1)⟩ : TSlot)).length = (acc).length := List.length_set
    replace S := S.prune (keep := [0, 1, 5]) (m := 0) (σ' := ⟨[(0, .v (slv a.length q1.1)), (1, .v (I (j + 1))), (5, .v (I (i : Int)))], []⟩) (by kernel_rfl)
    refine RG.done rfl (nx_then (RG.start ?_))
    refine S.quiet (k := 3) (keep := [0, 1, 5]) (m := 0) (σ' := ⟨[(0, .v (slv a.length q1.1)), (1, .v (I ((j + 1) + 1))), (5, .v (I (i : Int)))], []⟩) (.cons (Q_add (x := (j + 1)) (y := 1) ⟨by omega, by omega⟩) .nil) (by kernel_rfl) ?_
    clear S; intro ac w β S
    refine RG.done rfl (nx_block (nx_then (RG.start ?_)))
    refine S.quiet (k := 3) (keep := [0, 1, 5]) (m := 0) (σ' := ⟨[(0, .v (slv a.length q1.1)), (1, .v (I ((j + 1) + 1))), (5, .v (I ((i : Int) + 1)))], []⟩) (.cons (Q_add (x := (i : Int)) (y := 1) ⟨by omega, by omega⟩) .nil) (by kernel_rfl) ?_
    clear S; intro ac w β S
    refine RG.done rfl (nx_then ?_)
    replace S := S.prune (keep := [0, 1, 5]) (m := 0) (σ' := ⟨[(0, .v (slv a.length q1.1)), (1, .v (I ((j + 1) + 1))), (5, .v (I ((i : Int) + 1)))], []⟩) (by kernel_rfl)
    refine ⟨a.length - (i + 1), by omega, i + 1, (acc.set i (⟨j, (j + 1)⟩ : TSlot)), ((j + 1) + 1), (q1.1, q16), F15, _, _, _, rfl, ?_, ?_, ?_, S.cast (by kernel_rfl), o14, hq, s19⟩
    · clear S; first | omega | (simp [*]; done) | (simp [*]; omega)
    · clear S; (have hlt : i < acc.length := (by omega)); rw [hacc, ← marksSlot_step (by omega) hj]; (first | rfl | (simp [g_markSlot, Int.add_assoc]; done))
    · clear S; omega
  · have g21 : ¬ ((i : Int) < (a.length : Int)) := of_decide_eq_false h4
    refine wp_exit (ex_then (ex_then (ex_hit (nx_then (wp_seq (RG.start ?_))))))
    refine S.quiet (k := 2) (keep := [4]) (m := 0) (σ' := ⟨[(4, .v (I j))], []⟩) .nil (by kernel_rfl) ?_
    clear S; intro ac w β S
    refine RG.done rfl (nx_then (wp_ret ?_))
    refine S.ret (vs := [I j]) (by kernel_rfl) ?_
    have hyd : hdl acc k = j := by clear S; (have e : i = a.length := (by omega)); subst e; rw [hacc, List.drop_length, List.append_nil, hj]; exact hd_marksSlot k (by omega) _ (by omega) id
    have hyb : k ≤ j ∧ j ≤ k + 16 * ((SZ.sz a : Nat) : Int) := by clear S; skip; constructor <;> omega
    exact retX_of S hyd hyb.1 hyb.2 (by show [slv _ _] = [slv _ _]; rw [hlacc, hq]) o3 hs

set_option maxRecDepth 100000 in
theorem c_laws_markGuestS (w0 : World) (a : List TGuest) (pa : LP TGuest) (F : Bl) (ha : GT.own KK F w0 a pa) (hF : ∀ b, F b → b < w0.heap.size) (k : Int) (pre0 : 0 ≤ k) (pre1 : k + 16 * (SZ.sz a : Int) ≤ 4611686018427387904) : Calls Try.prog 90 [slv (a).length pa.1, I k].toArray w0 (RetX hdl F w0 pa a k) := by
  refine Calls.walk (args := [slv (a).length pa.1, I k]) F Try.func90 rfl rfl ?_
  intro ac β S
  have oa : Ow w0 F w0 (Lt w0.heap.size) F a pa := ⟨ha, hF, fun b hb => .inr hb⟩
  have hz := sz_list a
  have hlea : a.length ≤ 4194304 := LOwn.le ha
  refine wp_seq (RG.start ?_)
  refine S.quiet (k := 1) (keep := [0, 1]) (m := 0) (σ' := ⟨[(0, .v (slv (a).length pa.1)), (1, .v (I k))], []⟩) .nil (by kernel_rfl) ?_
  clear S; intro ac w β S
  refine RG.done rfl (nx_then (wp_seq (wp_seq (RG.start ?_))))
  refine S.quiet (k := 1) (keep := [0, 1, 5]) (m := 0) (σ' := ⟨[(0, .v (slv (a).length pa.1)), (1, .v (I k)), (5, .v (I 0))], []⟩) .nil (by kernel_rfl) ?_
  clear S; intro ac w β S
  refine RG.done rfl (nx_then (wp_block ?_))
  replace S := S.prune (keep := [0, 1, 5]) (m := 0) (σ' := ⟨[(0, .v (slv (a).length pa.1)), (1, .v (I k)), (5, .v (I 0))], []⟩) (by kernel_rfl)
  refine wp_loop_down (fun mm ac w => ∃ (i : Nat) (acc : List TGuest) (j : Int) (q1 : GT.Ptr (List TGuest)) (F2 : Bl) (u : World) (N : Bl) (β : Nat → Nat), mm = a.length - i ∧ (i ≤ a.length) ∧ (acc.length = a.length) ∧ (∀ f, hdlc (acc.take i) k f = f j) ∧ (acc.drop i = a.drop i) ∧ (k ≤ j) ∧ (j ≤ k + 16 * ((i : Int) + (szsum (a.take i) : Nat))) ∧ St Try.prog Try.f90.ntmps w0 F u N β ⟨[(0, .v (slv a.length q1.1)), (1, .v (I j)), (5, .v (I (i : Int)))], []⟩ ac w ∧ Ow w0 F u N F2 acc q1 ∧ q1.1 = pa.1 ∧ (∀ b, F2 b → F b)) _ ⟨0, a, k, pa, F, _, _, _, rfl, (by first | omega | (simp; done) | (simp; omega)), (by rfl), (by intro f; rfl), (by rfl), (by first | omega | (simp; done) | (simp; omega)), (by simp [szsum_nil]), S.cast (by kernel_rfl), oa, rfl, (fun _ h => h)⟩ ?_
  clear S oa
  rintro mm ac w ⟨i, acc, j, q1, F2, u, N, β, rfl, hi, hl, hM, hD, hj0, hj1, S, o3, hq, hs⟩
  have hel := el_of_drop hD
  have hsl := szsum_take_le a i
  refine wp_seq (wp_seq (RG.start ?_))
  refine S.quiet (k := 4) (keep := [0, 1, 5, 9]) (m := 0) (σ' := ⟨[(0, .v (slv a.length q1.1)), (1, .v (I j)), (5, .v (I (i : Int))), (9, .v (B (decide ((i : Int) < (a.length : Int)))))], []⟩) .nil (by kernel_rfl) ?_
  clear S; intro ac w β S
  refine RG.done rfl (nx_then ?_)
  refine S.cond (e := (decide ((i : Int) < (a.length : Int)))) (by kernel_rfl) (fun h4 => ?_) (fun h4 => ?_)
  · have g5 : (i : Int) < (a.length : Int) := of_decide_eq_true h4
    refine wp_skip (nx_then (wp_seq (wp_block (wp_seq (RG.start ?_)))))
    refine S.quiet (k := 6) (keep := [0, 5, 16, 17]) (m := 0) (σ' := ⟨[(0, .v (slv a.length q1.1)), (5, .v (I (i : Int))), (16, .v (slv ((el acc i).prog).length ((q1.2 i).prog).1)), (17, .v (I j))], []⟩) (.cons (Q_idx o3.rn (l := a.length) (k := i) (i := (i : Int)) (by omega) rfl (by omega) Try.underlying39 (by kernel_rfl)) (.cons (Q_cell o3.rn (t := 28) (k := i) (j := 0) (v := slv ((el acc i).prog).length ((q1.2 i).prog).1) (by omega) (by kernel_rfl) (by kernel_rfl)) .nil)) (by kernel_rfl) ?_
    clear S; intro ac w β S
    obtain ⟨F6, o7, s8, b9⟩ := foc_Guest_prog o3 (k := i) (show i < (acc).length by omega)
    have z10 := szsum_take (xs := a) (k := i) (by omega)
    have z11 := szsum_take_le a (i + 1)
    have z12 := sz_Guest (el a i)
    have e13 : (el acc i).prog = (el a i).prog := by simp only [hel]
    refine RG.op rfl (S.callX (hd := hdl) (d := 18) o7 (c_laws_markInsS w ((el acc i).prog) ((q1.2 i).prog) F6 (S.ownw o7) (fun b hb => (S.sep b (o7.sub b hb)).1) j (by omega) (by rw [e13]; omega)) (by kernel_rfl) rfl ?_)
    clear S; intro ac w N q14 y15 k16 S up o17 c18 x19 b20 b21
    rw [e13] at b21
    obtain ⟨p22, o23⟩ := b9 _ _ _ _ up o17 c18
    clear up o3 o7 s8 b9 o17 c18
    obtain ⟨a24, e25⟩ : ∃ z, z = (acc).set i ({ el acc i with prog := y15 }) := ⟨_, rfl⟩
    rw [← e25] at o23
    have l26 : a24.length = (acc).length := by rw [e25]; exact List.length_set
    have e27 : el a24 i = { el acc i with prog := y15 } := by rw [e25]; exact el_set_self (show i < (acc).length by omega)
    have t28 : a24.take i = (acc).take i := by rw [e25]; exact take_set_self
    have d29 : a24.drop (i + 1) = (acc).drop (i + 1) := by rw [e25]; exact drop_set_self
    clear e25
    refine S.quiet (k := 1) (keep := [0, 1, 5]) (m := 0) (σ' := ⟨[(0, .v (slv a.length q1.1)), (1, .v (I k16)), (5, .v (I (i : Int)))], []⟩) .nil (by kernel_rfl) ?_
    clear S; intro ac w β S
    refine RG.done rfl (nx_then (wp_seq (RG.start ?_)))
    refine S.quiet (k := 5) (keep := [0, 1, 5, 21, 23]) (m := 0) (σ' := ⟨[(0, .v (slv a.length q1.1)), (1, .v (I k16)), (5, .v (I (i : Int))), (21, .v (I k16)), (23, .v (pt q1.1.b (q1.1.off + i * 15 + 1)))], []⟩) (.cons (Q_idx o23.rn (l := a.length) (k := i) (i := (i : Int)) (by omega) rfl (by omega) Try.underlying39 (by kernel_rfl)) .nil) (by kernel_rfl) ?_
    clear S; intro ac w β S
    refine RG.op rfl (S.setEl (α := TGuest) o23 (t := 3) (v := I k16) (k := i) (j := 1) (off := q1.1.off + i * 15 + 1) (y := ({ el a24 i with acc := k16 } : TGuest)) (q := ((q1.1, p22).2 i)) (Fy := NoB) (by kernel_rfl) (by kernel_rfl) (by omega) (by kernel_rfl) (by kernel_rfl) (Nat.le_of_ble_eq_true (by kernel_rfl)) (by kernel_rfl) (fun G g _ => ⟨G, ows_Guest_acc g (⟨by omega, by omega⟩), fun _ h => .inl h⟩) (fun b _ h => False.elim h) (fun b h => False.elim h) (fun b h => False.elim h) ?_)
    clear S; intro w N F31 q32 S up o30 d33 s34
    have s35 : ∀ b, F31 b → F b := fun b h => (s34 b h).elim (hs b) (fun h => False.elim h)
    clear up d33 o23
    obtain ⟨a36, e37⟩ : ∃ z, z = (a24).set i ({ el a24 i with acc := k16 }) := ⟨_, rfl⟩
    rw [← e37] at o30
    have l38 : a36.length = (a24).length := by rw [e37]; exact List.length_set
    have e39 : el a36 i = { el a24 i with acc := k16 } := by rw [e37]; exact el_set_self (show i < (a24).length by omega)
    have t40 : a36.take i = (a24).take i := by rw [e37]; exact take_set_self
    have d41 : a36.drop (i + 1) = (a24).drop (i + 1) := by rw [e37]; exact drop_set_self
    clear e37
    replace S := S.prune (keep := [0, 1, 5]) (m := 0) (σ' := ⟨[(0, .v (slv a.length q1.1)), (1, .v (I k16)), (5, .v (I (i : Int)))], []⟩) (by kernel_rfl)
    refine RG.done rfl (nx_then (wp_seq (RG.start ?_)))
    refine S.quiet (k := 3) (keep := [0, 1, 5]) (m := 0) (σ' := ⟨[(0, .v (slv a.length q1.1)), (1, .v (I (k16 + 1))), (5, .v (I (i : Int)))], []⟩) (.cons (Q_add (x := k16) (y := 1) ⟨by omega, by omega⟩) .nil) (by kernel_rfl) ?_
    clear S; intro ac w β S
    refine RG.done rfl (nx_then (wp_seq (RG.start ?_)))
    refine S.quiet (k := 5) (keep := [0, 1, 5, 28, 30]) (m := 0) (σ' := ⟨[(0, .v (slv a.length q1.1)), (1, .v (I (k16 + 1))), (5, .v (I (i : Int))), (28, .v (I (k16 + 1))), (30, .v (pt q1.1.b (q1.1.off + i * 15 + 2)))], []⟩) (.cons (Q_idx o30.rn (l := a.length) (k := i) (i := (i : Int)) (by omega) rfl (by omega) Try.underlying39 (by kernel_rfl)) .nil) (by kernel_rfl) ?_
    clear S; intro ac w β S
    refine RG.op rfl (S.setEl (α := TGuest) o30 (t := 3) (v := I (k16 + 1)) (k := i) (j := 2) (off := q1.1.off + i * 15 + 2) (y := ({ el a36 i with pc := (k16 + 1) } : TGuest)) (q := ((q1.1, q32).2 i)) (Fy := NoB) (by kernel_rfl) (by kernel_rfl) (by omega) (by kernel_rfl) (by kernel_rfl) (Nat.le_of_ble_eq_true (by kernel_rfl)) (by kernel_rfl) (fun G g _ => ⟨G, ows_Guest_pc g (⟨by omega, by omega⟩), fun _ h => .inl h⟩) (fun b _ h => False.elim h) (fun b h => False.elim h) (fun b h => False.elim h) ?_)
    clear S; intro w N F43 q44 S up o42 d45 s46
    have s47 : ∀ b, F43 b → F b := fun b h => (s46 b h).elim (s35 b) (fun h => False.elim h)
    clear up d45 o30
    obtain ⟨a48, e49⟩ : ∃ z, z = (a36).set i ({ el a36 i with pc := (k16 + 1) }) := ⟨_, rfl⟩
    rw [← e49] at o42
    have l50 : a48.length = (a36).length := by rw [e49]; exact List.length_set
    have e51 : el a48 i = { el a36 i with pc := (k16 + 1) } := by rw [e49]; exact el_set_self (show i < (a36).length by omega)
    have t52 : a48.take i = (a36).take i := by rw [e49]; exact take_set_self
    have d53 : a48.drop (i + 1) = (a36).drop (i + 1) := by rw [e49]; exact drop_set_self
    clear e49
    replace S := S.prune (keep := [0, 1, 5]) (m := 0) (σ' := ⟨[(0, .v (slv a.length q1.1)), (1, .v (I (k16 + 1))), (5, .v (I (i : Int)))], []⟩) (by kernel_rfl)
    refine RG.done rfl (nx_then (wp_seq (RG.start ?_)))
    refine S.quiet (k := 3) (keep := [0, 1, 5]) (m := 0) (σ' := ⟨[(0, .v (slv a.length q1.1)), (1, .v (I ((k16 + 1) + 1))), (5, .v (I (i : Int)))], []⟩) (.cons (Q_add (x := (k16 + 1)) (y := 1) ⟨by omega, by omega⟩) .nil) (by kernel_rfl) ?_
    clear S; intro ac w β S
    refine RG.done rfl (nx_then (wp_seq (RG.start ?_)))
    refine S.quiet (k := 6) (keep := [0, 5, 37, 38]) (m := 0) (σ' := ⟨[(0, .v (slv a.length q1.1)), (5, .v (I (i : Int))), (37, .v (slv ((el a48 i).written).length (((q1.1, q44).2 i).written).1)), (38, .v (I ((k16 + 1) + 1)))], []⟩) (.cons (Q_idx o42.rn (l := a.length) (k := i) (i := (i : Int)) (by omega) rfl (by omega) Try.underlying39 (by kernel_rfl)) (.cons (Q_cell o42.rn (t := 37) (k := i) (j := 3) (v := slv ((el a48 i).written).length (((q1.1, q44).2 i).written).1) (by omega) (by kernel_rfl) (by kernel_rfl)) .nil)) (by kernel_rfl) ?_
    clear S; intro ac w β S
    obtain ⟨F54, o55, s56, b57⟩ := foc_Guest_written o42 (k := i) (show i < (a48).length by omega)
    have z58 := szsum_take (xs := a) (k := i) (by omega)
    have z59 := szsum_take_le a (i + 1)
    have z60 := sz_Guest (el a i)
    have e61 : (el a48 i).written = (el a i).written := by simp only [e51, e39, e27, hel]
    refine RG.op rfl (S.callX (hd := hdl) (d := 39) o55 (c_laws_markSlotS w ((el a48 i).written) (((q1.1, q44).2 i).written) F54 (S.ownw o55) (fun b hb => (S.sep b (o55.sub b hb)).1) ((k16 + 1) + 1) (by omega) (by rw [e61]; omega)) (by kernel_rfl) rfl ?_)
    clear S; intro ac w N q62 y63 k64 S up o65 c66 x67 b68 b69
    rw [e61] at b69
    obtain ⟨p70, o71⟩ := b57 _ _ _ _ up o65 c66
    clear up o42 o55 s56 b57 o65 c66
    obtain ⟨a72, e73⟩ : ∃ z, z = (a48).set i ({ el a48 i with written := y63 }) := ⟨_, rfl⟩
    rw [← e73] at o71
    have l74 : a72.length = (a48).length := by rw [e73]; exact List.length_set
    have e75 : el a72 i = { el a48 i with written := y63 } := by rw [e73]; exact el_set_self (show i < (a48).length by omega)
    have t76 : a72.take i = (a48).take i := by rw [e73]; exact take_set_self
    have d77 : a72.drop (i + 1) = (a48).drop (i + 1) := by rw [e73]; exact drop_set_self
    clear e73
    refine S.quiet (k := 1) (keep := [0, 1, 5]) (m := 0) (σ' := ⟨[(0, .v (slv a.length q1.1)), (1, .v (I k64)), (5, .v (I (i : Int)))], []⟩) .nil (by kernel_rfl) ?_
    clear S; intro ac w β S
    refine RG.done rfl (nx_then (wp_seq (RG.start ?_)))
    refine S.quiet (k := 6) (keep := [0, 5, 44, 45]) (m := 0) (σ' := ⟨[(0, .v (slv a.length q1.1)), (5, .v (I (i : Int))), (44, .v (slv ((el a72 i).live).length (((q1.1, p70).2 i).live).1)), (45, .v (I k64))], []⟩) (.cons (Q_idx o71.rn (l := a.length) (k := i) (i := (i : Int)) (by omega) rfl (by omega) Try.underlying39 (by kernel_rfl)) (.cons (Q_cell o71.rn (t := 37) (k := i) (j := 4) (v := slv ((el a72 i).live).length (((q1.1, p70).2 i).live).1) (by omega) (by kernel_rfl) (by kernel_rfl)) .nil)) (by kernel_rfl) ?_
    clear S; intro ac w β S
    obtain ⟨F78, o79, s80, b81⟩ := foc_Guest_live o71 (k := i) (show i < (a72).length by omega)
    have z82 := szsum_take (xs := a) (k := i) (by omega)
    have z83 := szsum_take_le a (i + 1)
    have z84 := sz_Guest (el a i)
    have e85 : (el a72 i).live = (el a i).live := by simp only [e75, e51, e39, e27, hel]
    refine RG.op rfl (S.callX (hd := hdl) (d := 46) o79 (c_laws_markSlotS w ((el a72 i).live) (((q1.1, p70).2 i).live) F78 (S.ownw o79) (fun b hb => (S.sep b (o79.sub b hb)).1) k64 (by omega) (by rw [e85]; omega)) (by kernel_rfl) rfl ?_)
    clear S; intro ac w N q86 y87 k88 S up o89 c90 x91 b92 b93
    rw [e85] at b93
    obtain ⟨p94, o95⟩ := b81 _ _ _ _ up o89 c90
    clear up o71 o79 s80 b81 o89 c90
    obtain ⟨a96, e97⟩ : ∃ z, z = (a72).set i ({ el a72 i with live := y87 }) := ⟨_, rfl⟩
    rw [← e97] at o95
    have l98 : a96.length = (a72).length := by rw [e97]; exact List.length_set
    have e99 : el a96 i = { el a72 i with live := y87 } := by rw [e97]; exact el_set_self (show i < (a72).length by omega)
    have t100 : a96.take i = (a72).take i := by rw [e97]; exact take_set_self
    have d101 : a96.drop (i + 1) = (a72).drop (i + 1) := by rw [e97]; exact drop_set_self
    clear e97
    refine S.quiet (k := 1) (keep := [0, 1, 5]) (m := 0) (σ' := ⟨[(0, .v (slv a.length q1.1)), (1, .v (I k88)), (5, .v (I (i : Int)))], []⟩) .nil (by kernel_rfl) ?_
    clear S; intro ac w β S
    refine RG.done rfl (nx_then (wp_seq (RG.start ?_)))
    refine S.quiet (k := 6) (keep := [0, 1, 5, 49, 52]) (m := 0) (σ' := ⟨[(0, .v (slv a.length q1.1)), (1, .v (I k88)), (5, .v (I (i : Int))), (49, .v (I k88)), (52, .v (pt q1.1.b (q1.1.off + i * 15 + 5)))], []⟩) (.cons (Q_idx o95.rn (l := a.length) (k := i) (i := (i : Int)) (by omega) rfl (by omega) Try.underlying39 (by kernel_rfl)) .nil) (by kernel_rfl) ?_
    clear S; intro ac w β S
    refine RG.op rfl (S.setEl (α := TGuest) o95 (t := 3) (v := I k88) (k := i) (j := 5) (off := q1.1.off + i * 15 + 5) (y := ({ el a96 i with ctl := (⟨k88, ((el a96 i).ctl).post, ((el a96 i).ctl).opn⟩ : TCtl) } : TGuest)) (q := ((q1.1, p94).2 i)) (Fy := NoB) (by kernel_rfl) (by kernel_rfl) (by omega) (by kernel_rfl) (by kernel_rfl) (Nat.le_of_ble_eq_true (by kernel_rfl)) (by kernel_rfl) (fun G g _ => ⟨G, ows_Guest_ctl g ((show RCtl (⟨k88, ((el a96 i).ctl).post, ((el a96 i).ctl).opn⟩ : TCtl) from ⟨(show In64 k88 from ⟨by omega, by omega⟩), (RCtl.post (d := (el a96 i).ctl) (RGuest.ctl (d := (el a96 i)) (LRd.el o95.rn i (by omega))))⟩)), fun _ h => .inl h⟩) (fun b _ h => False.elim h) (fun b h => False.elim h) (fun b h => False.elim h) ?_)
    clear S; intro w N F103 q104 S up o102 d105 s106
    have s107 : ∀ b, F103 b → F b := fun b h => (s106 b h).elim (s47 b) (fun h => False.elim h)
    clear up d105 o95
    obtain ⟨a108, e109⟩ : ∃ z, z = (a96).set i ({ el a96 i with ctl := (⟨k88, ((el a96 i).ctl).post, ((el a96 i).ctl).opn⟩ : TCtl) }) := ⟨_, rfl⟩
    rw [← e109] at o102
    have l110 : a108.length = (a96).length := by rw [e109]; exact List.length_set
    have e111 : el a108 i = { el a96 i with ctl := (⟨k88, ((el a96 i).ctl).post, ((el a96 i).ctl).opn⟩ : TCtl) } := by rw [e109]; exact el_set_self (show i < (a96).length by omega)
    have t112 : a108.take i = (a96).take i := by rw [e109]; exact take_set_self
    have d113 : a108.drop (i + 1) = (a96).drop (i + 1) := by rw [e109]; exact drop_set_self
    clear e109
    replace S := S.prune (keep := [0, 1, 5]) (m := 0) (σ' := ⟨[(0, .v (slv a.length q1.1)), (1, .v (I k88)), (5, .v (I (i : Int)))], []⟩) (by kernel_rfl)
    refine RG.done rfl (nx_then (wp_seq (RG.start ?_)))
    refine S.quiet (k := 3) (keep := [0, 1, 5]) (m := 0) (σ' := ⟨[(0, .v (slv a.length q1.1)), (1, .v (I (k88 + 1))), (5, .v (I (i : Int)))], []⟩) (.cons (Q_add (x := k88) (y := 1) ⟨by omega, by omega⟩) .nil) (by kernel_rfl) ?_
    clear S; intro ac w β S
    refine RG.done rfl (nx_then (wp_seq (RG.start ?_)))
    refine S.quiet (k := 6) (keep := [0, 1, 5, 57, 60]) (m := 0) (σ' := ⟨[(0, .v (slv a.length q1.1)), (1, .v (I (k88 + 1))), (5, .v (I (i : Int))), (57, .v (I (k88 + 1))), (60, .v (pt q1.1.b (q1.1.off + i * 15 + 6)))], []⟩) (.cons (Q_idx o102.rn (l := a.length) (k := i) (i := (i : Int)) (by omega) rfl (by omega) Try.underlying39 (by kernel_rfl)) .nil) (by kernel_rfl) ?_
    clear S; intro ac w β S
    refine RG.op rfl (S.setEl (α := TGuest) o102 (t := 3) (v := I (k88 + 1)) (k := i) (j := 6) (off := q1.1.off + i * 15 + 6) (y := ({ el a108 i with ctl := (⟨((el a108 i).ctl).traps, (k88 + 1), ((el a108 i).ctl).opn⟩ : TCtl) } : TGuest)) (q := ((q1.1, q104).2 i)) (Fy := NoB) (by kernel_rfl) (by kernel_rfl) (by omega) (by kernel_rfl) (by kernel_rfl) (Nat.le_of_ble_eq_true (by kernel_rfl)) (by kernel_rfl) (fun G g _ => ⟨G, ows_Guest_ctl g ((show RCtl (⟨((el a108 i).ctl).traps, (k88 + 1), ((el a108 i).ctl).opn⟩ : TCtl) from ⟨(RCtl.traps (d := (el a108 i).ctl) (RGuest.ctl (d := (el a108 i)) (LRd.el o102.rn i (by omega)))), (show In64 (k88 + 1) from ⟨by omega, by omega⟩)⟩)), fun _ h => .inl h⟩) (fun b _ h => False.elim h) (fun b h => False.elim h) (fun b h => False.elim h) ?_)
    clear S; intro w N F115 q116 S up o114 d117 s118
    have s119 : ∀ b, F115 b → F b := fun b h => (s118 b h).elim (s107 b) (fun h => False.elim h)
    clear up d117 o102
    obtain ⟨a120, e121⟩ : ∃ z, z = (a108).set i ({ el a108 i with ctl := (⟨((el a108 i).ctl).traps, (k88 + 1), ((el a108 i).ctl).opn⟩ : TCtl) }) := ⟨_, rfl⟩
    rw [← e121] at o114
    have l122 : a120.length = (a108).length := by rw [e121]; exact List.length_set
    have e123 : el a120 i = { el a108 i with ctl := (⟨((el a108 i).ctl).traps, (k88 + 1), ((el a108 i).ctl).opn⟩ : TCtl) } := by rw [e121]; exact el_set_self (show i < (a108).length by omega)
    have t124 : a120.take i = (a108).take i := by rw [e121]; exact take_set_self
    have d125 : a120.drop (i + 1) = (a108).drop (i + 1) := by rw [e121]; exact drop_set_self
    clear e121
    replace S := S.prune (keep := [0, 1, 5]) (m := 0) (σ' := ⟨[(0, .v (slv a.length q1.1)), (1, .v (I (k88 + 1))), (5, .v (I (i : Int)))], []⟩) (by kernel_rfl)
    refine RG.done rfl (nx_then (wp_seq (RG.start ?_)))
    refine S.quiet (k := 3) (keep := [0, 1, 5]) (m := 0) (σ' := ⟨[(0, .v (slv a.length q1.1)), (1, .v (I ((k88 + 1) + 1))), (5, .v (I (i : Int)))], []⟩) (.cons (Q_add (x := (k88 + 1)) (y := 1) ⟨by omega, by omega⟩) .nil) (by kernel_rfl) ?_
    clear S; intro ac w β S
    refine RG.done rfl (nx_then (wp_seq (RG.start ?_)))
    refine S.quiet (k := 8) (keep := [0, 1, 5, 67, 70]) (m := 0) (σ' := ⟨[(0, .v (slv a.length q1.1)), (1, .v (I ((k88 + 1) + 1))), (5, .v (I (i : Int))), (67, .v (B ((Int.tmod ((k88 + 1) + 1) 3) == 0))), (70, .v (pt q1.1.b (q1.1.off + i * 15 + 7)))], []⟩) (.cons (Q_rem (x := ((k88 + 1) + 1)) (y := 3) (by decide)) (.cons (Q_idx o114.rn (l := a.length) (k := i) (i := (i : Int)) (by omega) rfl (by omega) Try.underlying39 (by kernel_rfl)) .nil)) (by kernel_rfl) ?_
    clear S; intro ac w β S
    refine RG.op rfl (S.setEl (α := TGuest) o114 (t := 4) (v := B ((Int.tmod ((k88 + 1) + 1) 3) == 0)) (k := i) (j := 7) (off := q1.1.off + i * 15 + 7) (y := ({ el a120 i with ctl := (⟨((el a120 i).ctl).traps, ((el a120 i).ctl).post, ((Int.tmod ((k88 + 1) + 1) 3) == 0)⟩ : TCtl) } : TGuest)) (q := ((q1.1, q116).2 i)) (Fy := NoB) (by kernel_rfl) (by kernel_rfl) (by omega) (by kernel_rfl) (by kernel_rfl) (Nat.le_of_ble_eq_true (by kernel_rfl)) (by kernel_rfl) (fun G g _ => ⟨G, ows_Guest_ctl g ((show RCtl (⟨((el a120 i).ctl).traps, ((el a120 i).ctl).post, ((Int.tmod ((k88 + 1) + 1) 3) == 0)⟩ : TCtl) from ⟨(RCtl.traps (d := (el a120 i).ctl) (RGuest.ctl (d := (el a120 i)) (LRd.el o114.rn i (by omega)))), (RCtl.post (d := (el a120 i).ctl) (RGuest.ctl (d := (el a120 i)) (LRd.el o114.rn i (by omega))))⟩)), fun _ h => .inl h⟩) (fun b _ h => False.elim h) (fun b h => False.elim h) (fun b h => False.elim h) ?_)
    clear S; intro w N F127 q128 S up o126 d129 s130
    have s131 : ∀ b, F127 b → F b := fun b h => (s130 b h).elim (s119 b) (fun h => False.elim h)
    clear up d129 o114
    obtain ⟨a132, e133⟩ : ∃ z, z = (a120).set i ({ el a120 i with ctl := (⟨((el a120 i).ctl).traps, ((el a120 i).ctl).post, ((Int.tmod ((k88 + 1) + 1) 3) == 0)⟩ : TCtl) }) := ⟨_, rfl⟩
    rw [← e133] at o126
    have l134 : a132.length = (a120).length := by rw [e133]; exact List.length_set
    have e135 : el a132 i = { el a120 i with ctl := (⟨((el a120 i).ctl).traps, ((el a120 i).ctl).post, ((Int.tmod ((k88 + 1) + 1) 3) == 0)⟩ : TCtl) } := by rw [e133]; exact el_set_self (show i < (a120).length by omega)
    have t136 : a132.take i = (a120).take i := by rw [e133]; exact take_set_self
    have d137 : a132.drop (i + 1) = (a120).drop (i + 1) := by rw [e133]; exact drop_set_self
    clear e133
    replace S := S.prune (keep := [0, 1, 5]) (m := 0) (σ' := ⟨[(0, .v (slv a.length q1.1)), (1, .v (I ((k88 + 1) + 1))), (5, .v (I (i : Int)))], []⟩) (by kernel_rfl)
    refine RG.done rfl (nx_then (wp_seq (RG.start ?_)))
    refine S.quiet (k := 3) (keep := [0, 1, 5]) (m := 0) (σ' := ⟨[(0, .v (slv a.length q1.1)), (1, .v (I (((k88 + 1) + 1) + 1))), (5, .v (I (i : Int)))], []⟩) (.cons (Q_add (x := ((k88 + 1) + 1)) (y := 1) ⟨by omega, by omega⟩) .nil) (by kernel_rfl) ?_
    clear S; intro ac w β S
    refine RG.done rfl (nx_then (wp_seq (RG.start ?_)))
    refine S.quiet (k := 5) (keep := [0, 1, 5, 75, 77]) (m := 0) (σ' := ⟨[(0, .v (slv a.length q1.1)), (1, .v (I (((k88 + 1) + 1) + 1))), (5, .v (I (i : Int))), (75, .v (I (((k88 + 1) + 1) + 1))), (77, .v (pt q1.1.b (q1.1.off + i * 15 + 8)))], []⟩) (.cons (Q_idx o126.rn (l := a.length) (k := i) (i := (i : Int)) (by omega) rfl (by omega) Try.underlying39 (by kernel_rfl)) .nil) (by kernel_rfl) ?_
    clear S; intro ac w β S
    refine RG.op rfl (S.setEl (α := TGuest) o126 (t := 3) (v := I (((k88 + 1) + 1) + 1)) (k := i) (j := 8) (off := q1.1.off + i * 15 + 8) (y := ({ el a132 i with pend := (((k88 + 1) + 1) + 1) } : TGuest)) (q := ((q1.1, q128).2 i)) (Fy := NoB) (by kernel_rfl) (by kernel_rfl) (by omega) (by kernel_rfl) (by kernel_rfl) (Nat.le_of_ble_eq_true (by kernel_rfl)) (by kernel_rfl) (fun G g _ => ⟨G, ows_Guest_pend g (⟨by omega, by omega⟩), fun _ h => .inl h⟩) (fun b _ h => False.elim h) (fun b h => False.elim h) (fun b h => False.elim h) ?_)
    clear S; intro w N F139 q140 S up o138 d141 s142
    have s143 : ∀ b, F139 b → F b := fun b h => (s142 b h).elim (s131 b) (fun h => False.elim h)
    clear up d141 o126
    obtain ⟨a144, e145⟩ : ∃ z, z = (a132).set i ({ el a132 i with pend := (((k88 + 1) + 1) + 1) }) := ⟨_, rfl⟩
    rw [← e145] at o138
    have l146 : a144.length = (a132).length := by rw [e145]; exact List.length_set
    have e147 : el a144 i = { el a132 i with pend := (((k88 + 1) + 1) + 1) } := by rw [e145]; exact el_set_self (show i < (a132).length by omega)
    have t148 : a144.take i = (a132).take i := by rw [e145]; exact take_set_self
    have d149 : a144.drop (i + 1) = (a132).drop (i + 1) := by rw [e145]; exact drop_set_self
    clear e145
    replace S := S.prune (keep := [0, 1, 5]) (m := 0) (σ' := ⟨[(0, .v (slv a.length q1.1)), (1, .v (I (((k88 + 1) + 1) + 1))), (5, .v (I (i : Int)))], []⟩) (by kernel_rfl)
    refine RG.done rfl (nx_then (wp_seq (RG.start ?_)))
    refine S.quiet (k := 3) (keep := [0, 1, 5]) (m := 0) (σ' := ⟨[(0, .v (slv a.length q1.1)), (1, .v (I ((((k88 + 1) + 1) + 1) + 1))), (5, .v (I (i : Int)))], []⟩) (.cons (Q_add (x := (((k88 + 1) + 1) + 1)) (y := 1) ⟨by omega, by omega⟩) .nil) (by kernel_rfl) ?_
    clear S; intro ac w β S
    refine RG.done rfl (nx_then (wp_seq (RG.start ?_)))
    refine S.quiet (k := 6) (keep := [0, 1, 5, 82, 85]) (m := 0) (σ' := ⟨[(0, .v (slv a.length q1.1)), (1, .v (I ((((k88 + 1) + 1) + 1) + 1))), (5, .v (I (i : Int))), (82, .v (I ((((k88 + 1) + 1) + 1) + 1))), (85, .v (pt q1.1.b (q1.1.off + i * 15 + 9)))], []⟩) (.cons (Q_idx o138.rn (l := a.length) (k := i) (i := (i : Int)) (by omega) rfl (by omega) Try.underlying39 (by kernel_rfl)) .nil) (by kernel_rfl) ?_
    clear S; intro ac w β S
    refine RG.op rfl (S.setEl (α := TGuest) o138 (t := 3) (v := I ((((k88 + 1) + 1) + 1) + 1)) (k := i) (j := 9) (off := q1.1.off + i * 15 + 9) (y := ({ el a144 i with exit := (⟨((((k88 + 1) + 1) + 1) + 1), ((el a144 i).exit).page, ((el a144 i).exit).wr, ((el a144 i).exit).n⟩ : TExit) } : TGuest)) (q := ((q1.1, q140).2 i)) (Fy := NoB) (by kernel_rfl) (by kernel_rfl) (by omega) (by kernel_rfl) (by kernel_rfl) (Nat.le_of_ble_eq_true (by kernel_rfl)) (by kernel_rfl) (fun G g _ => ⟨G, ows_Guest_exit g ((show RExit (⟨((((k88 + 1) + 1) + 1) + 1), ((el a144 i).exit).page, ((el a144 i).exit).wr, ((el a144 i).exit).n⟩ : TExit) from ⟨(show In64 ((((k88 + 1) + 1) + 1) + 1) from ⟨by omega, by omega⟩), (RExit.page (d := (el a144 i).exit) (RGuest.exit (d := (el a144 i)) (LRd.el o138.rn i (by omega)))), (RExit.n (d := (el a144 i).exit) (RGuest.exit (d := (el a144 i)) (LRd.el o138.rn i (by omega))))⟩)), fun _ h => .inl h⟩) (fun b _ h => False.elim h) (fun b h => False.elim h) (fun b h => False.elim h) ?_)
    clear S; intro w N F151 q152 S up o150 d153 s154
    have s155 : ∀ b, F151 b → F b := fun b h => (s154 b h).elim (s143 b) (fun h => False.elim h)
    clear up d153 o138
    obtain ⟨a156, e157⟩ : ∃ z, z = (a144).set i ({ el a144 i with exit := (⟨((((k88 + 1) + 1) + 1) + 1), ((el a144 i).exit).page, ((el a144 i).exit).wr, ((el a144 i).exit).n⟩ : TExit) }) := ⟨_, rfl⟩
    rw [← e157] at o150
    have l158 : a156.length = (a144).length := by rw [e157]; exact List.length_set
    have e159 : el a156 i = { el a144 i with exit := (⟨((((k88 + 1) + 1) + 1) + 1), ((el a144 i).exit).page, ((el a144 i).exit).wr, ((el a144 i).exit).n⟩ : TExit) } := by rw [e157]; exact el_set_self (show i < (a144).length by omega)
    have t160 : a156.take i = (a144).take i := by rw [e157]; exact take_set_self
    have d161 : a156.drop (i + 1) = (a144).drop (i + 1) := by rw [e157]; exact drop_set_self
    clear e157
    replace S := S.prune (keep := [0, 1, 5]) (m := 0) (σ' := ⟨[(0, .v (slv a.length q1.1)), (1, .v (I ((((k88 + 1) + 1) + 1) + 1))), (5, .v (I (i : Int)))], []⟩) (by kernel_rfl)
    refine RG.done rfl (nx_then (wp_seq (RG.start ?_)))
    refine S.quiet (k := 3) (keep := [0, 1, 5]) (m := 0) (σ' := ⟨[(0, .v (slv a.length q1.1)), (1, .v (I (((((k88 + 1) + 1) + 1) + 1) + 1))), (5, .v (I (i : Int)))], []⟩) (.cons (Q_add (x := ((((k88 + 1) + 1) + 1) + 1)) (y := 1) ⟨by omega, by omega⟩) .nil) (by kernel_rfl) ?_
    clear S; intro ac w β S
    refine RG.done rfl (nx_then (wp_seq (RG.start ?_)))
    refine S.quiet (k := 6) (keep := [0, 1, 5, 90, 93]) (m := 0) (σ' := ⟨[(0, .v (slv a.length q1.1)), (1, .v (I (((((k88 + 1) + 1) + 1) + 1) + 1))), (5, .v (I (i : Int))), (90, .v (I (((((k88 + 1) + 1) + 1) + 1) + 1))), (93, .v (pt q1.1.b (q1.1.off + i * 15 + 10)))], []⟩) (.cons (Q_idx o150.rn (l := a.length) (k := i) (i := (i : Int)) (by omega) rfl (by omega) Try.underlying39 (by kernel_rfl)) .nil) (by kernel_rfl) ?_
    clear S; intro ac w β S
    refine RG.op rfl (S.setEl (α := TGuest) o150 (t := 3) (v := I (((((k88 + 1) + 1) + 1) + 1) + 1)) (k := i) (j := 10) (off := q1.1.off + i * 15 + 10) (y := ({ el a156 i with exit := (⟨((el a156 i).exit).kind, (((((k88 + 1) + 1) + 1) + 1) + 1), ((el a156 i).exit).wr, ((el a156 i).exit).n⟩ : TExit) } : TGuest)) (q := ((q1.1, q152).2 i)) (Fy := NoB) (by kernel_rfl) (by kernel_rfl) (by omega) (by kernel_rfl) (by kernel_rfl) (Nat.le_of_ble_eq_true (by kernel_rfl)) (by kernel_rfl) (fun G g _ => ⟨G, ows_Guest_exit g ((show RExit (⟨((el a156 i).exit).kind, (((((k88 + 1) + 1) + 1) + 1) + 1), ((el a156 i).exit).wr, ((el a156 i).exit).n⟩ : TExit) from ⟨(RExit.kind (d := (el a156 i).exit) (RGuest.exit (d := (el a156 i)) (LRd.el o150.rn i (by omega)))), (show In64 (((((k88 + 1) + 1) + 1) + 1) + 1) from ⟨by omega, by omega⟩), (RExit.n (d := (el a156 i).exit) (RGuest.exit (d := (el a156 i)) (LRd.el o150.rn i (by omega))))⟩)), fun _ h => .inl h⟩) (fun b _ h => False.elim h) (fun b h => False.elim h) (fun b h => False.elim h) ?_)
    clear S; intro w N F163 q164 S up o162 d165 s166
    have s167 : ∀ b, F163 b → F b := fun b h => (s166 b h).elim (s155 b) (fun h => False.elim h)
    clear up d165 o150
    obtain ⟨a168, e169⟩ : ∃ z, z = (a156).set i ({ el a156 i with exit := (⟨((el a156 i).exit).kind, (((((k88 + 1) + 1) + 1) + 1) + 1), ((el a156 i).exit).wr, ((el a156 i).exit).n⟩ : TExit) }) := ⟨_, rfl⟩
    rw [← e169] at o162
    have l170 : a168.length = (a156).length := by rw [e169]; exact List.length_set
    have e171 : el a168 i = { el a156 i with exit := (⟨((el a156 i).exit).kind, (((((k88 + 1) + 1) + 1) + 1) + 1), ((el a156 i).exit).wr, ((el a156 i).exit).n⟩ : TExit) } := by rw [e169]; exact el_set_self (show i < (a156).length by omega)
    have t172 : a168.take i = (a156).take i := by rw [e169]; exact take_set_self
    have d173 : a168.drop (i + 1) = (a156).drop (i + 1) := by rw [e169]; exact drop_set_self
    clear e169
    replace S := S.prune (keep := [0, 1, 5]) (m := 0) (σ' := ⟨[(0, .v (slv a.length q1.1)), (1, .v (I (((((k88 + 1) + 1) + 1) + 1) + 1))), (5, .v (I (i : Int)))], []⟩) (by kernel_rfl)
    refine RG.done rfl (nx_then (wp_seq (RG.start ?_)))
    refine S.quiet (k := 3) (keep := [0, 1, 5]) (m := 0) (σ' := ⟨[(0, .v (slv a.length q1.1)), (1, .v (I ((((((k88 + 1) + 1) + 1) + 1) + 1) + 1))), (5, .v (I (i : Int)))], []⟩) (.cons (Q_add (x := (((((k88 + 1) + 1) + 1) + 1) + 1)) (y := 1) ⟨by omega, by omega⟩) .nil) (by kernel_rfl) ?_
    clear S; intro ac w β S
    refine RG.done rfl (nx_then (wp_seq (RG.start ?_)))
    refine S.quiet (k := 8) (keep := [0, 1, 5, 100, 103]) (m := 0) (σ' := ⟨[(0, .v (slv a.length q1.1)), (1, .v (I ((((((k88 + 1) + 1) + 1) + 1) + 1) + 1))), (5, .v (I (i : Int))), (100, .v (B ((Int.tmod ((((((k88 + 1) + 1) + 1) + 1) + 1) + 1) 3) == 0))), (103, .v (pt q1.1.b (q1.1.off + i * 15 + 11)))], []⟩) (.cons (Q_rem (x := ((((((k88 + 1) + 1) + 1) + 1) + 1) + 1)) (y := 3) (by decide)) (.cons (Q_idx o162.rn (l := a.length) (k := i) (i := (i : Int)) (by omega) rfl (by omega) Try.underlying39 (by kernel_rfl)) .nil)) (by kernel_rfl) ?_
    clear S; intro ac w β S
    refine RG.op rfl (S.setEl (α := TGuest) o162 (t := 4) (v := B ((Int.tmod ((((((k88 + 1) + 1) + 1) + 1) + 1) + 1) 3) == 0)) (k := i) (j := 11) (off := q1.1.off + i * 15 + 11) (y := ({ el a168 i with exit := (⟨((el a168 i).exit).kind, ((el a168 i).exit).page, ((Int.tmod ((((((k88 + 1) + 1) + 1) + 1) + 1) + 1) 3) == 0), ((el a168 i).exit).n⟩ : TExit) } : TGuest)) (q := ((q1.1, q164).2 i)) (Fy := NoB) (by kernel_rfl) (by kernel_rfl) (by omega) (by kernel_rfl) (by kernel_rfl) (Nat.le_of_ble_eq_true (by kernel_rfl)) (by kernel_rfl) (fun G g _ => ⟨G, ows_Guest_exit g ((show RExit (⟨((el a168 i).exit).kind, ((el a168 i).exit).page, ((Int.tmod ((((((k88 + 1) + 1) + 1) + 1) + 1) + 1) 3) == 0), ((el a168 i).exit).n⟩ : TExit) from ⟨(RExit.kind (d := (el a168 i).exit) (RGuest.exit (d := (el a168 i)) (LRd.el o162.rn i (by omega)))), (RExit.page (d := (el a168 i).exit) (RGuest.exit (d := (el a168 i)) (LRd.el o162.rn i (by omega)))), (RExit.n (d := (el a168 i).exit) (RGuest.exit (d := (el a168 i)) (LRd.el o162.rn i (by omega))))⟩)), fun _ h => .inl h⟩) (fun b _ h => False.elim h) (fun b h => False.elim h) (fun b h => False.elim h) ?_)
    clear S; intro w N F175 q176 S up o174 d177 s178
    have s179 : ∀ b, F175 b → F b := fun b h => (s178 b h).elim (s167 b) (fun h => False.elim h)
    clear up d177 o162
    obtain ⟨a180, e181⟩ : ∃ z, z = (a168).set i ({ el a168 i with exit := (⟨((el a168 i).exit).kind, ((el a168 i).exit).page, ((Int.tmod ((((((k88 + 1) + 1) + 1) + 1) + 1) + 1) 3) == 0), ((el a168 i).exit).n⟩ : TExit) }) := ⟨_, rfl⟩
    rw [← e181] at o174
    have l182 : a180.length = (a168).length := by rw [e181]; exact List.length_set
    have e183 : el a180 i = { el a168 i with exit := (⟨((el a168 i).exit).kind, ((el a168 i).exit).page, ((Int.tmod ((((((k88 + 1) + 1) + 1) + 1) + 1) + 1) 3) == 0), ((el a168 i).exit).n⟩ : TExit) } := by rw [e181]; exact el_set_self (show i < (a168).length by omega)
    have t184 : a180.take i = (a168).take i := by rw [e181]; exact take_set_self
    have d185 : a180.drop (i + 1) = (a168).drop (i + 1) := by rw [e181]; exact drop_set_self
    clear e181
    replace S := S.prune (keep := [0, 1, 5]) (m := 0) (σ' := ⟨[(0, .v (slv a.length q1.1)), (1, .v (I ((((((k88 + 1) + 1) + 1) + 1) + 1) + 1))), (5, .v (I (i : Int)))], []⟩) (by kernel_rfl)
    refine RG.done rfl (nx_then (wp_seq (RG.start ?_)))
    refine S.quiet (k := 3) (keep := [0, 1, 5]) (m := 0) (σ' := ⟨[(0, .v (slv a.length q1.1)), (1, .v (I (((((((k88 + 1) + 1) + 1) + 1) + 1) + 1) + 1))), (5, .v (I (i : Int)))], []⟩) (.cons (Q_add (x := ((((((k88 + 1) + 1) + 1) + 1) + 1) + 1)) (y := 1) ⟨by omega, by omega⟩) .nil) (by kernel_rfl) ?_
    clear S; intro ac w β S
    refine RG.done rfl (nx_then (wp_seq (RG.start ?_)))
    refine S.quiet (k := 6) (keep := [0, 1, 5, 108, 111]) (m := 0) (σ' := ⟨[(0, .v (slv a.length q1.1)), (1, .v (I (((((((k88 + 1) + 1) + 1) + 1) + 1) + 1) + 1))), (5, .v (I (i : Int))), (108, .v (I (((((((k88 + 1) + 1) + 1) + 1) + 1) + 1) + 1))), (111, .v (pt q1.1.b (q1.1.off + i * 15 + 12)))], []⟩) (.cons (Q_idx o174.rn (l := a.length) (k := i) (i := (i : Int)) (by omega) rfl (by omega) Try.underlying39 (by kernel_rfl)) .nil) (by kernel_rfl) ?_
    clear S; intro ac w β S
    refine RG.op rfl (S.setEl (α := TGuest) o174 (t := 3) (v := I (((((((k88 + 1) + 1) + 1) + 1) + 1) + 1) + 1)) (k := i) (j := 12) (off := q1.1.off + i * 15 + 12) (y := ({ el a180 i with exit := (⟨((el a180 i).exit).kind, ((el a180 i).exit).page, ((el a180 i).exit).wr, (((((((k88 + 1) + 1) + 1) + 1) + 1) + 1) + 1)⟩ : TExit) } : TGuest)) (q := ((q1.1, q176).2 i)) (Fy := NoB) (by kernel_rfl) (by kernel_rfl) (by omega) (by kernel_rfl) (by kernel_rfl) (Nat.le_of_ble_eq_true (by kernel_rfl)) (by kernel_rfl) (fun G g _ => ⟨G, ows_Guest_exit g ((show RExit (⟨((el a180 i).exit).kind, ((el a180 i).exit).page, ((el a180 i).exit).wr, (((((((k88 + 1) + 1) + 1) + 1) + 1) + 1) + 1)⟩ : TExit) from ⟨(RExit.kind (d := (el a180 i).exit) (RGuest.exit (d := (el a180 i)) (LRd.el o174.rn i (by omega)))), (RExit.page (d := (el a180 i).exit) (RGuest.exit (d := (el a180 i)) (LRd.el o174.rn i (by omega)))), (show In64 (((((((k88 + 1) + 1) + 1) + 1) + 1) + 1) + 1) from ⟨by omega, by omega⟩)⟩)), fun _ h => .inl h⟩) (fun b _ h => False.elim h) (fun b h => False.elim h) (fun b h => False.elim h) ?_)
    clear S; intro w N F187 q188 S up o186 d189 s190
    have s191 : ∀ b, F187 b → F b := fun b h => (s190 b h).elim (s179 b) (fun h => False.elim h)
    clear up d189 o174
    obtain ⟨a192, e193⟩ : ∃ z, z = (a180).set i ({ el a180 i with exit := (⟨((el a180 i).exit).kind, ((el a180 i).exit).page, ((el a180 i).exit).wr, (((((((k88 + 1) + 1) + 1) + 1) + 1) + 1) + 1)⟩ : TExit) }) := ⟨_, rfl⟩
    rw [← e193] at o186
    have l194 : a192.length = (a180).length := by rw [e193]; exact List.length_set
    have e195 : el a192 i = { el a180 i with exit := (⟨((el a180 i).exit).kind, ((el a180 i).exit).page, ((el a180 i).exit).wr, (((((((k88 + 1) + 1) + 1) + 1) + 1) + 1) + 1)⟩ : TExit) } := by rw [e193]; exact el_set_self (show i < (a180).length by omega)
    have t196 : a192.take i = (a180).take i := by rw [e193]; exact take_set_self
    have d197 : a192.drop (i + 1) = (a180).drop (i + 1) := by rw [e193]; exact drop_set_self
    clear e193
    replace S := S.prune (keep := [0, 1, 5]) (m := 0) (σ' := ⟨[(0, .v (slv a.length q1.1)), (1, .v (I (((((((k88 + 1) + 1) + 1) + 1) + 1) + 1) + 1))), (5, .v (I (i : Int)))], []⟩) (by kernel_rfl)
    refine RG.done rfl (nx_then (wp_seq (RG.start ?_)))
    refine S.quiet (k := 3) (keep := [0, 1, 5]) (m := 0) (σ' := ⟨[(0, .v (slv a.length q1.1)), (1, .v (I ((((((((k88 + 1) + 1) + 1) + 1) + 1) + 1) + 1) + 1))), (5, .v (I (i : Int)))], []⟩) (.cons (Q_add (x := (((((((k88 + 1) + 1) + 1) + 1) + 1) + 1) + 1)) (y := 1) ⟨by omega, by omega⟩) .nil) (by kernel_rfl) ?_
    clear S; intro ac w β S
    refine RG.done rfl (nx_then (wp_seq (RG.start ?_)))
    refine S.quiet (k := 7) (keep := [0, 1, 5, 118, 120]) (m := 0) (σ' := ⟨[(0, .v (slv a.length q1.1)), (1, .v (I ((((((((k88 + 1) + 1) + 1) + 1) + 1) + 1) + 1) + 1))), (5, .v (I (i : Int))), (118, .v (B ((Int.tmod ((((((((k88 + 1) + 1) + 1) + 1) + 1) + 1) + 1) + 1) 3) == 0))), (120, .v (pt q1.1.b (q1.1.off + i * 15 + 13)))], []⟩) (.cons (Q_rem (x := ((((((((k88 + 1) + 1) + 1) + 1) + 1) + 1) + 1) + 1)) (y := 3) (by decide)) (.cons (Q_idx o186.rn (l := a.length) (k := i) (i := (i : Int)) (by omega) rfl (by omega) Try.underlying39 (by kernel_rfl)) .nil)) (by kernel_rfl) ?_
    clear S; intro ac w β S
    refine RG.op rfl (S.setEl (α := TGuest) o186 (t := 4) (v := B ((Int.tmod ((((((((k88 + 1) + 1) + 1) + 1) + 1) + 1) + 1) + 1) 3) == 0)) (k := i) (j := 13) (off := q1.1.off + i * 15 + 13) (y := ({ el a192 i with halted := ((Int.tmod ((((((((k88 + 1) + 1) + 1) + 1) + 1) + 1) + 1) + 1) 3) == 0) } : TGuest)) (q := ((q1.1, q188).2 i)) (Fy := NoB) (by kernel_rfl) (by kernel_rfl) (by omega) (by kernel_rfl) (by kernel_rfl) (Nat.le_of_ble_eq_true (by kernel_rfl)) (by kernel_rfl) (fun G g _ => ⟨G, ows_Guest_halted g, fun _ h => .inl h⟩) (fun b _ h => False.elim h) (fun b h => False.elim h) (fun b h => False.elim h) ?_)
    clear S; intro w N F199 q200 S up o198 d201 s202
    have s203 : ∀ b, F199 b → F b := fun b h => (s202 b h).elim (s191 b) (fun h => False.elim h)
    clear up d201 o186
    obtain ⟨a204, e205⟩ : ∃ z, z = (a192).set i ({ el a192 i with halted := ((Int.tmod ((((((((k88 + 1) + 1) + 1) + 1) + 1) + 1) + 1) + 1) 3) == 0) }) := ⟨_, rfl⟩
    rw [← e205] at o198
    have l206 : a204.length = (a192).length := by rw [e205]; exact List.length_set
    have e207 : el a204 i = { el a192 i with halted := ((Int.tmod ((((((((k88 + 1) + 1) + 1) + 1) + 1) + 1) + 1) + 1) 3) == 0) } := by rw [e205]; exact el_set_self (show i < (a192).length by omega)
    have t208 : a204.take i = (a192).take i := by rw [e205]; exact take_set_self
    have d209 : a204.drop (i + 1) = (a192).drop (i + 1) := by rw [e205]; exact drop_set_self
    clear e205
    replace S := S.prune (keep := [0, 1, 5]) (m := 0) (σ' := ⟨[(0, .v (slv a.length q1.1)), (1, .v (I ((((((((k88 + 1) + 1) + 1) + 1) + 1) + 1) + 1) + 1))), (5, .v (I (i : Int)))], []⟩) (by kernel_rfl)
    refine RG.done rfl (nx_then (wp_seq (RG.start ?_)))
    refine S.quiet (k := 3) (keep := [0, 1, 5]) (m := 0) (σ' := ⟨[(0, .v (slv a.length q1.1)), (1, .v (I (((((((((k88 + 1) + 1) + 1) + 1) + 1) + 1) + 1) + 1) + 1))), (5, .v (I (i : Int)))], []⟩) (.cons (Q_add (x := ((((((((k88 + 1) + 1) + 1) + 1) + 1) + 1) + 1) + 1)) (y := 1) ⟨by omega, by omega⟩) .nil) (by kernel_rfl) ?_
    clear S; intro ac w β S
    refine RG.done rfl (nx_then (RG.start ?_))
    refine S.quiet (k := 6) (keep := [0, 5, 127, 128]) (m := 0) (σ' := ⟨[(0, .v (slv a.length q1.1)), (5, .v (I (i : Int))), (127, .v (slv ((el a204 i).seen).length (((q1.1, q200).2 i).seen).1)), (128, .v (I (((((((((k88 + 1) + 1) + 1) + 1) + 1) + 1) + 1) + 1) + 1)))], []⟩) (.cons (Q_idx o198.rn (l := a.length) (k := i) (i := (i : Int)) (by omega) rfl (by omega) Try.underlying39 (by kernel_rfl)) (.cons (Q_cell o198.rn (t := 24) (k := i) (j := 14) (v := slv ((el a204 i).seen).length (((q1.1, q200).2 i).seen).1) (by omega) (by kernel_rfl) (by kernel_rfl)) .nil)) (by kernel_rfl) ?_
    clear S; intro ac w β S
    obtain ⟨F210, o211, s212, b213⟩ := foc_Guest_seen o198 (k := i) (show i < (a204).length by omega)
    have z214 := szsum_take (xs := a) (k := i) (by omega)
    have z215 := szsum_take_le a (i + 1)
    have z216 := sz_Guest (el a i)
    have e217 : (el a204 i).seen = (el a i).seen := by simp only [e207, e195, e183, e171, e159, e147, e135, e123, e111, e99, e75, e51, e39, e27, hel]
    refine RG.op rfl (S.callX (hd := hdl) (d := 129) o211 (c_laws_markIntS w ((el a204 i).seen) (((q1.1, q200).2 i).seen) F210 (S.ownw o211) (fun b hb => (S.sep b (o211.sub b hb)).1) (((((((((k88 + 1) + 1) + 1) + 1) + 1) + 1) + 1) + 1) + 1) (by omega) (by rw [e217]; omega)) (by kernel_rfl) rfl ?_)
    clear S; intro ac w N q218 y219 k220 S up o221 c222 x223 b224 b225
    rw [e217] at b225
    obtain ⟨p226, o227⟩ := b213 _ _ _ _ up o221 c222
    clear up o198 o211 s212 b213 o221 c222
    obtain ⟨a228, e229⟩ : ∃ z, z = (a204).set i ({ el a204 i with seen := y219 }) := ⟨_, rfl⟩
    rw [← e229] at o227
    have l230 : a228.length = (a204).length := by rw [e229]; exact List.length_set
    have e231 : el a228 i = { el a204 i with seen := y219 } := by rw [e229]; exact el_set_self (show i < (a204).length by omega)
    have t232 : a228.take i = (a204).take i := by rw [e229]; exact take_set_self
    have d233 : a228.drop (i + 1) = (a204).drop (i + 1) := by rw [e229]; exact drop_set_self
    clear e229
    refine S.quiet (k := 1) (keep := [0, 1, 5]) (m := 0) (σ' := ⟨[(0, .v (slv a.length q1.1)), (1, .v (I k220)), (5, .v (I (i : Int)))], []⟩) .nil (by kernel_rfl) ?_
    clear S; intro ac w β S
    refine RG.done rfl (nx_block (nx_then (RG.start ?_)))
    refine S.quiet (k := 3) (keep := [0, 1, 5]) (m := 0) (σ' := ⟨[(0, .v (slv a.length q1.1)), (1, .v (I k220)), (5, .v (I ((i : Int) + 1)))], []⟩) (.cons (Q_add (x := (i : Int)) (y := 1) ⟨by omega, by omega⟩) .nil) (by kernel_rfl) ?_
    clear S; intro ac w β S
    refine RG.done rfl (nx_then ?_)
    replace S := S.prune (keep := [0, 1, 5]) (m := 0) (σ' := ⟨[(0, .v (slv a.length q1.1)), (1, .v (I k220)), (5, .v (I ((i : Int) + 1)))], []⟩) (by kernel_rfl)
    refine ⟨a.length - (i + 1), by omega, i + 1, a228, k220, (q1.1, p226), F199, _, _, _, rfl, ?_, ?_, ?_, ?_, ?_, ?_, S.cast (by kernel_rfl), o227, hq, s203⟩
    · clear S; first | omega | (simp [*]; done) | (simp [*]; omega)
    · clear S; omega
    · clear S; refine mk_step (acc := a228) (by omega) (by intro f; rw [t232, t208, t196, t184, t172, t160, t148, t136, t124, t112, t100, t76, t52, t40, t28]; exact hM f) ?_; intro f; simp (disch := first | omega | rfl) only [he_list, he_Guest, e231, e207, e195, e183, e171, e159, e147, e135, e123, e111, e99, e75, e51, e39, e27, x19, x67, x91, x223, hdc_pos, hdi_eq, hdb_eq]
    · clear S; rw [d233, d209, d197, d185, d173, d161, d149, d137, d125, d113, d101, d77, d53, d41, d29]; exact drop_more hD
    · clear S; omega
    · clear S; omega
  · have g234 : ¬ ((i : Int) < (a.length : Int)) := of_decide_eq_false h4
    refine wp_exit (ex_then (ex_then (ex_hit (nx_then (wp_seq (RG.start ?_))))))
    refine S.quiet (k := 2) (keep := [4]) (m := 0) (σ' := ⟨[(4, .v (I j))], []⟩) .nil (by kernel_rfl) ?_
    clear S; intro ac w β S
    refine RG.done rfl (nx_then (wp_ret ?_))
    refine S.ret (vs := [I j]) (by kernel_rfl) ?_
    have hyd : hdl acc k = j := by clear S; exact mk_end (by omega) hM
    have hyb : k ≤ j ∧ j ≤ k + 16 * ((SZ.sz a : Nat) : Int) := by clear S; have hs2 := szsum_take_le a i; constructor <;> omega
    exact retX_of S hyd hyb.1 hyb.2 (by show [slv _ _] = [slv _ _]; rw [hl, hq]) o3 hs

set_option maxRecDepth 100000 in
theorem c_laws_markBare (w0 : World) (a : TBare) (pa : PBare) (F : Bl) (ha : GT.own KK F w0 a pa) (hF : ∀ b, F b → b < w0.heap.size) (k : Int) (pre0 : 0 ≤ k) (pre1 : k + 16 * (SZ.sz a : Int) ≤ 4611686018427387904) : Calls Try.prog 41 [GT.val a pa, I k].toArray w0 (RetX hdT_Bare F w0 pa a k) := by
  refine Calls.walk (args := [GT.val a pa, I k]) F Try.func41 rfl rfl ?_
  intro ac β S
  have oa : Ow w0 F w0 (Lt w0.heap.size) F a pa := ⟨ha, hF, fun b hb => .inr hb⟩
  have i10 : In64 a.pend := RBare.pend (d := a) oa.rn
  obtain ⟨F1, F4, F7, o2, o5, o8, s3, s6, s9, d11, d12, d13⟩ := sp_Bare oa
  have hz := sz_Bare a
  refine wp_seq (RG.start ?_)
  refine S.quiet (k := 2) (keep := [1, 2]) (m := 1) (σ' := ⟨[(1, .v (I k)), (2, .p 0 0)], [[slv (a.mem).length pa.mem.1, slv (a.guests).length pa.guests.1, slv (a.outs).length pa.outs.1, I a.pend]]⟩) .nil (by kernel_rfl) ?_
  clear S; intro ac w β S
  refine RG.done rfl (nx_then (wp_seq (RG.start ?_)))
  refine S.quiet (k := 3) (keep := [2, 6, 7]) (m := 1) (σ' := ⟨[(2, .p 0 0), (6, .v (slv (a.mem).length pa.mem.1)), (7, .v (I k))], [[slv (a.mem).length pa.mem.1, slv (a.guests).length pa.guests.1, slv (a.outs).length pa.outs.1, I a.pend]]⟩) .nil (by kernel_rfl) ?_
  clear S; intro ac w β S
  refine RG.op rfl (S.callX (hd := hdl) (d := 8) o2 (c_laws_markIntSS w a.mem pa.mem F1 (S.ownw o2) (fun b hb => (S.sep b (o2.sub b hb)).1) k (by omega) (by omega)) (by kernel_rfl) rfl ?_)
  clear S; intro ac w N q14 y15 k16 S up o17 c18 x19 b20 b21
  replace o5 := o5.upF (Disj.symm d11) up
  replace o8 := o8.upF (Disj.symm d12) up
  clear up
  refine S.quiet (k := 1) (keep := [1, 2]) (m := 1) (σ' := ⟨[(1, .v (I k16)), (2, .p 0 0)], [[slv (a.mem).length pa.mem.1, slv (a.guests).length pa.guests.1, slv (a.outs).length pa.outs.1, I a.pend]]⟩) .nil (by kernel_rfl) ?_
  clear S; intro ac w β S
  refine RG.done rfl (nx_then (wp_seq (RG.start ?_)))
  refine S.quiet (k := 3) (keep := [2, 10, 11]) (m := 1) (σ' := ⟨[(2, .p 0 0), (10, .v (slv (a.guests).length pa.guests.1)), (11, .v (I k16))], [[slv (a.mem).length pa.mem.1, slv (a.guests).length pa.guests.1, slv (a.outs).length pa.outs.1, I a.pend]]⟩) .nil (by kernel_rfl) ?_
  clear S; intro ac w β S
  refine RG.op rfl (S.callX (hd := hdl) (d := 12) o5 (c_laws_markGuestS w a.guests pa.guests F4 (S.ownw o5) (fun b hb => (S.sep b (o5.sub b hb)).1) k16 (by omega) (by omega)) (by kernel_rfl) rfl ?_)
  clear S; intro ac w N q22 y23 k24 S up o25 c26 x27 b28 b29
  replace o8 := o8.upF (Disj.symm d13) up
  replace o17 := o17.upF (Disj.symm (Disj.symm d11)) up
  clear up
  refine S.quiet (k := 1) (keep := [1, 2]) (m := 1) (σ' := ⟨[(1, .v (I k24)), (2, .p 0 0)], [[slv (a.mem).length pa.mem.1, slv (a.guests).length pa.guests.1, slv (a.outs).length pa.outs.1, I a.pend]]⟩) .nil (by kernel_rfl) ?_
  clear S; intro ac w β S
  refine RG.done rfl (nx_then (wp_seq (RG.start ?_)))
  refine S.quiet (k := 3) (keep := [14, 15]) (m := 0) (σ' := ⟨[(14, .v (slv (a.outs).length pa.outs.1)), (15, .v (I k24))], []⟩) .nil (by kernel_rfl) ?_
  clear S; intro ac w β S
  refine RG.op rfl (S.callX (hd := hdl) (d := 16) o8 (c_laws_markIntS w a.outs pa.outs F7 (S.ownw o8) (fun b hb => (S.sep b (o8.sub b hb)).1) k24 (by omega) (by omega)) (by kernel_rfl) rfl ?_)
  clear S; intro ac w N q30 y31 k32 S up o33 c34 x35 b36 b37
  replace o17 := o17.upF (Disj.symm (Disj.symm d12)) up
  replace o25 := o25.upF (Disj.symm (Disj.symm d13)) up
  clear up
  refine S.quiet (k := 1) (keep := [1]) (m := 0) (σ' := ⟨[(1, .v (I k32))], []⟩) .nil (by kernel_rfl) ?_
  clear S; intro ac w β S
  refine RG.done rfl (nx_then (wp_seq (RG.start ?_)))
  refine S.quiet (k := 2) (keep := [4]) (m := 0) (σ' := ⟨[(4, .v (I k32))], []⟩) .nil (by kernel_rfl) ?_
  clear S; intro ac w β S
  refine RG.done rfl (nx_then (wp_ret ?_))
  refine S.ret (vs := [I k32]) (by kernel_rfl) ?_
  have o38 := ow_Bare (x := (⟨y15, y23, y31, a.pend⟩ : TBare)) (p := (⟨q14, q22, q30⟩ : PBare)) o17 o25 o33 (Disj.symm (Disj.symm d11)) (Disj.symm (Disj.symm d12)) (Disj.symm (Disj.symm d13)) (i10)
  have hcc := cc_Bare (x := (⟨y15, y23, y31, a.pend⟩ : TBare)) (y := a) (p := (⟨q14, q22, q30⟩ : PBare)) (q := pa) c18 c26 c34 rfl
  have hsz := sz_Bare a
  have hyd : hdT_Bare (⟨y15, y23, y31, a.pend⟩ : TBare) k = k32 := by clear S; simp (disch := omega) only [hdT_Bare, x19, x27, x35, hdc_pos]
  have hyb : k ≤ k32 ∧ k32 ≤ k + 16 * ((SZ.sz a : Nat) : Int) := by clear S; constructor <;> omega
  exact retX_of S hyd hyb.1 hyb.2 hcc o38 (uni_all fun G hG => by simp only [List.mem_cons, List.not_mem_nil, or_false] at hG; rcases hG with rfl | rfl | rfl <;> assumption)

set_option maxRecDepth 100000 in
theorem c_laws_heldIntS (w0 : World) (a : List Int) (pa : LP Int) (ha : GT.rd KK (Lt w0.heap.size) w0 a pa) (k : Int) : Calls Try.prog 94 [slv (a).length pa.1, I k].toArray w0 (fun e w' => e = .returned (I (hdl a k)) ∧ Chg NoB w0 w') := by
  refine Calls.walk (args := [slv (a).length pa.1, I k]) NoB Try.func94 rfl rfl ?_
  intro ac β S
  have hlea : a.length ≤ 4194304 := LRd.le ha
  refine wp_seq (RG.start ?_)
  refine S.quiet (k := 1) (keep := [0, 1]) (m := 0) (σ' := ⟨[(0, .v (slv (a).length pa.1)), (1, .v (I k))], []⟩) .nil (by kernel_rfl) ?_
  clear S; intro ac w β S
  refine RG.done rfl (nx_then (wp_seq (wp_seq (RG.start ?_))))
  refine S.quiet (k := 1) (keep := [0, 1, 5]) (m := 0) (σ' := ⟨[(0, .v (slv (a).length pa.1)), (1, .v (I k)), (5, .v (I 0))], []⟩) .nil (by kernel_rfl) ?_
  clear S; intro ac w β S
  refine RG.done rfl (nx_then (wp_block ?_))
  replace S := S.prune (keep := [0, 1, 5]) (m := 0) (σ' := ⟨[(0, .v (slv (a).length pa.1)), (1, .v (I k)), (5, .v (I 0))], []⟩) (by kernel_rfl)
  refine wp_loop_down (fun mm ac w => ∃ (i : Nat) (j : Int)  (u : World) (N : Bl) (β : Nat → Nat), mm = a.length - i ∧ (i ≤ a.length) ∧ (hdl a k = hdlc (a.drop i) j id) ∧ St Try.prog Try.f94.ntmps w0 NoB u N β ⟨[(0, .v (slv (a).length pa.1)), (1, .v (I j)), (5, .v (I (i : Int)))], []⟩ ac w) _ ⟨0, k, _, _, _, rfl, (by first | omega | (simp; done) | (simp; omega)), (by rfl), S.cast (by kernel_rfl)⟩ ?_
  clear S
  rintro mm ac w ⟨i, j, u, N, β, rfl, hi, hr, S⟩
  refine wp_seq (wp_seq (RG.start ?_))
  refine S.quiet (k := 4) (keep := [0, 1, 5, 9]) (m := 0) (σ' := ⟨[(0, .v (slv (a).length pa.1)), (1, .v (I j)), (5, .v (I (i : Int))), (9, .v (B (decide ((i : Int) < ((a).length : Int)))))], []⟩) .nil (by kernel_rfl) ?_
  clear S; intro ac w β S
  refine RG.done rfl (nx_then ?_)
  refine S.cond (e := (decide ((i : Int) < ((a).length : Int)))) (by kernel_rfl) (fun h1 => ?_) (fun h1 => ?_)
  · have g2 : (i : Int) < ((a).length : Int) := of_decide_eq_true h1
    refine wp_skip (nx_then (wp_seq (wp_block (wp_seq (wp_seq (RG.start ?_))))))
    refine S.quiet (k := 6) (keep := [0, 1, 5, 17]) (m := 0) (σ' := ⟨[(0, .v (slv (a).length pa.1)), (1, .v (I j)), (5, .v (I (i : Int))), (17, .v (B ((el a i) != j)))], []⟩) (.cons (Q_idx (S.arg ha) (l := (a).length) (k := i) (i := (i : Int)) rfl rfl (by omega) Try.underlying24 (by kernel_rfl)) (.cons (Q_el1 (S.arg ha) (t := 3) (k := i) (by omega) rfl (by kernel_rfl)) .nil)) (by kernel_rfl) ?_
    clear S; intro ac w β S
    refine RG.done rfl (nx_then ?_)
    refine S.cond (e := ((el a i) != j)) (by kernel_rfl) (fun h3 => ?_) (fun h3 => ?_)
    · have g4 : ¬ ((el a i) = j) := bne_iff_ne.1 h3
      refine wp_seq (RG.start ?_)
      refine S.quiet (k := 1) (keep := [4]) (m := 0) (σ' := ⟨[(4, .v (I (-1)))], []⟩) .nil (by kernel_rfl) ?_
      clear S; intro ac w β S
      refine RG.done rfl (nx_then (wp_ret (rt_then (rt_block (rt_then (rt_then (rt_block (rt_then ?_))))))))
      refine S.ret (vs := [I (-1)]) (by kernel_rfl) ?_
      exact ⟨retI (show (-1) = hdl a k by clear S; (first | (rw [hr, hd_end (by omega)]; done) | (rw [hr, hd_step (by omega)]; simp [he_Int, hdi, hdb, hdc, *]; done) | (rw [hr, hd_step (by omega)]; simp_all [he_Int, hdi, hdb, hdc]; done))), S.chg⟩
    · have g5 : (el a i) = j := ne_f h3
      refine wp_skip (nx_then (RG.start ?_))
      refine S.quiet (k := 3) (keep := [0, 1, 5]) (m := 0) (σ' := ⟨[(0, .v (slv (a).length pa.1)), (1, .v (I (IntKind.i64.wrap (j + 1)))), (5, .v (I (i : Int)))], []⟩) (.cons (Q_addw (x := j) (y := 1)) .nil) (by kernel_rfl) ?_
      clear S; intro ac w β S
      refine RG.done rfl (nx_block (nx_then (RG.start ?_)))
      refine S.quiet (k := 3) (keep := [0, 1, 5]) (m := 0) (σ' := ⟨[(0, .v (slv (a).length pa.1)), (1, .v (I (IntKind.i64.wrap (j + 1)))), (5, .v (I ((i : Int) + 1)))], []⟩) (.cons (Q_add (x := (i : Int)) (y := 1) ⟨by omega, by omega⟩) .nil) (by kernel_rfl) ?_
      clear S; intro ac w β S
      refine RG.done rfl (nx_then ?_)
      replace S := S.prune (keep := [0, 1, 5]) (m := 0) (σ' := ⟨[(0, .v (slv (a).length pa.1)), (1, .v (I (IntKind.i64.wrap (j + 1)))), (5, .v (I ((i : Int) + 1)))], []⟩) (by kernel_rfl)
      refine ⟨a.length - (i + 1), by omega, i + 1, (IntKind.i64.wrap (j + 1)), _, _, _, rfl, ?_, ?_, S.cast (by kernel_rfl)⟩
      · clear S; first | omega | (simp [*]; done) | (simp [*]; omega)
      · clear S; (rw [hr, hd_step (by omega)]; simp [he_Int, hdi, hdb, hdc, *])
  · have g6 : ¬ ((i : Int) < ((a).length : Int)) := of_decide_eq_false h1
    refine wp_exit (ex_then (ex_then (ex_hit (nx_then (wp_seq (RG.start ?_))))))
    refine S.quiet (k := 2) (keep := [4]) (m := 0) (σ' := ⟨[(4, .v (I j))], []⟩) .nil (by kernel_rfl) ?_
    clear S; intro ac w β S
    refine RG.done rfl (nx_then (wp_ret ?_))
    refine S.ret (vs := [I j]) (by kernel_rfl) ?_
    exact ⟨retI (show j = hdl a k by clear S; (first | (rw [hr, hd_end (by omega)]; done) | (rw [hr, hd_step (by omega)]; simp [he_Int, hdi, hdb, hdc, *]; done) | (rw [hr, hd_step (by omega)]; simp_all [he_Int, hdi, hdb, hdc]; done))), S.chg⟩

set_option maxRecDepth 100000 in
theorem c_laws_heldIntSS (w0 : World) (a : List (List Int)) (pa : LP (List Int)) (ha : GT.rd KK (Lt w0.heap.size) w0 a pa) (k : Int) : Calls Try.prog 92 [slv (a).length pa.1, I k].toArray w0 (fun e w' => e = .returned (I (hdl a k)) ∧ Chg NoB w0 w') := by
  refine Calls.walk (args := [slv (a).length pa.1, I k]) NoB Try.func92 rfl rfl ?_
  intro ac β S
  have hlea : a.length ≤ 4194304 := LRd.le ha
  refine wp_seq (RG.start ?_)
  refine S.quiet (k := 1) (keep := [0, 1]) (m := 0) (σ' := ⟨[(0, .v (slv (a).length pa.1)), (1, .v (I k))], []⟩) .nil (by kernel_rfl) ?_
  clear S; intro ac w β S
  refine RG.done rfl (nx_then (wp_seq (wp_seq (RG.start ?_))))
  refine S.quiet (k := 1) (keep := [0, 1, 5]) (m := 0) (σ' := ⟨[(0, .v (slv (a).length pa.1)), (1, .v (I k)), (5, .v (I 0))], []⟩) .nil (by kernel_rfl) ?_
  clear S; intro ac w β S
  refine RG.done rfl (nx_then (wp_block ?_))
  replace S := S.prune (keep := [0, 1, 5]) (m := 0) (σ' := ⟨[(0, .v (slv (a).length pa.1)), (1, .v (I k)), (5, .v (I 0))], []⟩) (by kernel_rfl)
  refine wp_loop_down (fun mm ac w => ∃ (i : Nat) (j : Int)  (u : World) (N : Bl) (β : Nat → Nat), mm = a.length - i ∧ (i ≤ a.length) ∧ (hdl a k = hdlc (a.drop i) j id) ∧ St Try.prog Try.f92.ntmps w0 NoB u N β ⟨[(0, .v (slv (a).length pa.1)), (1, .v (I j)), (5, .v (I (i : Int)))], []⟩ ac w) _ ⟨0, k, _, _, _, rfl, (by first | omega | (simp; done) | (simp; omega)), (by rfl), S.cast (by kernel_rfl)⟩ ?_
  clear S
  rintro mm ac w ⟨i, j, u, N, β, rfl, hi, hr, S⟩
  refine wp_seq (wp_seq (RG.start ?_))
  refine S.quiet (k := 4) (keep := [0, 1, 5, 9]) (m := 0) (σ' := ⟨[(0, .v (slv (a).length pa.1)), (1, .v (I j)), (5, .v (I (i : Int))), (9, .v (B (decide ((i : Int) < ((a).length : Int)))))], []⟩) .nil (by kernel_rfl) ?_
  clear S; intro ac w β S
  refine RG.done rfl (nx_then ?_)
  refine S.cond (e := (decide ((i : Int) < ((a).length : Int)))) (by kernel_rfl) (fun h1 => ?_) (fun h1 => ?_)
  · have g2 : (i : Int) < ((a).length : Int) := of_decide_eq_true h1
    refine wp_skip (nx_then (wp_seq (wp_block (wp_seq (RG.start ?_)))))
    refine S.quiet (k := 7) (keep := [0, 1, 5]) (m := 0) (σ' := ⟨[(0, .v (slv (a).length pa.1)), (1, .v (I (hdl (el a i) j))), (5, .v (I (i : Int)))], []⟩) (.cons (Q_idx (S.arg ha) (l := (a).length) (k := i) (i := (i : Int)) rfl rfl (by omega) Try.underlying31 (by kernel_rfl)) (.cons (Q_el1 (S.arg ha) (t := 24) (k := i) (by omega) rfl (by kernel_rfl)) (.cons (Q_call fun w hw => c_laws_heldIntS w (el a i) (pa.2 i) (rd_of (LRd.el (S.arg ha) i (by omega)) hw) j) .nil))) (by kernel_rfl) ?_
    clear S; intro ac w β S
    refine RG.done rfl (nx_then (wp_seq (RG.start ?_)))
    refine S.quiet (k := 2) (keep := [0, 1, 5, 19]) (m := 0) (σ' := ⟨[(0, .v (slv (a).length pa.1)), (1, .v (I (hdl (el a i) j))), (5, .v (I (i : Int))), (19, .v (B (decide ((hdl (el a i) j) < 0))))], []⟩) .nil (by kernel_rfl) ?_
    clear S; intro ac w β S
    refine RG.done rfl (nx_then ?_)
    refine S.cond (e := (decide ((hdl (el a i) j) < 0))) (by kernel_rfl) (fun h3 => ?_) (fun h3 => ?_)
    · have g4 : (hdl (el a i) j) < 0 := of_decide_eq_true h3
      refine wp_seq (RG.start ?_)
      refine S.quiet (k := 1) (keep := [4]) (m := 0) (σ' := ⟨[(4, .v (I (-1)))], []⟩) .nil (by kernel_rfl) ?_
      clear S; intro ac w β S
      refine RG.done rfl (nx_then (wp_ret (rt_block (rt_then (rt_then (rt_block (rt_then ?_)))))))
      refine S.ret (vs := [I (-1)]) (by kernel_rfl) ?_
      exact ⟨retI (show (-1) = hdl a k by clear S; (first | (rw [hr, hd_end (by omega)]; done) | (rw [hr, hd_step (by omega)]; simp [he_list, hdi, hdb, hdc, *]; done) | (rw [hr, hd_step (by omega)]; simp_all [he_list, hdi, hdb, hdc]; done))), S.chg⟩
    · have g5 : ¬ ((hdl (el a i) j) < 0) := of_decide_eq_false h3
      refine wp_skip (nx_block (nx_then (RG.start ?_)))
      refine S.quiet (k := 3) (keep := [0, 1, 5]) (m := 0) (σ' := ⟨[(0, .v (slv (a).length pa.1)), (1, .v (I (hdl (el a i) j))), (5, .v (I ((i : Int) + 1)))], []⟩) (.cons (Q_add (x := (i : Int)) (y := 1) ⟨by omega, by omega⟩) .nil) (by kernel_rfl) ?_
      clear S; intro ac w β S
      refine RG.done rfl (nx_then ?_)
      replace S := S.prune (keep := [0, 1, 5]) (m := 0) (σ' := ⟨[(0, .v (slv (a).length pa.1)), (1, .v (I (hdl (el a i) j))), (5, .v (I ((i : Int) + 1)))], []⟩) (by kernel_rfl)
      refine ⟨a.length - (i + 1), by omega, i + 1, (hdl (el a i) j), _, _, _, rfl, ?_, ?_, S.cast (by kernel_rfl)⟩
      · clear S; first | omega | (simp [*]; done) | (simp [*]; omega)
      · clear S; (rw [hr, hd_step (by omega)]; simp [he_list, hdi, hdb, hdc, *])
  · have g6 : ¬ ((i : Int) < ((a).length : Int)) := of_decide_eq_false h1
    refine wp_exit (ex_then (ex_then (ex_hit (nx_then (wp_seq (RG.start ?_))))))
    refine S.quiet (k := 2) (keep := [4]) (m := 0) (σ' := ⟨[(4, .v (I j))], []⟩) .nil (by kernel_rfl) ?_
    clear S; intro ac w β S
    refine RG.done rfl (nx_then (wp_ret ?_))
    refine S.ret (vs := [I j]) (by kernel_rfl) ?_
    exact ⟨retI (show j = hdl a k by clear S; (first | (rw [hr, hd_end (by omega)]; done) | (rw [hr, hd_step (by omega)]; simp [he_list, hdi, hdb, hdc, *]; done) | (rw [hr, hd_step (by omega)]; simp_all [he_list, hdi, hdb, hdc]; done))), S.chg⟩

set_option maxRecDepth 100000 in
theorem c_laws_heldInsS (w0 : World) (a : List TIns) (pa : LP TIns) (ha : GT.rd KK (Lt w0.heap.size) w0 a pa) (k : Int) : Calls Try.prog 129 [slv (a).length pa.1, I k].toArray w0 (fun e w' => e = .returned (I (hdl a k)) ∧ Chg NoB w0 w') := by
  refine Calls.walk (args := [slv (a).length pa.1, I k]) NoB Try.func129 rfl rfl ?_
  intro ac β S
  have hlea : a.length ≤ 4194304 := LRd.le ha
  refine wp_seq (RG.start ?_)
  refine S.quiet (k := 1) (keep := [0, 1]) (m := 0) (σ' := ⟨[(0, .v (slv (a).length pa.1)), (1, .v (I k))], []⟩) .nil (by kernel_rfl) ?_
  clear S; intro ac w β S
  refine RG.done rfl (nx_then (wp_seq (wp_seq (RG.start ?_))))
  refine S.quiet (k := 1) (keep := [0, 1, 5]) (m := 0) (σ' := ⟨[(0, .v (slv (a).length pa.1)), (1, .v (I k)), (5, .v (I 0))], []⟩) .nil (by kernel_rfl) ?_
  clear S; intro ac w β S
  refine RG.done rfl (nx_then (wp_block ?_))
  replace S := S.prune (keep := [0, 1, 5]) (m := 0) (σ' := ⟨[(0, .v (slv (a).length pa.1)), (1, .v (I k)), (5, .v (I 0))], []⟩) (by kernel_rfl)
  refine wp_loop_down (fun mm ac w => ∃ (i : Nat) (j : Int)  (u : World) (N : Bl) (β : Nat → Nat), mm = a.length - i ∧ (i ≤ a.length) ∧ (hdl a k = hdlc (a.drop i) j id) ∧ St Try.prog Try.f129.ntmps w0 NoB u N β ⟨[(0, .v (slv (a).length pa.1)), (1, .v (I j)), (5, .v (I (i : Int)))], []⟩ ac w) _ ⟨0, k, _, _, _, rfl, (by first | omega | (simp; done) | (simp; omega)), (by rfl), S.cast (by kernel_rfl)⟩ ?_
  clear S
  rintro mm ac w ⟨i, j, u, N, β, rfl, hi, hr, S⟩
  refine wp_seq (wp_seq (RG.start ?_))
  refine S.quiet (k := 4) (keep := [0, 1, 5, 9]) (m := 0) (σ' := ⟨[(0, .v (slv (a).length pa.1)), (1, .v (I j)), (5, .v (I (i : Int))), (9, .v (B (decide ((i : Int) < ((a).length : Int)))))], []⟩) .nil (by kernel_rfl) ?_
  clear S; intro ac w β S
  refine RG.done rfl (nx_then ?_)
  refine S.cond (e := (decide ((i : Int) < ((a).length : Int)))) (by kernel_rfl) (fun h1 => ?_) (fun h1 => ?_)
  · have g2 : (i : Int) < ((a).length : Int) := of_decide_eq_true h1
    refine wp_skip (nx_then (wp_seq (wp_block (wp_seq (wp_seq (RG.start ?_))))))
    refine S.quiet (k := 7) (keep := [0, 1, 5, 18]) (m := 0) (σ' := ⟨[(0, .v (slv (a).length pa.1)), (1, .v (I j)), (5, .v (I (i : Int))), (18, .v (B ((el a i).opc != j)))], []⟩) (.cons (Q_idx (S.arg ha) (l := (a).length) (k := i) (i := (i : Int)) rfl rfl (by omega) Try.underlying28 (by kernel_rfl)) (.cons (Q_cell (S.arg ha) (t := 3) (k := i) (j := 0) (v := I ((el a i).opc)) (by omega) (by kernel_rfl) (by kernel_rfl)) .nil)) (by kernel_rfl) ?_
    clear S; intro ac w β S
    refine RG.done rfl (nx_then ?_)
    refine S.cond (e := ((el a i).opc != j)) (by kernel_rfl) (fun h3 => ?_) (fun h3 => ?_)
    · have g4 : ¬ ((el a i).opc = j) := bne_iff_ne.1 h3
      refine wp_seq (RG.start ?_)
      refine S.quiet (k := 1) (keep := [4]) (m := 0) (σ' := ⟨[(4, .v (I (-1)))], []⟩) .nil (by kernel_rfl) ?_
      clear S; intro ac w β S
      refine RG.done rfl (nx_then (wp_ret (rt_then (rt_block (rt_then (rt_then (rt_block (rt_then ?_))))))))
      refine S.ret (vs := [I (-1)]) (by kernel_rfl) ?_
      exact ⟨retI (show (-1) = hdl a k by clear S; (first | (rw [hr, hd_end (by omega)]; done) | (rw [hr, hd_step (by omega)]; simp [he_Ins, hdi, hdb, hdc, *]; done) | (rw [hr, hd_step (by omega)]; simp_all [he_Ins, hdi, hdb, hdc]; done))), S.chg⟩
    · have g5 : (el a i).opc = j := ne_f h3
      refine wp_skip (nx_then (wp_seq (RG.start ?_)))
      refine S.quiet (k := 3) (keep := [0, 1, 5]) (m := 0) (σ' := ⟨[(0, .v (slv (a).length pa.1)), (1, .v (I (IntKind.i64.wrap (j + 1)))), (5, .v (I (i : Int)))], []⟩) (.cons (Q_addw (x := j) (y := 1)) .nil) (by kernel_rfl) ?_
      clear S; intro ac w β S
      refine RG.done rfl (nx_then (wp_seq (wp_seq (RG.start ?_))))
      refine S.quiet (k := 7) (keep := [0, 1, 5, 27]) (m := 0) (σ' := ⟨[(0, .v (slv (a).length pa.1)), (1, .v (I (IntKind.i64.wrap (j + 1)))), (5, .v (I (i : Int))), (27, .v (B ((el a i).x != (IntKind.i64.wrap (j + 1)))))], []⟩) (.cons (Q_idx (S.arg ha) (l := (a).length) (k := i) (i := (i : Int)) rfl rfl (by omega) Try.underlying28 (by kernel_rfl)) (.cons (Q_cell (S.arg ha) (t := 3) (k := i) (j := 1) (v := I ((el a i).x)) (by omega) (by kernel_rfl) (by kernel_rfl)) .nil)) (by kernel_rfl) ?_
      clear S; intro ac w β S
      refine RG.done rfl (nx_then ?_)
      refine S.cond (e := ((el a i).x != (IntKind.i64.wrap (j + 1)))) (by kernel_rfl) (fun h6 => ?_) (fun h6 => ?_)
      · have g7 : ¬ ((el a i).x = (IntKind.i64.wrap (j + 1))) := bne_iff_ne.1 h6
        refine wp_seq (RG.start ?_)
        refine S.quiet (k := 1) (keep := [4]) (m := 0) (σ' := ⟨[(4, .v (I (-1)))], []⟩) .nil (by kernel_rfl) ?_
        clear S; intro ac w β S
        refine RG.done rfl (nx_then (wp_ret (rt_then (rt_block (rt_then (rt_then (rt_block (rt_then ?_))))))))
        refine S.ret (vs := [I (-1)]) (by kernel_rfl) ?_
        exact ⟨retI (show (-1) = hdl a k by clear S; (first | (rw [hr, hd_end (by omega)]; done) | (rw [hr, hd_step (by omega)]; simp [he_Ins, hdi, hdb, hdc, *]; done) | (rw [hr, hd_step (by omega)]; simp_all [he_Ins, hdi, hdb, hdc]; done))), S.chg⟩
      · have g8 : (el a i).x = (IntKind.i64.wrap (j + 1)) := ne_f h6
        refine wp_skip (nx_then (RG.start ?_))
        refine S.quiet (k := 3) (keep := [0, 1, 5]) (m := 0) (σ' := ⟨[(0, .v (slv (a).length pa.1)), (1, .v (I (IntKind.i64.wrap ((IntKind.i64.wrap (j + 1)) + 1)))), (5, .v (I (i : Int)))], []⟩) (.cons (Q_addw (x := (IntKind.i64.wrap (j + 1))) (y := 1)) .nil) (by kernel_rfl) ?_
        clear S; intro ac w β S
        refine RG.done rfl (nx_block (nx_then (RG.start ?_)))
        refine S.quiet (k := 3) (keep := [0, 1, 5]) (m := 0) (σ' := ⟨[(0, .v (slv (a).length pa.1)), (1, .v (I (IntKind.i64.wrap ((IntKind.i64.wrap (j + 1)) + 1)))), (5, .v (I ((i : Int) + 1)))], []⟩) (.cons (Q_add (x := (i : Int)) (y := 1) ⟨by omega, by omega⟩) .nil) (by kernel_rfl) ?_
        clear S; intro ac w β S
        refine RG.done rfl (nx_then ?_)
        replace S := S.prune (keep := [0, 1, 5]) (m := 0) (σ' := ⟨[(0, .v (slv (a).length pa.1)), (1, .v (I (IntKind.i64.wrap ((IntKind.i64.wrap (j + 1)) + 1)))), (5, .v (I ((i : Int) + 1)))], []⟩) (by kernel_rfl)
        refine ⟨a.length - (i + 1), by omega, i + 1, (IntKind.i64.wrap ((IntKind.i64.wrap (j + 1)) + 1)), _, _, _, rfl, ?_, ?_, S.cast (by kernel_rfl)⟩
        · clear S; first | omega | (simp [*]; done) | (simp [*]; omega)
        · clear S; (rw [hr, hd_step (by omega)]; simp [he_Ins, hdi, hdb, hdc, *])
  · have g9 : ¬ ((i : Int) < ((a).length : Int)) := of_decide_eq_false h1
    refine wp_exit (ex_then (ex_then (ex_hit (nx_then (wp_seq (RG.start ?_))))))
    refine S.quiet (k := 2) (keep := [4]) (m := 0) (σ' := ⟨[(4, .v (I j))], []⟩) .nil (by kernel_rfl) ?_
    clear S; intro ac w β S
    refine RG.done rfl (nx_then (wp_ret ?_))
    refine S.ret (vs := [I j]) (by kernel_rfl) ?_
    exact ⟨retI (show j = hdl a k by clear S; (first | (rw [hr, hd_end (by omega)]; done) | (rw [hr, hd_step (by omega)]; simp [he_Ins, hdi, hdb, hdc, *]; done) | (rw [hr, hd_step (by omega)]; simp_all [he_Ins, hdi, hdb, hdc]; done))), S.chg⟩

set_option maxRecDepth 100000 in
theorem c_laws_heldSlotS (w0 : World) (a : List TSlot) (pa : LP TSlot) (ha : GT.rd KK (Lt w0.heap.size) w0 a pa) (k : Int) : Calls Try.prog 130 [slv (a).length pa.1, I k].toArray w0 (fun e w' => e = .returned (I (hdl a k)) ∧ Chg NoB w0 w') := by
  refine Calls.walk (args := [slv (a).length pa.1, I k]) NoB Try.func130 rfl rfl ?_
  intro ac β S
  have hlea : a.length ≤ 4194304 := LRd.le ha
  refine wp_seq (RG.start ?_)
  refine S.quiet (k := 1) (keep := [0, 1]) (m := 0) (σ' := ⟨[(0, .v (slv (a).length pa.1)), (1, .v (I k))], []⟩) .nil (by kernel_rfl) ?_
  clear S; intro ac w β S
  refine RG.done rfl (nx_then (wp_seq (wp_seq (RG.start ?_))))
  refine S.quiet (k := 1) (keep := [0, 1, 5]) (m := 0) (σ' := ⟨[(0, .v (slv (a).length pa.1)), (1, .v (I k)), (5, .v (I 0))], []⟩) .nil (by kernel_rfl) ?_
  clear S; intro ac w β S
  refine RG.done rfl (nx_then (wp_block ?_))
  replace S := S.prune (keep := [0, 1, 5]) (m := 0) (σ' := ⟨[(0, .v (slv (a).length pa.1)), (1, .v (I k)), (5, .v (I 0))], []⟩) (by kernel_rfl)
  refine wp_loop_down (fun mm ac w => ∃ (i : Nat) (j : Int)  (u : World) (N : Bl) (β : Nat → Nat), mm = a.length - i ∧ (i ≤ a.length) ∧ (hdl a k = hdlc (a.drop i) j id) ∧ St Try.prog Try.f130.ntmps w0 NoB u N β ⟨[(0, .v (slv (a).length pa.1)), (1, .v (I j)), (5, .v (I (i : Int)))], []⟩ ac w) _ ⟨0, k, _, _, _, rfl, (by first | omega | (simp; done) | (simp; omega)), (by rfl), S.cast (by kernel_rfl)⟩ ?_
  clear S
  rintro mm ac w ⟨i, j, u, N, β, rfl, hi, hr, S⟩
  refine wp_seq (wp_seq (RG.start ?_))
  refine S.quiet (k := 4) (keep := [0, 1, 5, 9]) (m := 0) (σ' := ⟨[(0, .v (slv (a).length pa.1)), (1, .v (I j)), (5, .v (I (i : Int))), (9, .v (B (decide ((i : Int) < ((a).length : Int)))))], []⟩) .nil (by kernel_rfl) ?_
  clear S; intro ac w β S
  refine RG.done rfl (nx_then ?_)
  refine S.cond (e := (decide ((i : Int) < ((a).length : Int)))) (by kernel_rfl) (fun h1 => ?_) (fun h1 => ?_)
  · have g2 : (i : Int) < ((a).length : Int) := of_decide_eq_true h1
    refine wp_skip (nx_then (wp_seq (wp_block (wp_seq (wp_seq (RG.start ?_))))))
    refine S.quiet (k := 7) (keep := [0, 1, 5, 18]) (m := 0) (σ' := ⟨[(0, .v (slv (a).length pa.1)), (1, .v (I j)), (5, .v (I (i : Int))), (18, .v (B ((el a i).page != j)))], []⟩) (.cons (Q_idx (S.arg ha) (l := (a).length) (k := i) (i := (i : Int)) rfl rfl (by omega) Try.underlying37 (by kernel_rfl)) (.cons (Q_cell (S.arg ha) (t := 3) (k := i) (j := 0) (v := I ((el a i).page)) (by omega) (by kernel_rfl) (by kernel_rfl)) .nil)) (by kernel_rfl) ?_
    clear S; intro ac w β S
    refine RG.done rfl (nx_then ?_)
    refine S.cond (e := ((el a i).page != j)) (by kernel_rfl) (fun h3 => ?_) (fun h3 => ?_)
    · have g4 : ¬ ((el a i).page = j) := bne_iff_ne.1 h3
      refine wp_seq (RG.start ?_)
      refine S.quiet (k := 1) (keep := [4]) (m := 0) (σ' := ⟨[(4, .v (I (-1)))], []⟩) .nil (by kernel_rfl) ?_
      clear S; intro ac w β S
      refine RG.done rfl (nx_then (wp_ret (rt_then (rt_block (rt_then (rt_then (rt_block (rt_then ?_))))))))
      refine S.ret (vs := [I (-1)]) (by kernel_rfl) ?_
      exact ⟨retI (show (-1) = hdl a k by clear S; (first | (rw [hr, hd_end (by omega)]; done) | (rw [hr, hd_step (by omega)]; simp [he_Slot, hdi, hdb, hdc, *]; done) | (rw [hr, hd_step (by omega)]; simp_all [he_Slot, hdi, hdb, hdc]; done))), S.chg⟩
    · have g5 : (el a i).page = j := ne_f h3
      refine wp_skip (nx_then (wp_seq (RG.start ?_)))
      refine S.quiet (k := 3) (keep := [0, 1, 5]) (m := 0) (σ' := ⟨[(0, .v (slv (a).length pa.1)), (1, .v (I (IntKind.i64.wrap (j + 1)))), (5, .v (I (i : Int)))], []⟩) (.cons (Q_addw (x := j) (y := 1)) .nil) (by kernel_rfl) ?_
      clear S; intro ac w β S
      refine RG.done rfl (nx_then (wp_seq (wp_seq (RG.start ?_))))
      refine S.quiet (k := 7) (keep := [0, 1, 5, 27]) (m := 0) (σ' := ⟨[(0, .v (slv (a).length pa.1)), (1, .v (I (IntKind.i64.wrap (j + 1)))), (5, .v (I (i : Int))), (27, .v (B ((el a i).rights != (IntKind.i64.wrap (j + 1)))))], []⟩) (.cons (Q_idx (S.arg ha) (l := (a).length) (k := i) (i := (i : Int)) rfl rfl (by omega) Try.underlying37 (by kernel_rfl)) (.cons (Q_cell (S.arg ha) (t := 3) (k := i) (j := 1) (v := I ((el a i).rights)) (by omega) (by kernel_rfl) (by kernel_rfl)) .nil)) (by kernel_rfl) ?_
      clear S; intro ac w β S
      refine RG.done rfl (nx_then ?_)
      refine S.cond (e := ((el a i).rights != (IntKind.i64.wrap (j + 1)))) (by kernel_rfl) (fun h6 => ?_) (fun h6 => ?_)
      · have g7 : ¬ ((el a i).rights = (IntKind.i64.wrap (j + 1))) := bne_iff_ne.1 h6
        refine wp_seq (RG.start ?_)
        refine S.quiet (k := 1) (keep := [4]) (m := 0) (σ' := ⟨[(4, .v (I (-1)))], []⟩) .nil (by kernel_rfl) ?_
        clear S; intro ac w β S
        refine RG.done rfl (nx_then (wp_ret (rt_then (rt_block (rt_then (rt_then (rt_block (rt_then ?_))))))))
        refine S.ret (vs := [I (-1)]) (by kernel_rfl) ?_
        exact ⟨retI (show (-1) = hdl a k by clear S; (first | (rw [hr, hd_end (by omega)]; done) | (rw [hr, hd_step (by omega)]; simp [he_Slot, hdi, hdb, hdc, *]; done) | (rw [hr, hd_step (by omega)]; simp_all [he_Slot, hdi, hdb, hdc]; done))), S.chg⟩
      · have g8 : (el a i).rights = (IntKind.i64.wrap (j + 1)) := ne_f h6
        refine wp_skip (nx_then (RG.start ?_))
        refine S.quiet (k := 3) (keep := [0, 1, 5]) (m := 0) (σ' := ⟨[(0, .v (slv (a).length pa.1)), (1, .v (I (IntKind.i64.wrap ((IntKind.i64.wrap (j + 1)) + 1)))), (5, .v (I (i : Int)))], []⟩) (.cons (Q_addw (x := (IntKind.i64.wrap (j + 1))) (y := 1)) .nil) (by kernel_rfl) ?_
        clear S; intro ac w β S
        refine RG.done rfl (nx_block (nx_then (RG.start ?_)))
        refine S.quiet (k := 3) (keep := [0, 1, 5]) (m := 0) (σ' := ⟨[(0, .v (slv (a).length pa.1)), (1, .v (I (IntKind.i64.wrap ((IntKind.i64.wrap (j + 1)) + 1)))), (5, .v (I ((i : Int) + 1)))], []⟩) (.cons (Q_add (x := (i : Int)) (y := 1) ⟨by omega, by omega⟩) .nil) (by kernel_rfl) ?_
        clear S; intro ac w β S
        refine RG.done rfl (nx_then ?_)
        replace S := S.prune (keep := [0, 1, 5]) (m := 0) (σ' := ⟨[(0, .v (slv (a).length pa.1)), (1, .v (I (IntKind.i64.wrap ((IntKind.i64.wrap (j + 1)) + 1)))), (5, .v (I ((i : Int) + 1)))], []⟩) (by kernel_rfl)
        refine ⟨a.length - (i + 1), by omega, i + 1, (IntKind.i64.wrap ((IntKind.i64.wrap (j + 1)) + 1)), _, _, _, rfl, ?_, ?_, S.cast (by kernel_rfl)⟩
        · clear S; first | omega | (simp [*]; done) | (simp [*]; omega)
        · clear S; (rw [hr, hd_step (by omega)]; simp [he_Slot, hdi, hdb, hdc, *])
  · have g9 : ¬ ((i : Int) < ((a).length : Int)) := of_decide_eq_false h1
    refine wp_exit (ex_then (ex_then (ex_hit (nx_then (wp_seq (RG.start ?_))))))
    refine S.quiet (k := 2) (keep := [4]) (m := 0) (σ' := ⟨[(4, .v (I j))], []⟩) .nil (by kernel_rfl) ?_
    clear S; intro ac w β S
    refine RG.done rfl (nx_then (wp_ret ?_))
    refine S.ret (vs := [I j]) (by kernel_rfl) ?_
    exact ⟨retI (show j = hdl a k by clear S; (first | (rw [hr, hd_end (by omega)]; done) | (rw [hr, hd_step (by omega)]; simp [he_Slot, hdi, hdb, hdc, *]; done) | (rw [hr, hd_step (by omega)]; simp_all [he_Slot, hdi, hdb, hdc]; done))), S.chg⟩

end Go.Proofs.Ytpjhamcanhnfjaa
