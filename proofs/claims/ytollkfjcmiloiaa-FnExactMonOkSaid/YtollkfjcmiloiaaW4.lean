/- The walks: what each function that the laws reach computes (part 4). -/
import Derived.Test.YtollkfjcmiloiaaW3
import Derived.Test.YtollkfjcmiloiaaProg
import Derived.KernelRfl
namespace Go.Proofs.Ytollkfjcmiloiaa
open Go
set_option linter.unusedVariables false
set_option linter.unusedSimpArgs false

set_option maxRecDepth 100000 in
theorem c_laws_eqKeptS (w0 : World) (a : List TKept) (pa : LP TKept) (ha : GT.rd KK (Lt w0.heap.size) w0 a pa) (b : List TKept) (pb : LP TKept) (hb : GT.rd KK (Lt w0.heap.size) w0 b pb) : Calls Go.Proofs.Try.prog 71 [slv (a).length pa.1, slv (b).length pb.1].toArray w0 (fun e w' => e = .returned (B (decide (a = b))) ∧ Chg NoB w0 w') := by
  refine Calls.walk (args := [slv (a).length pa.1, slv (b).length pb.1]) NoB Go.Proofs.Try.func71 rfl rfl ?_
  intro ac β S
  have hlea : a.length ≤ 4194304 := LRd.le ha
  have hleb : b.length ≤ 4194304 := LRd.le hb
  refine wp_seq ?_
  refine RG.start ?_
  refine S.quiet (k := 1) (keep := [0, 1]) (m := 0) (σ' := ⟨[(0, .v (slv (a).length pa.1)), (1, .v (slv (b).length pb.1))], []⟩) .nil (by kernel_rfl) ?_
  clear S; intro ac w β S
  refine RG.done rfl (nx_then ?_)
  refine wp_seq ?_
  refine wp_seq ?_
  refine RG.start ?_
  refine S.quiet (k := 5) (keep := [0, 1, 10]) (m := 0) (σ' := ⟨[(0, .v (slv (a).length pa.1)), (1, .v (slv (b).length pb.1)), (10, .v (B (((a).length : Int) != ((b).length : Int))))], []⟩) .nil (by kernel_rfl) ?_
  clear S; intro ac w β S
  refine RG.done rfl (nx_then ?_)
  refine S.cond (e := (((a).length : Int) != ((b).length : Int))) (by kernel_rfl) (fun h1 => ?_) (fun h1 => ?_)
  · have g2 : ¬ (((a).length : Int) = ((b).length : Int)) := bne_iff_ne.1 h1
    refine wp_seq ?_
    refine RG.start ?_
    refine S.quiet (k := 1) (keep := [4]) (m := 0) (σ' := ⟨[(4, .v (B false))], []⟩) .nil (by kernel_rfl) ?_
    clear S; intro ac w β S
    refine RG.done rfl (nx_then ?_)
    refine wp_ret (rt_then ?_)
    refine S.ret (vs := [B false]) (by kernel_rfl) ?_
    exact ⟨retB (show false = decide (a = b) by clear S; first | (simp; intro e; subst e; simp_all; done) | (simp; rw [take_all (by omega), take_all (by omega)] at he; exact he) | (simp; exact take_ne (by simp_all))), S.chg⟩
  · have g3 : ((a).length : Int) = ((b).length : Int) := ne_f h1
    refine wp_skip (nx_then ?_)
    refine wp_seq ?_
    refine wp_seq ?_
    refine RG.start ?_
    refine S.quiet (k := 1) (keep := [0, 1, 5]) (m := 0) (σ' := ⟨[(0, .v (slv (a).length pa.1)), (1, .v (slv (b).length pb.1)), (5, .v (I 0))], []⟩) .nil (by kernel_rfl) ?_
    clear S; intro ac w β S
    refine RG.done rfl (nx_then ?_)
    refine wp_block ?_
    replace S := S.prune (keep := [0, 1, 5]) (m := 0) (σ' := ⟨[(0, .v (slv (a).length pa.1)), (1, .v (slv (b).length pb.1)), (5, .v (I 0))], []⟩) (by kernel_rfl)
    refine wp_loop_down (fun mm ac w => ∃ (k : Nat)  (u : World) (N : Bl) (β : Nat → Nat), mm = a.length - k ∧ (k ≤ a.length) ∧ (a.length = b.length) ∧ (a.take k = b.take k) ∧ St Go.Proofs.Try.prog Go.Proofs.Try.f71.ntmps w0 NoB u N β ⟨[(0, .v (slv (a).length pa.1)), (1, .v (slv (b).length pb.1)), (5, .v (I (k : Int)))], []⟩ ac w) _ ⟨0, _, _, _, rfl, (by first | omega | (simp; done) | (simp; omega)), (by first | omega | (simp; done) | (simp; omega)), (by simp), S.cast (by kernel_rfl)⟩ ?_
    clear S
    rintro mm ac w ⟨k, u, N, β, rfl, hk, hab, he, S⟩
    refine wp_seq ?_
    refine wp_seq ?_
    refine RG.start ?_
    refine S.quiet (k := 4) (keep := [0, 1, 5, 14]) (m := 0) (σ' := ⟨[(0, .v (slv (a).length pa.1)), (1, .v (slv (b).length pb.1)), (5, .v (I (k : Int))), (14, .v (B (decide ((k : Int) < ((a).length : Int)))))], []⟩) .nil (by kernel_rfl) ?_
    clear S; intro ac w β S
    refine RG.done rfl (nx_then ?_)
    refine S.cond (e := (decide ((k : Int) < ((a).length : Int)))) (by kernel_rfl) (fun h4 => ?_) (fun h4 => ?_)
    · have g5 : (k : Int) < ((a).length : Int) := of_decide_eq_true h4
      refine wp_skip (nx_then ?_)
      refine wp_seq ?_
      refine wp_block ?_
      refine wp_seq ?_
      refine S.drawn (keep := [0, 1, 5, 26]) (m := 0) (σ' := ⟨[(0, .v (slv (a).length pa.1)), (1, .v (slv (b).length pb.1)), (5, .v (I (k : Int))), (26, .v (B (!(decide ((el a k) = (el b k))))))], []⟩) (.cons (Q_idx (S.arg ha) (l := (a).length) (k := k) (i := (k : Int)) rfl rfl (by omega) Go.Proofs.Try.underlying50 (by kernel_rfl)) (.cons (Q_el (S.arg ha) (t := 74) (k := k) (by omega) rfl (by kernel_rfl) (by kernel_rfl)) (.cons (Q_idx (S.arg hb) (l := (b).length) (k := k) (i := (k : Int)) rfl rfl (by omega) Go.Proofs.Try.underlying50 (by kernel_rfl)) (.cons (Q_el (S.arg hb) (t := 74) (k := k) (by omega) rfl (by kernel_rfl) (by kernel_rfl)) (.cons (Q_call fun w hw => c_laws_eqKept w (el a k) (pa.2 k) (rd_of (LRd.el (S.arg ha) k (by omega)) hw) (el b k) (pb.2 k) (rd_of (LRd.el (S.arg hb) k (by omega)) hw)) .nil))))) rfl (by kernel_rfl) (by kernel_rfl) ?_
      clear S; intro ac w S
      refine id (nx_then ?_)
      refine S.cond (e := (!(decide ((el a k) = (el b k))))) (by kernel_rfl) (fun h6 => ?_) (fun h6 => ?_)
      · have h7 : (decide ((el a k) = (el b k))) = false := not_t h6
        have g8 := of_decide_eq_false h7
        refine wp_seq ?_
        refine RG.start ?_
        refine S.quiet (k := 1) (keep := [4]) (m := 0) (σ' := ⟨[(4, .v (B false))], []⟩) .nil (by kernel_rfl) ?_
        clear S; intro ac w β S
        refine RG.done rfl (nx_then ?_)
        refine wp_ret (rt_block (rt_then (rt_then (rt_block (rt_then ?_)))))
        refine S.ret (vs := [B false]) (by kernel_rfl) ?_
        exact ⟨retB (show false = decide (a = b) by clear S; first | (simp; intro e; subst e; simp_all; done) | (simp; rw [take_all (by omega), take_all (by omega)] at he; exact he) | (simp; exact take_ne (by simp_all))), S.chg⟩
      · have h9 : (decide ((el a k) = (el b k))) = true := not_f h6
        have g10 := of_decide_eq_true h9
        refine wp_skip (nx_block (nx_then ?_))
        refine RG.start ?_
        refine S.quiet (k := 3) (keep := [0, 1, 5]) (m := 0) (σ' := ⟨[(0, .v (slv (a).length pa.1)), (1, .v (slv (b).length pb.1)), (5, .v (I ((k : Int) + 1)))], []⟩) (.cons (Q_add (x := (k : Int)) (y := 1) ⟨by omega, by omega⟩) .nil) (by kernel_rfl) ?_
        clear S; intro ac w β S
        refine RG.done rfl (nx_then ?_)
        replace S := S.prune (keep := [0, 1, 5]) (m := 0) (σ' := ⟨[(0, .v (slv (a).length pa.1)), (1, .v (slv (b).length pb.1)), (5, .v (I ((k : Int) + 1)))], []⟩) (by kernel_rfl)
        refine ⟨a.length - (k + 1), by omega, k + 1, _, _, _, rfl, ?_, ?_, ?_, S.cast (by kernel_rfl)⟩
        · clear S; first | omega | (simp [*]; done) | (simp [*]; omega)
        · clear S; first | omega | (simp [*]; done) | (simp [*]; omega)
        · clear S; exact take_eq_step (by omega) (by omega) he (by simp_all)
    · have g11 : ¬ ((k : Int) < ((a).length : Int)) := of_decide_eq_false h4
      refine wp_exit (ex_then (ex_then (ex_hit (nx_then ?_))))
      refine wp_seq ?_
      refine RG.start ?_
      refine S.quiet (k := 1) (keep := [4]) (m := 0) (σ' := ⟨[(4, .v (B true))], []⟩) .nil (by kernel_rfl) ?_
      clear S; intro ac w β S
      refine RG.done rfl (nx_then ?_)
      refine wp_ret ?_
      refine S.ret (vs := [B true]) (by kernel_rfl) ?_
      exact ⟨retB (show true = decide (a = b) by clear S; first | (simp; intro e; subst e; simp_all; done) | (simp; rw [take_all (by omega), take_all (by omega)] at he; exact he) | (simp; exact take_ne (by simp_all))), S.chg⟩

set_option maxRecDepth 100000 in
theorem c_laws_eqMon (w0 : World) (a : TMon) (pa : PMon) (ha : GT.rd KK (Lt w0.heap.size) w0 a pa) (b : TMon) (pb : PMon) (hb : GT.rd KK (Lt w0.heap.size) w0 b pb) : Calls Go.Proofs.Try.prog 20 [GT.val (α := TMon) a pa, GT.val (α := TMon) b pb].toArray w0 (fun e w' => e = .returned (B (decide (a = b))) ∧ Chg NoB w0 w') := by
  refine Calls.walk (args := [GT.val (α := TMon) a pa, GT.val (α := TMon) b pb]) NoB Go.Proofs.Try.func20 rfl rfl ?_
  intro ac β S
  have hlea_outer : a.outer.length ≤ 4194304 := LRd.le (RMon.outer (d := a) ha)
  have hlea_out : a.out.length ≤ 4194304 := LRd.le (RMon.out (d := a) ha)
  have hlea_dirty : a.dirty.length ≤ 4194304 := LRd.le (RMon.dirty (d := a) ha)
  have hlea_guests : a.guests.length ≤ 4194304 := LRd.le (RMon.guests (d := a) ha)
  have hlea_outs : a.outs.length ≤ 4194304 := LRd.le (RMon.outs (d := a) ha)
  have hlea_tables : a.tables.length ≤ 4194304 := LRd.le (RMon.tables (d := a) ha)
  have hleb_outer : b.outer.length ≤ 4194304 := LRd.le (RMon.outer (d := b) hb)
  have hleb_out : b.out.length ≤ 4194304 := LRd.le (RMon.out (d := b) hb)
  have hleb_dirty : b.dirty.length ≤ 4194304 := LRd.le (RMon.dirty (d := b) hb)
  have hleb_guests : b.guests.length ≤ 4194304 := LRd.le (RMon.guests (d := b) hb)
  have hleb_outs : b.outs.length ≤ 4194304 := LRd.le (RMon.outs (d := b) hb)
  have hleb_tables : b.tables.length ≤ 4194304 := LRd.le (RMon.tables (d := b) hb)
  refine wp_seq ?_
  refine RG.start ?_
  refine S.quiet (k := 3) (keep := [2, 3]) (m := 2) (σ' := ⟨[(2, .p 0 0), (3, .p 1 0)], [GT.cells (α := TMon) a pa, GT.cells (α := TMon) b pb]⟩) .nil (by kernel_rfl) ?_
  clear S; intro ac w β S
  refine RG.done rfl (nx_then ?_)
  refine wp_seq ?_
  refine wp_seq ?_
  refine RG.start ?_
  refine S.quiet (k := 6) (keep := [2, 3, 10]) (m := 2) (σ' := ⟨[(2, .p 0 0), (3, .p 1 0), (10, .v (B (!(decide (a.outer = b.outer)))))], [GT.cells (α := TMon) a pa, GT.cells (α := TMon) b pb]⟩) (.cons (Q_call fun w hw => c_laws_eqSlotS w a.outer pa.outer (rd_of (RMon.outer (d := a) (S.arg ha)) hw) b.outer pb.outer (rd_of (RMon.outer (d := b) (S.arg hb)) hw)) .nil) (by kernel_rfl) ?_
  clear S; intro ac w β S
  refine RG.done rfl (nx_then ?_)
  refine S.cond (e := (!(decide (a.outer = b.outer)))) (by kernel_rfl) (fun h1 => ?_) (fun h1 => ?_)
  · have h2 : (decide (a.outer = b.outer)) = false := not_t h1
    have g3 := of_decide_eq_false h2
    refine wp_seq ?_
    refine RG.start ?_
    refine S.quiet (k := 1) (keep := [4]) (m := 0) (σ' := ⟨[(4, .v (B false))], []⟩) .nil (by kernel_rfl) ?_
    clear S; intro ac w β S
    refine RG.done rfl (nx_then ?_)
    refine wp_ret (rt_then ?_)
    refine S.ret (vs := [B false]) (by kernel_rfl) ?_
    exact ⟨retB (show false = decide (a = b) by clear S; first | (simp [TMon.ext_iff, *]; done) | (simp_all [TMon.ext_iff]; done)), S.chg⟩
  · have h4 : (decide (a.outer = b.outer)) = true := not_f h1
    have g5 := of_decide_eq_true h4
    refine wp_skip (nx_then ?_)
    refine wp_seq ?_
    refine wp_seq ?_
    refine RG.start ?_
    refine S.quiet (k := 6) (keep := [2, 3, 16]) (m := 2) (σ' := ⟨[(2, .p 0 0), (3, .p 1 0), (16, .v (B (!(decide (a.out = b.out)))))], [GT.cells (α := TMon) a pa, GT.cells (α := TMon) b pb]⟩) (.cons (Q_call fun w hw => c_laws_eqIntSS w a.out pa.out (rd_of (RMon.out (d := a) (S.arg ha)) hw) b.out pb.out (rd_of (RMon.out (d := b) (S.arg hb)) hw)) .nil) (by kernel_rfl) ?_
    clear S; intro ac w β S
    refine RG.done rfl (nx_then ?_)
    refine S.cond (e := (!(decide (a.out = b.out)))) (by kernel_rfl) (fun h6 => ?_) (fun h6 => ?_)
    · have h7 : (decide (a.out = b.out)) = false := not_t h6
      have g8 := of_decide_eq_false h7
      refine wp_seq ?_
      refine RG.start ?_
      refine S.quiet (k := 1) (keep := [4]) (m := 0) (σ' := ⟨[(4, .v (B false))], []⟩) .nil (by kernel_rfl) ?_
      clear S; intro ac w β S
      refine RG.done rfl (nx_then ?_)
      refine wp_ret (rt_then ?_)
      refine S.ret (vs := [B false]) (by kernel_rfl) ?_
      exact ⟨retB (show false = decide (a = b) by clear S; first | (simp [TMon.ext_iff, *]; done) | (simp_all [TMon.ext_iff]; done)), S.chg⟩
    · have h9 : (decide (a.out = b.out)) = true := not_f h6
      have g10 := of_decide_eq_true h9
      refine wp_skip (nx_then ?_)
      refine wp_seq ?_
      refine wp_seq ?_
      refine RG.start ?_
      refine S.quiet (k := 6) (keep := [2, 3, 22]) (m := 2) (σ' := ⟨[(2, .p 0 0), (3, .p 1 0), (22, .v (B (!(decide (a.dirty = b.dirty)))))], [GT.cells (α := TMon) a pa, GT.cells (α := TMon) b pb]⟩) (.cons (Q_call fun w hw => c_laws_eqBoolS w a.dirty pa.dirty (rd_of (RMon.dirty (d := a) (S.arg ha)) hw) b.dirty pb.dirty (rd_of (RMon.dirty (d := b) (S.arg hb)) hw)) .nil) (by kernel_rfl) ?_
      clear S; intro ac w β S
      refine RG.done rfl (nx_then ?_)
      refine S.cond (e := (!(decide (a.dirty = b.dirty)))) (by kernel_rfl) (fun h11 => ?_) (fun h11 => ?_)
      · have h12 : (decide (a.dirty = b.dirty)) = false := not_t h11
        have g13 := of_decide_eq_false h12
        refine wp_seq ?_
        refine RG.start ?_
        refine S.quiet (k := 1) (keep := [4]) (m := 0) (σ' := ⟨[(4, .v (B false))], []⟩) .nil (by kernel_rfl) ?_
        clear S; intro ac w β S
        refine RG.done rfl (nx_then ?_)
        refine wp_ret (rt_then ?_)
        refine S.ret (vs := [B false]) (by kernel_rfl) ?_
        exact ⟨retB (show false = decide (a = b) by clear S; first | (simp [TMon.ext_iff, *]; done) | (simp_all [TMon.ext_iff]; done)), S.chg⟩
      · have h14 : (decide (a.dirty = b.dirty)) = true := not_f h11
        have g15 := of_decide_eq_true h14
        refine wp_skip (nx_then ?_)
        refine wp_seq ?_
        refine wp_seq ?_
        refine RG.start ?_
        refine S.quiet (k := 6) (keep := [2, 3, 28]) (m := 2) (σ' := ⟨[(2, .p 0 0), (3, .p 1 0), (28, .v (B (!(decide (a.guests = b.guests)))))], [GT.cells (α := TMon) a pa, GT.cells (α := TMon) b pb]⟩) (.cons (Q_call fun w hw => c_laws_eqGuestS w a.guests pa.guests (rd_of (RMon.guests (d := a) (S.arg ha)) hw) b.guests pb.guests (rd_of (RMon.guests (d := b) (S.arg hb)) hw)) .nil) (by kernel_rfl) ?_
        clear S; intro ac w β S
        refine RG.done rfl (nx_then ?_)
        refine S.cond (e := (!(decide (a.guests = b.guests)))) (by kernel_rfl) (fun h16 => ?_) (fun h16 => ?_)
        · have h17 : (decide (a.guests = b.guests)) = false := not_t h16
          have g18 := of_decide_eq_false h17
          refine wp_seq ?_
          refine RG.start ?_
          refine S.quiet (k := 1) (keep := [4]) (m := 0) (σ' := ⟨[(4, .v (B false))], []⟩) .nil (by kernel_rfl) ?_
          clear S; intro ac w β S
          refine RG.done rfl (nx_then ?_)
          refine wp_ret (rt_then ?_)
          refine S.ret (vs := [B false]) (by kernel_rfl) ?_
          exact ⟨retB (show false = decide (a = b) by clear S; first | (simp [TMon.ext_iff, *]; done) | (simp_all [TMon.ext_iff]; done)), S.chg⟩
        · have h19 : (decide (a.guests = b.guests)) = true := not_f h16
          have g20 := of_decide_eq_true h19
          refine wp_skip (nx_then ?_)
          refine wp_seq ?_
          refine wp_seq ?_
          refine RG.start ?_
          refine S.quiet (k := 6) (keep := [2, 3, 34]) (m := 2) (σ' := ⟨[(2, .p 0 0), (3, .p 1 0), (34, .v (B (!(decide (a.outs = b.outs)))))], [GT.cells (α := TMon) a pa, GT.cells (α := TMon) b pb]⟩) (.cons (Q_call fun w hw => c_laws_eqIntS w a.outs pa.outs (rd_of (RMon.outs (d := a) (S.arg ha)) hw) b.outs pb.outs (rd_of (RMon.outs (d := b) (S.arg hb)) hw)) .nil) (by kernel_rfl) ?_
          clear S; intro ac w β S
          refine RG.done rfl (nx_then ?_)
          refine S.cond (e := (!(decide (a.outs = b.outs)))) (by kernel_rfl) (fun h21 => ?_) (fun h21 => ?_)
          · have h22 : (decide (a.outs = b.outs)) = false := not_t h21
            have g23 := of_decide_eq_false h22
            refine wp_seq ?_
            refine RG.start ?_
            refine S.quiet (k := 1) (keep := [4]) (m := 0) (σ' := ⟨[(4, .v (B false))], []⟩) .nil (by kernel_rfl) ?_
            clear S; intro ac w β S
            refine RG.done rfl (nx_then ?_)
            refine wp_ret (rt_then ?_)
            refine S.ret (vs := [B false]) (by kernel_rfl) ?_
            exact ⟨retB (show false = decide (a = b) by clear S; first | (simp [TMon.ext_iff, *]; done) | (simp_all [TMon.ext_iff]; done)), S.chg⟩
          · have h24 : (decide (a.outs = b.outs)) = true := not_f h21
            have g25 := of_decide_eq_true h24
            refine wp_skip (nx_then ?_)
            refine wp_seq ?_
            refine wp_seq ?_
            refine RG.start ?_
            refine S.quiet (k := 5) (keep := [2, 3, 39]) (m := 2) (σ' := ⟨[(2, .p 0 0), (3, .p 1 0), (39, .v (B (a.pend != b.pend)))], [GT.cells (α := TMon) a pa, GT.cells (α := TMon) b pb]⟩) .nil (by kernel_rfl) ?_
            clear S; intro ac w β S
            refine RG.done rfl (nx_then ?_)
            refine S.cond (e := (a.pend != b.pend)) (by kernel_rfl) (fun h26 => ?_) (fun h26 => ?_)
            · have g27 : ¬ (a.pend = b.pend) := bne_iff_ne.1 h26
              refine wp_seq ?_
              refine RG.start ?_
              refine S.quiet (k := 1) (keep := [4]) (m := 0) (σ' := ⟨[(4, .v (B false))], []⟩) .nil (by kernel_rfl) ?_
              clear S; intro ac w β S
              refine RG.done rfl (nx_then ?_)
              refine wp_ret (rt_then ?_)
              refine S.ret (vs := [B false]) (by kernel_rfl) ?_
              exact ⟨retB (show false = decide (a = b) by clear S; first | (simp [TMon.ext_iff, *]; done) | (simp_all [TMon.ext_iff]; done)), S.chg⟩
            · have g28 : a.pend = b.pend := ne_f h26
              refine wp_skip (nx_then ?_)
              refine wp_seq ?_
              refine wp_seq ?_
              refine RG.start ?_
              refine S.quiet (k := 5) (keep := [2, 3, 44]) (m := 2) (σ' := ⟨[(2, .p 0 0), (3, .p 1 0), (44, .v (B (a.traps != b.traps)))], [GT.cells (α := TMon) a pa, GT.cells (α := TMon) b pb]⟩) .nil (by kernel_rfl) ?_
              clear S; intro ac w β S
              refine RG.done rfl (nx_then ?_)
              refine S.cond (e := (a.traps != b.traps)) (by kernel_rfl) (fun h29 => ?_) (fun h29 => ?_)
              · have g30 : ¬ (a.traps = b.traps) := bne_iff_ne.1 h29
                refine wp_seq ?_
                refine RG.start ?_
                refine S.quiet (k := 1) (keep := [4]) (m := 0) (σ' := ⟨[(4, .v (B false))], []⟩) .nil (by kernel_rfl) ?_
                clear S; intro ac w β S
                refine RG.done rfl (nx_then ?_)
                refine wp_ret (rt_then ?_)
                refine S.ret (vs := [B false]) (by kernel_rfl) ?_
                exact ⟨retB (show false = decide (a = b) by clear S; first | (simp [TMon.ext_iff, *]; done) | (simp_all [TMon.ext_iff]; done)), S.chg⟩
              · have g31 : a.traps = b.traps := ne_f h29
                refine wp_skip (nx_then ?_)
                refine wp_seq ?_
                refine wp_seq ?_
                refine RG.start ?_
                refine S.quiet (k := 6) (keep := [2, 3, 50]) (m := 2) (σ' := ⟨[(2, .p 0 0), (3, .p 1 0), (50, .v (B (!(decide (a.tables = b.tables)))))], [GT.cells (α := TMon) a pa, GT.cells (α := TMon) b pb]⟩) (.cons (Q_call fun w hw => c_laws_eqKeptS w a.tables pa.tables (rd_of (RMon.tables (d := a) (S.arg ha)) hw) b.tables pb.tables (rd_of (RMon.tables (d := b) (S.arg hb)) hw)) .nil) (by kernel_rfl) ?_
                clear S; intro ac w β S
                refine RG.done rfl (nx_then ?_)
                refine S.cond (e := (!(decide (a.tables = b.tables)))) (by kernel_rfl) (fun h32 => ?_) (fun h32 => ?_)
                · have h33 : (decide (a.tables = b.tables)) = false := not_t h32
                  have g34 := of_decide_eq_false h33
                  refine wp_seq ?_
                  refine RG.start ?_
                  refine S.quiet (k := 1) (keep := [4]) (m := 0) (σ' := ⟨[(4, .v (B false))], []⟩) .nil (by kernel_rfl) ?_
                  clear S; intro ac w β S
                  refine RG.done rfl (nx_then ?_)
                  refine wp_ret (rt_then ?_)
                  refine S.ret (vs := [B false]) (by kernel_rfl) ?_
                  exact ⟨retB (show false = decide (a = b) by clear S; first | (simp [TMon.ext_iff, *]; done) | (simp_all [TMon.ext_iff]; done)), S.chg⟩
                · have h35 : (decide (a.tables = b.tables)) = true := not_f h32
                  have g36 := of_decide_eq_true h35
                  refine wp_skip (nx_then ?_)
                  refine wp_seq ?_
                  refine wp_seq ?_
                  refine RG.start ?_
                  refine S.quiet (k := 5) (keep := [55]) (m := 0) (σ' := ⟨[(55, .v (B (a.owned != b.owned)))], []⟩) .nil (by kernel_rfl) ?_
                  clear S; intro ac w β S
                  refine RG.done rfl (nx_then ?_)
                  refine S.cond (e := (a.owned != b.owned)) (by kernel_rfl) (fun h37 => ?_) (fun h37 => ?_)
                  · have g38 : ¬ (a.owned = b.owned) := bne_iff_ne.1 h37
                    refine wp_seq ?_
                    refine RG.start ?_
                    refine S.quiet (k := 1) (keep := [4]) (m := 0) (σ' := ⟨[(4, .v (B false))], []⟩) .nil (by kernel_rfl) ?_
                    clear S; intro ac w β S
                    refine RG.done rfl (nx_then ?_)
                    refine wp_ret (rt_then ?_)
                    refine S.ret (vs := [B false]) (by kernel_rfl) ?_
                    exact ⟨retB (show false = decide (a = b) by clear S; first | (simp [TMon.ext_iff, *]; done) | (simp_all [TMon.ext_iff]; done)), S.chg⟩
                  · have g39 : a.owned = b.owned := ne_f h37
                    refine wp_skip (nx_then ?_)
                    refine wp_seq ?_
                    refine RG.start ?_
                    refine S.quiet (k := 1) (keep := [4]) (m := 0) (σ' := ⟨[(4, .v (B true))], []⟩) .nil (by kernel_rfl) ?_
                    clear S; intro ac w β S
                    refine RG.done rfl (nx_then ?_)
                    refine wp_ret ?_
                    refine S.ret (vs := [B true]) (by kernel_rfl) ?_
                    exact ⟨retB (show true = decide (a = b) by clear S; first | (simp [TMon.ext_iff, *]; done) | (simp_all [TMon.ext_iff]; done)), S.chg⟩

set_option maxRecDepth 100000 in
theorem c_laws_FnExactMonOk (w0 : World) (aM : TMon) (paM : PMon) (haM : GT.rd KR (Lt w0.heap.size) w0 aM paM) : Calls Go.Proofs.Try.prog 5 [GT.val (α := TMon) aM paM].toArray w0 (fun e w' => e = .returned (B true) ∧ Chg NoB w0 w') := by
  refine Calls.walk (args := [GT.val (α := TMon) aM paM]) NoB Go.Proofs.Try.func5 rfl rfl ?_
  intro ac β S
  refine wp_seq ?_
  refine RG.start ?_
  refine S.quiet (k := 2) (keep := [1]) (m := 1) (σ' := ⟨[(1, .p 0 0)], [GT.cells (α := TMon) aM paM]⟩) .nil (by kernel_rfl) ?_
  clear S; intro ac w β S
  refine RG.done rfl (nx_then ?_)
  refine wp_seq ?_
  refine RG.start ?_
  refine S.quiet (k := 1) (keep := [1, 3]) (m := 1) (σ' := ⟨[(1, .p 0 0), (3, .v (I 1048576))], [GT.cells (α := TMon) aM paM]⟩) .nil (by kernel_rfl) ?_
  clear S; intro ac w β S
  refine RG.done rfl (nx_then ?_)
  refine wp_seq ?_
  refine RG.start ?_
  have b1 := f_sz_cs (SZ.sz aM) 1048576
  refine S.quiet (k := 4) (keep := [1, 3]) (m := 1) (σ' := ⟨[(1, .p 0 0), (3, .v (I (f_sz (SZ.sz aM) 1048576)))], [GT.cells (α := TMon) aM paM]⟩) (.cons (Q_call fun w hw => c_laws_szMon w aM paM (rd_of (S.arg haM) hw) 1048576 (by omega) (by omega)) .nil) (by kernel_rfl) ?_
  clear S; intro ac w β S
  refine RG.done rfl (nx_then ?_)
  refine wp_seq ?_
  refine wp_seq ?_
  refine RG.start ?_
  refine S.quiet (k := 2) (keep := [1, 11]) (m := 1) (σ' := ⟨[(1, .p 0 0), (11, .v (B (decide ((f_sz (SZ.sz aM) 1048576) < 0))))], [GT.cells (α := TMon) aM paM]⟩) .nil (by kernel_rfl) ?_
  clear S; intro ac w β S
  refine RG.done rfl (nx_then ?_)
  refine S.cond (e := (decide ((f_sz (SZ.sz aM) 1048576) < 0))) (by kernel_rfl) (fun h2 => ?_) (fun h2 => ?_)
  · have g3 : (f_sz (SZ.sz aM) 1048576) < 0 := of_decide_eq_true h2
    refine wp_seq ?_
    refine RG.start ?_
    refine S.quiet (k := 1) (keep := [2]) (m := 0) (σ' := ⟨[(2, .v (B true))], []⟩) .nil (by kernel_rfl) ?_
    clear S; intro ac w β S
    refine RG.done rfl (nx_then ?_)
    refine wp_ret (rt_then ?_)
    refine S.ret (vs := [B true]) (by kernel_rfl) ?_
    exact ⟨retB (show true = true by clear S; first | rfl | (exfalso; omega) | (exfalso; simp_all; done) | (exfalso; simp_all; omega)), S.chg⟩
  · have g4 : ¬ ((f_sz (SZ.sz aM) 1048576) < 0) := of_decide_eq_false h2
    have hkaM : GT.rd KK (Lt w0.heap.size) w0 aM paM := SZ.cut haM (show SZ.sz aM ≤ 4194304 by omega)
    have hcaM : SZ.sz aM ≤ 1048576 := by omega
    refine wp_skip (nx_then ?_)
    refine wp_seq ?_
    refine RG.start ?_
    refine S.quiet (k := 1) (keep := [1, 12]) (m := 1) (σ' := ⟨[(1, .p 0 0), (12, .v (GT.val (α := TMon) aM paM))], [GT.cells (α := TMon) aM paM]⟩) .nil (by kernel_rfl) ?_
    clear S; intro ac w β S
    refine RG.op rfl (S.call1 (r := aM) (d := 13) (c_laws_toMon w aM paM (S.rd (S.arg hkaM))) (by kernel_rfl) rfl ?_)
    clear S; intro ac w N q5 F6 S up o7 d8
    clear up d8
    have i24 : In64 aM.pend := RMon.pend (d := aM) o7.rn
    have i25 : In64 aM.traps := RMon.traps (d := aM) o7.rn
    have i29 : In64 aM.owned := RMon.owned (d := aM) o7.rn
    obtain ⟨F9, F12, F15, F18, F21, F26, o10, o13, o16, o19, o22, o27, s11, s14, s17, s20, s23, s28, d30, d31, d32, d33, d34, d35, d36, d37, d38, d39, d40, d41, d42, d43, d44⟩ := sp_Mon o7
    refine S.quiet (k := 2) (keep := [1, 4]) (m := 1) (σ' := ⟨[(1, .p 0 0), (4, .v (B (f_monOk aM)))], [GT.cells (α := TMon) aM paM]⟩) (.cons (Q_call fun w hw => c_spec_MonOk w aM q5 (rd_of (show GT.rd KK _ _ aM q5 from ⟨o10.rn, o13.rn, o16.rn, o19.rn, o22.rn, i24, i25, o27.rn, i29⟩) hw)) .nil) (by kernel_rfl) ?_
    clear S; intro ac w β S
    refine RG.done rfl (nx_then ?_)
    refine wp_seq ?_
    refine RG.start ?_
    refine S.quiet (k := 1) (keep := [1, 4, 15]) (m := 1) (σ' := ⟨[(1, .p 0 0), (4, .v (B (f_monOk aM))), (15, .v (GT.val (α := TMon) aM paM))], [GT.cells (α := TMon) aM paM]⟩) .nil (by kernel_rfl) ?_
    clear S; intro ac w β S
    refine RG.op rfl (S.call1 (r := aM) (d := 16) (c_laws_toMon w aM paM (S.rd (S.arg hkaM))) (by kernel_rfl) rfl ?_)
    clear S; intro ac w N q45 F46 S up o47 d48
    clear up d48
    have i64 : In64 aM.pend := RMon.pend (d := aM) o47.rn
    have i65 : In64 aM.traps := RMon.traps (d := aM) o47.rn
    have i69 : In64 aM.owned := RMon.owned (d := aM) o47.rn
    obtain ⟨F49, F52, F55, F58, F61, F66, o50, o53, o56, o59, o62, o67, s51, s54, s57, s60, s63, s68, d70, d71, d72, d73, d74, d75, d76, d77, d78, d79, d80, d81, d82, d83, d84⟩ := sp_Mon o47
    refine S.quiet (k := 2) (keep := [1, 4, 5]) (m := 2) (σ' := ⟨[(1, .p 0 0), (4, .v (B (f_monOk aM))), (5, .p 1 0)], [GT.cells (α := TMon) aM paM, [slv (aM.outer).length q45.outer.1, slv (aM.out).length q45.out.1, slv (aM.dirty).length q45.dirty.1, slv (aM.guests).length q45.guests.1, slv (aM.outs).length q45.outs.1, I aM.pend, I aM.traps, slv (aM.tables).length q45.tables.1, I aM.owned]]⟩) .nil (by kernel_rfl) ?_
    clear S; intro ac w β S
    refine RG.done rfl (nx_then ?_)
    refine wp_seq ?_
    refine RG.start ?_
    refine S.quiet (k := 3) (keep := [1, 4, 5, 6]) (m := 2) (σ' := ⟨[(1, .p 0 0), (4, .v (B (f_monOk aM))), (5, .p 1 0), (6, .v (B (f_monOk aM)))], [GT.cells (α := TMon) aM paM, [slv (aM.outer).length q45.outer.1, slv (aM.out).length q45.out.1, slv (aM.dirty).length q45.dirty.1, slv (aM.guests).length q45.guests.1, slv (aM.outs).length q45.outs.1, I aM.pend, I aM.traps, slv (aM.tables).length q45.tables.1, I aM.owned]]⟩) (.cons (Q_call fun w hw => c_impl_MonOk w aM q45 (rd_of (show GT.rd KK _ _ aM q45 from ⟨o50.rn, o53.rn, o56.rn, o59.rn, o62.rn, i64, i65, o67.rn, i69⟩) hw)) .nil) (by kernel_rfl) ?_
    clear S; intro ac w β S
    refine RG.done rfl (nx_then ?_)
    refine wp_seq ?_
    refine wp_seq ?_
    refine RG.start ?_
    refine S.quiet (k := 3) (keep := [1, 5, 21]) (m := 2) (σ' := ⟨[(1, .p 0 0), (5, .p 1 0), (21, .v (B (!((f_monOk aM) == (f_monOk aM)))))], [GT.cells (α := TMon) aM paM, [slv (aM.outer).length q45.outer.1, slv (aM.out).length q45.out.1, slv (aM.dirty).length q45.dirty.1, slv (aM.guests).length q45.guests.1, slv (aM.outs).length q45.outs.1, I aM.pend, I aM.traps, slv (aM.tables).length q45.tables.1, I aM.owned]]⟩) .nil (by kernel_rfl) ?_
    clear S; intro ac w β S
    refine RG.done rfl (nx_then ?_)
    refine S.cond (e := (!((f_monOk aM) == (f_monOk aM)))) (by kernel_rfl) (fun h85 => ?_) (fun h85 => ?_)
    · have h86 : ((f_monOk aM) == (f_monOk aM)) = false := not_t h85
      refine wp_seq ?_
      refine RG.start ?_
      refine S.quiet (k := 1) (keep := [2]) (m := 0) (σ' := ⟨[(2, .v (B false))], []⟩) .nil (by kernel_rfl) ?_
      clear S; intro ac w β S
      refine RG.done rfl (nx_then ?_)
      refine wp_ret (rt_then ?_)
      refine S.ret (vs := [B false]) (by kernel_rfl) ?_
      exact ⟨retB (show false = true by clear S; first | rfl | (exfalso; omega) | (exfalso; simp_all; done) | (exfalso; simp_all; omega)), S.chg⟩
    · have h87 : ((f_monOk aM) == (f_monOk aM)) = true := not_f h85
      refine wp_skip (nx_then ?_)
      refine wp_seq ?_
      refine wp_seq ?_
      refine S.draw0 (f := 5) 5 rfl rfl ?_
      clear S; intro w S
      refine S.hoist (i := 0) (path := []) (keep := [1, 22]) (m := 2) (σ' := ⟨[(1, .p 0 0), (22, .v (GT.val (α := TMon) aM q45))], [GT.cells (α := TMon) aM paM, [slv (aM.outer).length q45.outer.1, slv (aM.out).length q45.out.1, slv (aM.dirty).length q45.dirty.1, slv (aM.guests).length q45.guests.1, slv (aM.outs).length q45.outs.1, I aM.pend, I aM.traps, slv (aM.tables).length q45.tables.1, I aM.owned]]⟩) (by kernel_rfl) (by kernel_rfl) .nil (by kernel_rfl) ?_
      clear S; intro ac S
      refine S.hoist (i := 1) (path := []) (keep := [22, 23]) (m := 2) (σ' := ⟨[(22, .v (GT.val (α := TMon) aM q45)), (23, .v (GT.val (α := TMon) aM paM))], [GT.cells (α := TMon) aM paM, [slv (aM.outer).length q45.outer.1, slv (aM.out).length q45.out.1, slv (aM.dirty).length q45.dirty.1, slv (aM.guests).length q45.guests.1, slv (aM.outs).length q45.outs.1, I aM.pend, I aM.traps, slv (aM.tables).length q45.tables.1, I aM.owned]]⟩) (by kernel_rfl) (by kernel_rfl) .nil (by kernel_rfl) ?_
      clear S; intro ac S
      refine WD.one (i := 2) (by kernel_rfl) ?_
      refine id (S.call1 (r := aM) (d := 24) (c_laws_toMon w aM paM (S.rd (S.arg hkaM))) (by kernel_rfl) rfl ?_)
      clear S; intro ac w N q88 F89 S up o90 d91
      refine WD.next S up rfl ?_
      have d92 : Disj F49 F89 := fun b x y => d91 b (o50.sub b x) y
      have d93 : Disj F52 F89 := fun b x y => d91 b (o53.sub b x) y
      have d94 : Disj F55 F89 := fun b x y => d91 b (o56.sub b x) y
      have d95 : Disj F58 F89 := fun b x y => d91 b (o59.sub b x) y
      have d96 : Disj F61 F89 := fun b x y => d91 b (o62.sub b x) y
      have d97 : Disj F66 F89 := fun b x y => d91 b (o67.sub b x) y
      replace o50 := o50.up up
      replace o53 := o53.up up
      replace o56 := o56.up up
      replace o59 := o59.up up
      replace o62 := o62.up up
      replace o67 := o67.up up
      clear up d91
      have i113 : In64 aM.pend := RMon.pend (d := aM) o90.rn
      have i114 : In64 aM.traps := RMon.traps (d := aM) o90.rn
      have i118 : In64 aM.owned := RMon.owned (d := aM) o90.rn
      obtain ⟨F98, F101, F104, F107, F110, F115, o99, o102, o105, o108, o111, o116, s100, s103, s106, s109, s112, s117, d119, d120, d121, d122, d123, d124, d125, d126, d127, d128, d129, d130, d131, d132, d133⟩ := sp_Mon o90
      refine WD.one (i := 3) (by kernel_rfl) ?_
      refine S.stepq (i := 3) (keep := [25]) (m := 2) (σ' := ⟨[(25, .v (B (decide (aM = aM))))], [GT.cells (α := TMon) aM paM, [slv (aM.outer).length q45.outer.1, slv (aM.out).length q45.out.1, slv (aM.dirty).length q45.dirty.1, slv (aM.guests).length q45.guests.1, slv (aM.outs).length q45.outs.1, I aM.pend, I aM.traps, slv (aM.tables).length q45.tables.1, I aM.owned]]⟩) (.cons (Q_call fun w hw => c_laws_eqMon w aM q45 (rd_of (show GT.rd KK _ _ aM q45 from ⟨o50.rn, o53.rn, o56.rn, o59.rn, o62.rn, i64, i65, o67.rn, i69⟩) hw) aM q88 (rd_of (show GT.rd KK _ _ aM q88 from ⟨o99.rn, o102.rn, o105.rn, o108.rn, o111.rn, i113, i114, o116.rn, i118⟩) hw)) .nil) (by kernel_rfl) ?_
      clear S; intro ac w β S hβ
      refine WD.stay S hβ (fun _ _ h => h) ?_
      clear hβ
      refine S.hoist (i := 4) (path := []) (keep := [26]) (m := 2) (σ' := ⟨[(26, .v (B (!(decide (aM = aM)))))], [GT.cells (α := TMon) aM paM, [slv (aM.outer).length q45.outer.1, slv (aM.out).length q45.out.1, slv (aM.dirty).length q45.dirty.1, slv (aM.guests).length q45.guests.1, slv (aM.outs).length q45.outs.1, I aM.pend, I aM.traps, slv (aM.tables).length q45.tables.1, I aM.owned]]⟩) (by kernel_rfl) (by kernel_rfl) .nil (by kernel_rfl) ?_
      clear S; intro ac S
      refine WD.done (by kernel_rfl) ?_ _
      replace S := S.prune (keep := [26]) (m := 0) (σ' := ⟨[(26, .v (B (!(decide (aM = aM)))))], []⟩) (by kernel_rfl)
      refine id (nx_then ?_)
      refine S.cond (e := (!(decide (aM = aM)))) (by kernel_rfl) (fun h134 => ?_) (fun h134 => ?_)
      · have h135 : (decide (aM = aM)) = false := not_t h134
        have g136 := of_decide_eq_false h135
        refine wp_seq ?_
        refine RG.start ?_
        refine S.quiet (k := 1) (keep := [2]) (m := 0) (σ' := ⟨[(2, .v (B false))], []⟩) .nil (by kernel_rfl) ?_
        clear S; intro ac w β S
        refine RG.done rfl (nx_then ?_)
        refine wp_ret (rt_then ?_)
        refine S.ret (vs := [B false]) (by kernel_rfl) ?_
        exact ⟨retB (show false = true by clear S; first | rfl | (exfalso; omega) | (exfalso; simp_all; done) | (exfalso; simp_all; omega)), S.chg⟩
      · have h137 : (decide (aM = aM)) = true := not_f h134
        have g138 := of_decide_eq_true h137
        refine wp_skip (nx_then ?_)
        refine wp_seq ?_
        refine RG.start ?_
        refine S.quiet (k := 1) (keep := [2]) (m := 0) (σ' := ⟨[(2, .v (B true))], []⟩) .nil (by kernel_rfl) ?_
        clear S; intro ac w β S
        refine RG.done rfl (nx_then ?_)
        refine wp_ret ?_
        refine S.ret (vs := [B true]) (by kernel_rfl) ?_
        exact ⟨retB (show true = true by clear S; first | rfl | (exfalso; omega) | (exfalso; simp_all; done) | (exfalso; simp_all; omega)), S.chg⟩

end Go.Proofs.Ytollkfjcmiloiaa
