/- The walks: what each function that the laws reach computes (part 2). -/
import Derived.Test.YtcoabfmpdnlfdaaW1
import Derived.Test.YtcoabfmpdnlfdaaProg
import Derived.KernelRfl
namespace Go.Proofs.Ytcoabfmpdnlfdaa
open Go
set_option linter.unusedVariables false
set_option linter.unusedSimpArgs false

set_option maxRecDepth 100000 in
theorem c_spec_l21Bits (w0 : World) (a : List Bool) (pa : LP Bool) (ha : GT.rd KK (Lt w0.heap.size) w0 a pa) (b : List Bool) (pb : LP Bool) (hb : GT.rd KK (Lt w0.heap.size) w0 b pb) : Calls Go.Proofs.Try.prog 105 [slv (a).length pa.1, slv (b).length pb.1].toArray w0 (fun e w' => e = .returned (B (decide (a = b))) ∧ Chg NoB w0 w') := by
  refine Calls.walk (args := [slv (a).length pa.1, slv (b).length pb.1]) NoB Go.Proofs.Try.func105 rfl rfl ?_
  intro ac β S
  have hlea : a.length ≤ 4194304 := LRd.le ha
  have hleb : b.length ≤ 4194304 := LRd.le hb
  refine wp_seq ?_
  refine RG.start ?_
  refine S.quiet (k := 1) (keep := [0, 1]) (m := 0) (σ' := ⟨[(0, .v (slv (a).length pa.1)), (1, .v (slv (b).length pb.1))], []⟩) .nil (by kernel_rfl) ?_
  clear S; intro ac w β S
  refine RG.done rfl (nx_then ?_)
  refine wp_seq ?_
  refine wp_seq ?_
  refine RG.start ?_
  refine S.quiet (k := 5) (keep := [0, 1, 10]) (m := 0) (σ' := ⟨[(0, .v (slv (a).length pa.1)), (1, .v (slv (b).length pb.1)), (10, .v (B (((a).length : Int) != ((b).length : Int))))], []⟩) .nil (by kernel_rfl) ?_
  clear S; intro ac w β S
  refine RG.done rfl (nx_then ?_)
  refine S.cond (e := (((a).length : Int) != ((b).length : Int))) (by kernel_rfl) (fun h1 => ?_) (fun h1 => ?_)
  · have g2 : ¬ (((a).length : Int) = ((b).length : Int)) := bne_iff_ne.1 h1
    refine wp_seq ?_
    refine RG.start ?_
    refine S.quiet (k := 1) (keep := [4]) (m := 0) (σ' := ⟨[(4, .v (B false))], []⟩) .nil (by kernel_rfl) ?_
    clear S; intro ac w β S
    refine RG.done rfl (nx_then ?_)
    refine wp_ret (rt_then ?_)
    refine S.ret (vs := [B false]) (by kernel_rfl) ?_
    exact ⟨retB (show false = decide (a = b) by clear S; first | (simp; intro e; subst e; simp_all; done) | (simp; rw [take_all (by omega), take_all (by omega)] at he; exact he) | (simp; exact take_ne (by simp_all)) | (symm; exact decide_eq_false (take_ne (by assumption))) | (symm; exact decide_eq_true (by rw [take_all (by omega), take_all (by omega)] at he; exact he)) | (symm; refine decide_eq_false ?_; intro e; rw [e] at *; omega)), S.chg⟩
  · have g3 : ((a).length : Int) = ((b).length : Int) := ne_f h1
    refine wp_skip (nx_then ?_)
    refine wp_seq ?_
    refine wp_seq ?_
    refine RG.start ?_
    refine S.quiet (k := 1) (keep := [0, 1, 5]) (m := 0) (σ' := ⟨[(0, .v (slv (a).length pa.1)), (1, .v (slv (b).length pb.1)), (5, .v (I 0))], []⟩) .nil (by kernel_rfl) ?_
    clear S; intro ac w β S
    refine RG.done rfl (nx_then ?_)
    refine wp_block ?_
    replace S := S.prune (keep := [0, 1, 5]) (m := 0) (σ' := ⟨[(0, .v (slv (a).length pa.1)), (1, .v (slv (b).length pb.1)), (5, .v (I 0))], []⟩) (by kernel_rfl)
    refine wp_loop_down (fun mm ac w => ∃ (k : Nat)  (u : World) (N : Bl) (β : Nat → Nat), mm = a.length - k ∧ (k ≤ a.length) ∧ (a.length = b.length) ∧ (a.take k = b.take k) ∧ St Go.Proofs.Try.prog Go.Proofs.Try.f105.ntmps w0 NoB u N β ⟨[(0, .v (slv (a).length pa.1)), (1, .v (slv (b).length pb.1)), (5, .v (I (k : Int)))], []⟩ ac w) _ ⟨0, _, _, _, rfl, (by first | omega | (simp; done) | (simp; omega)), (by first | omega | (simp; done) | (simp; omega)), (by simp), S.cast (by kernel_rfl)⟩ ?_
    clear S
    rintro mm ac w ⟨k, u, N, β, rfl, hk, hab, he, S⟩
    refine wp_seq ?_
    refine wp_seq ?_
    refine RG.start ?_
    refine S.quiet (k := 4) (keep := [0, 1, 5, 14]) (m := 0) (σ' := ⟨[(0, .v (slv (a).length pa.1)), (1, .v (slv (b).length pb.1)), (5, .v (I (k : Int))), (14, .v (B (decide ((k : Int) < ((a).length : Int)))))], []⟩) .nil (by kernel_rfl) ?_
    clear S; intro ac w β S
    refine RG.done rfl (nx_then ?_)
    refine S.cond (e := (decide ((k : Int) < ((a).length : Int)))) (by kernel_rfl) (fun h4 => ?_) (fun h4 => ?_)
    · have g5 : (k : Int) < ((a).length : Int) := of_decide_eq_true h4
      refine wp_skip (nx_then ?_)
      refine wp_seq ?_
      refine wp_block ?_
      refine wp_seq ?_
      refine S.drawn (keep := [0, 1, 5, 25]) (m := 0) (σ' := ⟨[(0, .v (slv (a).length pa.1)), (1, .v (slv (b).length pb.1)), (5, .v (I (k : Int))), (25, .v (B (!((el a k) == (el b k)))))], []⟩) (.cons (Q_idx (S.arg ha) (l := (a).length) (k := k) (i := (k : Int)) rfl rfl (by omega) Go.Proofs.Try.underlying46 (by kernel_rfl)) (.cons (Q_el1 (S.arg ha) (t := 4) (k := k) (by omega) rfl (by kernel_rfl)) (.cons (Q_idx (S.arg hb) (l := (b).length) (k := k) (i := (k : Int)) rfl rfl (by omega) Go.Proofs.Try.underlying46 (by kernel_rfl)) (.cons (Q_el1 (S.arg hb) (t := 4) (k := k) (by omega) rfl (by kernel_rfl)) .nil)))) rfl (by kernel_rfl) (by kernel_rfl) ?_
      clear S; intro ac w S
      refine id (nx_then ?_)
      refine S.cond (e := (!((el a k) == (el b k)))) (by kernel_rfl) (fun h6 => ?_) (fun h6 => ?_)
      · have h7 : ((el a k) == (el b k)) = false := not_t h6
        have g8 : ¬ ((el a k) = (el b k)) := ne_of_beq_false h7
        refine wp_seq ?_
        refine RG.start ?_
        refine S.quiet (k := 1) (keep := [4]) (m := 0) (σ' := ⟨[(4, .v (B false))], []⟩) .nil (by kernel_rfl) ?_
        clear S; intro ac w β S
        refine RG.done rfl (nx_then ?_)
        refine wp_ret (rt_block (rt_then (rt_then (rt_block (rt_then ?_)))))
        refine S.ret (vs := [B false]) (by kernel_rfl) ?_
        exact ⟨retB (show false = decide (a = b) by clear S; first | (simp; intro e; subst e; simp_all; done) | (simp; rw [take_all (by omega), take_all (by omega)] at he; exact he) | (simp; exact take_ne (by simp_all)) | (symm; exact decide_eq_false (take_ne (by assumption))) | (symm; exact decide_eq_true (by rw [take_all (by omega), take_all (by omega)] at he; exact he)) | (symm; refine decide_eq_false ?_; intro e; rw [e] at *; omega)), S.chg⟩
      · have h9 : ((el a k) == (el b k)) = true := not_f h6
        have g10 : (el a k) = (el b k) := eq_of_beq h9
        refine wp_skip (nx_block (nx_then ?_))
        refine RG.start ?_
        refine S.quiet (k := 3) (keep := [0, 1, 5]) (m := 0) (σ' := ⟨[(0, .v (slv (a).length pa.1)), (1, .v (slv (b).length pb.1)), (5, .v (I ((k : Int) + 1)))], []⟩) (.cons (Q_add (x := (k : Int)) (y := 1) ⟨by omega, by omega⟩) .nil) (by kernel_rfl) ?_
        clear S; intro ac w β S
        refine RG.done rfl (nx_then ?_)
        replace S := S.prune (keep := [0, 1, 5]) (m := 0) (σ' := ⟨[(0, .v (slv (a).length pa.1)), (1, .v (slv (b).length pb.1)), (5, .v (I ((k : Int) + 1)))], []⟩) (by kernel_rfl)
        refine ⟨a.length - (k + 1), by omega, k + 1, _, _, _, rfl, ?_, ?_, ?_, S.cast (by kernel_rfl)⟩
        · clear S; first | omega | (simp [*]; done) | (simp [*]; omega)
        · clear S; first | omega | (simp [*]; done) | (simp [*]; omega)
        · clear S; exact take_eq_step (by omega) (by omega) he (by simp_all)
    · have g11 : ¬ ((k : Int) < ((a).length : Int)) := of_decide_eq_false h4
      refine wp_exit (ex_then (ex_then (ex_hit (nx_then ?_))))
      refine wp_seq ?_
      refine RG.start ?_
      refine S.quiet (k := 1) (keep := [4]) (m := 0) (σ' := ⟨[(4, .v (B true))], []⟩) .nil (by kernel_rfl) ?_
      clear S; intro ac w β S
      refine RG.done rfl (nx_then ?_)
      refine wp_ret ?_
      refine S.ret (vs := [B true]) (by kernel_rfl) ?_
      exact ⟨retB (show true = decide (a = b) by clear S; first | (simp; intro e; subst e; simp_all; done) | (simp; rw [take_all (by omega), take_all (by omega)] at he; exact he) | (simp; exact take_ne (by simp_all)) | (symm; exact decide_eq_false (take_ne (by assumption))) | (symm; exact decide_eq_true (by rw [take_all (by omega), take_all (by omega)] at he; exact he)) | (symm; refine decide_eq_false ?_; intro e; rw [e] at *; omega)), S.chg⟩

set_option maxRecDepth 100000 in
theorem c_spec_SameProg (w0 : World) (a : List TIns) (pa : LP TIns) (ha : GT.rd KK (Lt w0.heap.size) w0 a pa) (b : List TIns) (pb : LP TIns) (hb : GT.rd KK (Lt w0.heap.size) w0 b pb) : Calls Go.Proofs.Try.prog 179 [slv (a).length pa.1, slv (b).length pb.1].toArray w0 (fun e w' => e = .returned (B (decide (a = b))) ∧ Chg NoB w0 w') := by
  refine Calls.walk (args := [slv (a).length pa.1, slv (b).length pb.1]) NoB Go.Proofs.Try.func179 rfl rfl ?_
  intro ac β S
  have hlea : a.length ≤ 4194304 := LRd.le ha
  have hleb : b.length ≤ 4194304 := LRd.le hb
  refine wp_seq ?_
  refine RG.start ?_
  refine S.quiet (k := 1) (keep := [0, 1]) (m := 0) (σ' := ⟨[(0, .v (slv (a).length pa.1)), (1, .v (slv (b).length pb.1))], []⟩) .nil (by kernel_rfl) ?_
  clear S; intro ac w β S
  refine RG.done rfl (nx_then ?_)
  refine wp_seq ?_
  refine wp_seq ?_
  refine RG.start ?_
  refine S.quiet (k := 5) (keep := [0, 1, 10]) (m := 0) (σ' := ⟨[(0, .v (slv (a).length pa.1)), (1, .v (slv (b).length pb.1)), (10, .v (B (((a).length : Int) != ((b).length : Int))))], []⟩) .nil (by kernel_rfl) ?_
  clear S; intro ac w β S
  refine RG.done rfl (nx_then ?_)
  refine S.cond (e := (((a).length : Int) != ((b).length : Int))) (by kernel_rfl) (fun h1 => ?_) (fun h1 => ?_)
  · have g2 : ¬ (((a).length : Int) = ((b).length : Int)) := bne_iff_ne.1 h1
    refine wp_seq ?_
    refine RG.start ?_
    refine S.quiet (k := 1) (keep := [4]) (m := 0) (σ' := ⟨[(4, .v (B false))], []⟩) .nil (by kernel_rfl) ?_
    clear S; intro ac w β S
    refine RG.done rfl (nx_then ?_)
    refine wp_ret (rt_then ?_)
    refine S.ret (vs := [B false]) (by kernel_rfl) ?_
    exact ⟨retB (show false = decide (a = b) by clear S; first | (simp; intro e; subst e; simp_all; done) | (simp; rw [take_all (by omega), take_all (by omega)] at he; exact he) | (simp; exact take_ne (by simp_all)) | (symm; exact decide_eq_false (take_ne (by assumption))) | (symm; exact decide_eq_true (by rw [take_all (by omega), take_all (by omega)] at he; exact he)) | (symm; refine decide_eq_false ?_; intro e; rw [e] at *; omega)), S.chg⟩
  · have g3 : ((a).length : Int) = ((b).length : Int) := ne_f h1
    refine wp_skip (nx_then ?_)
    refine wp_seq ?_
    refine wp_seq ?_
    refine RG.start ?_
    refine S.quiet (k := 1) (keep := [0, 1, 5]) (m := 0) (σ' := ⟨[(0, .v (slv (a).length pa.1)), (1, .v (slv (b).length pb.1)), (5, .v (I 0))], []⟩) .nil (by kernel_rfl) ?_
    clear S; intro ac w β S
    refine RG.done rfl (nx_then ?_)
    refine wp_block ?_
    replace S := S.prune (keep := [0, 1, 5]) (m := 0) (σ' := ⟨[(0, .v (slv (a).length pa.1)), (1, .v (slv (b).length pb.1)), (5, .v (I 0))], []⟩) (by kernel_rfl)
    refine wp_loop_down (fun mm ac w => ∃ (k : Nat)  (u : World) (N : Bl) (β : Nat → Nat), mm = a.length - k ∧ (k ≤ a.length) ∧ (a.length = b.length) ∧ (a.take k = b.take k) ∧ St Go.Proofs.Try.prog Go.Proofs.Try.f179.ntmps w0 NoB u N β ⟨[(0, .v (slv (a).length pa.1)), (1, .v (slv (b).length pb.1)), (5, .v (I (k : Int)))], []⟩ ac w) _ ⟨0, _, _, _, rfl, (by first | omega | (simp; done) | (simp; omega)), (by first | omega | (simp; done) | (simp; omega)), (by simp), S.cast (by kernel_rfl)⟩ ?_
    clear S
    rintro mm ac w ⟨k, u, N, β, rfl, hk, hab, he, S⟩
    refine wp_seq ?_
    refine wp_seq ?_
    refine RG.start ?_
    refine S.quiet (k := 4) (keep := [0, 1, 5, 14]) (m := 0) (σ' := ⟨[(0, .v (slv (a).length pa.1)), (1, .v (slv (b).length pb.1)), (5, .v (I (k : Int))), (14, .v (B (decide ((k : Int) < ((a).length : Int)))))], []⟩) .nil (by kernel_rfl) ?_
    clear S; intro ac w β S
    refine RG.done rfl (nx_then ?_)
    refine S.cond (e := (decide ((k : Int) < ((a).length : Int)))) (by kernel_rfl) (fun h4 => ?_) (fun h4 => ?_)
    · have g5 : (k : Int) < ((a).length : Int) := of_decide_eq_true h4
      refine wp_skip (nx_then ?_)
      refine wp_seq ?_
      refine wp_block ?_
      refine wp_seq ?_
      refine S.drawn (keep := [0, 1, 5, 25]) (m := 0) (σ' := ⟨[(0, .v (slv (a).length pa.1)), (1, .v (slv (b).length pb.1)), (5, .v (I (k : Int))), (25, .v (B (!decide ((el a k) = (el b k)))))], []⟩) (.cons (Q_idx (S.arg ha) (l := (a).length) (k := k) (i := (k : Int)) rfl rfl (by omega) Go.Proofs.Try.underlying97 (by kernel_rfl)) (.cons (Q_el (S.arg ha) (t := 143) (k := k) (by omega) rfl (by kernel_rfl) (by kernel_rfl)) (.cons (Q_idx (S.arg hb) (l := (b).length) (k := k) (i := (k : Int)) rfl rfl (by omega) Go.Proofs.Try.underlying97 (by kernel_rfl)) (.cons (Q_el (S.arg hb) (t := 143) (k := k) (by omega) rfl (by kernel_rfl) (by kernel_rfl)) (.cons (Eq_ne_Ins (t := 143) (el a k) (el b k) (by kernel_rfl)) .nil))))) rfl (by kernel_rfl) (by kernel_rfl) ?_
      clear S; intro ac w S
      refine id (nx_then ?_)
      refine S.cond (e := (!decide ((el a k) = (el b k)))) (by kernel_rfl) (fun h6 => ?_) (fun h6 => ?_)
      · refine wp_seq ?_
        refine RG.start ?_
        refine S.quiet (k := 1) (keep := [4]) (m := 0) (σ' := ⟨[(4, .v (B false))], []⟩) .nil (by kernel_rfl) ?_
        clear S; intro ac w β S
        refine RG.done rfl (nx_then ?_)
        refine wp_ret (rt_block (rt_then (rt_then (rt_block (rt_then ?_)))))
        refine S.ret (vs := [B false]) (by kernel_rfl) ?_
        exact ⟨retB (show false = decide (a = b) by clear S; first | (simp; intro e; subst e; simp_all; done) | (simp; rw [take_all (by omega), take_all (by omega)] at he; exact he) | (simp; exact take_ne (by simp_all)) | (symm; exact decide_eq_false (take_ne (by assumption))) | (symm; exact decide_eq_true (by rw [take_all (by omega), take_all (by omega)] at he; exact he)) | (symm; refine decide_eq_false ?_; intro e; rw [e] at *; omega)), S.chg⟩
      · refine wp_skip (nx_block (nx_then ?_))
        refine RG.start ?_
        refine S.quiet (k := 3) (keep := [0, 1, 5]) (m := 0) (σ' := ⟨[(0, .v (slv (a).length pa.1)), (1, .v (slv (b).length pb.1)), (5, .v (I ((k : Int) + 1)))], []⟩) (.cons (Q_add (x := (k : Int)) (y := 1) ⟨by omega, by omega⟩) .nil) (by kernel_rfl) ?_
        clear S; intro ac w β S
        refine RG.done rfl (nx_then ?_)
        replace S := S.prune (keep := [0, 1, 5]) (m := 0) (σ' := ⟨[(0, .v (slv (a).length pa.1)), (1, .v (slv (b).length pb.1)), (5, .v (I ((k : Int) + 1)))], []⟩) (by kernel_rfl)
        refine ⟨a.length - (k + 1), by omega, k + 1, _, _, _, rfl, ?_, ?_, ?_, S.cast (by kernel_rfl)⟩
        · clear S; first | omega | (simp [*]; done) | (simp [*]; omega)
        · clear S; first | omega | (simp [*]; done) | (simp [*]; omega)
        · clear S; exact take_eq_step (by omega) (by omega) he (by simp_all)
    · have g7 : ¬ ((k : Int) < ((a).length : Int)) := of_decide_eq_false h4
      refine wp_exit (ex_then (ex_then (ex_hit (nx_then ?_))))
      refine wp_seq ?_
      refine RG.start ?_
      refine S.quiet (k := 1) (keep := [4]) (m := 0) (σ' := ⟨[(4, .v (B true))], []⟩) .nil (by kernel_rfl) ?_
      clear S; intro ac w β S
      refine RG.done rfl (nx_then ?_)
      refine wp_ret ?_
      refine S.ret (vs := [B true]) (by kernel_rfl) ?_
      exact ⟨retB (show true = decide (a = b) by clear S; first | (simp; intro e; subst e; simp_all; done) | (simp; rw [take_all (by omega), take_all (by omega)] at he; exact he) | (simp; exact take_ne (by simp_all)) | (symm; exact decide_eq_false (take_ne (by assumption))) | (symm; exact decide_eq_true (by rw [take_all (by omega), take_all (by omega)] at he; exact he)) | (symm; refine decide_eq_false ?_; intro e; rw [e] at *; omega)), S.chg⟩

set_option maxRecDepth 100000 in
theorem c_spec_SameGuest (w0 : World) (a : TGuest) (pa : PGuest) (ha : GT.rd KK (Lt w0.heap.size) w0 a pa) (b : TGuest) (pb : PGuest) (hb : GT.rd KK (Lt w0.heap.size) w0 b pb) : Calls Go.Proofs.Try.prog 155 [GT.val (α := TGuest) a pa, GT.val (α := TGuest) b pb].toArray w0 (fun e w' => e = .returned (B (decide (a = b))) ∧ Chg NoB w0 w') := by
  refine Calls.walk (args := [GT.val (α := TGuest) a pa, GT.val (α := TGuest) b pb]) NoB Go.Proofs.Try.func155 rfl rfl ?_
  intro ac β S
  have hlea_prog : a.prog.length ≤ 4194304 := LRd.le (RGuest.prog (d := a) ha)
  have hlea_written : a.written.length ≤ 4194304 := LRd.le (RGuest.written (d := a) ha)
  have hlea_live : a.live.length ≤ 4194304 := LRd.le (RGuest.live (d := a) ha)
  have hlea_seen : a.seen.length ≤ 4194304 := LRd.le (RGuest.seen (d := a) ha)
  have hleb_prog : b.prog.length ≤ 4194304 := LRd.le (RGuest.prog (d := b) hb)
  have hleb_written : b.written.length ≤ 4194304 := LRd.le (RGuest.written (d := b) hb)
  have hleb_live : b.live.length ≤ 4194304 := LRd.le (RGuest.live (d := b) hb)
  have hleb_seen : b.seen.length ≤ 4194304 := LRd.le (RGuest.seen (d := b) hb)
  refine wp_seq ?_
  refine RG.start ?_
  refine S.quiet (k := 3) (keep := [2, 3]) (m := 2) (σ' := ⟨[(2, .p 0 0), (3, .p 1 0)], [GT.cells (α := TGuest) a pa, GT.cells (α := TGuest) b pb]⟩) .nil (by kernel_rfl) ?_
  clear S; intro ac w β S
  refine RG.done rfl (nx_then ?_)
  refine wp_seq ?_
  refine RG.start ?_
  refine S.quiet (k := 6) (keep := [2, 3, 10]) (m := 2) (σ' := ⟨[(2, .p 0 0), (3, .p 1 0), (10, .v (B (decide (a.prog = b.prog))))], [GT.cells (α := TGuest) a pa, GT.cells (α := TGuest) b pb]⟩) (.cons (Q_call fun w hw => c_spec_SameProg w a.prog pa.prog (rd_of (RGuest.prog (d := a) (S.arg ha)) hw) b.prog pb.prog (rd_of (RGuest.prog (d := b) (S.arg hb)) hw)) .nil) (by kernel_rfl) ?_
  clear S; intro ac w β S
  rcases Bool.eq_false_or_eq_true (decide (a.prog = b.prog)) with h1 | h1 <;> rw [h1] at S
  · have g2 := of_decide_eq_true h1
    refine S.quiet (k := 7) (keep := [2, 3, 17]) (m := 2) (σ' := ⟨[(2, .p 0 0), (3, .p 1 0), (17, .v (B (a.acc == b.acc)))], [GT.cells (α := TGuest) a pa, GT.cells (α := TGuest) b pb]⟩) .nil (by kernel_rfl) ?_
    clear S; intro ac w β S
    rcases Bool.eq_false_or_eq_true (a.acc == b.acc) with h3 | h3 <;> rw [h3] at S
    · have g4 : a.acc = b.acc := eq_of_beq h3
      refine S.quiet (k := 7) (keep := [2, 3, 24]) (m := 2) (σ' := ⟨[(2, .p 0 0), (3, .p 1 0), (24, .v (B (a.pc == b.pc)))], [GT.cells (α := TGuest) a pa, GT.cells (α := TGuest) b pb]⟩) .nil (by kernel_rfl) ?_
      clear S; intro ac w β S
      rcases Bool.eq_false_or_eq_true (a.pc == b.pc) with h5 | h5 <;> rw [h5] at S
      · have g6 : a.pc = b.pc := eq_of_beq h5
        refine S.quiet (k := 7) (keep := [2, 3, 31]) (m := 2) (σ' := ⟨[(2, .p 0 0), (3, .p 1 0), (31, .v (B (decide (a.written = b.written))))], [GT.cells (α := TGuest) a pa, GT.cells (α := TGuest) b pb]⟩) (.cons (Q_call fun w hw => c_spec_SameTable w a.written pa.written (rd_of (RGuest.written (d := a) (S.arg ha)) hw) b.written pb.written (rd_of (RGuest.written (d := b) (S.arg hb)) hw)) .nil) (by kernel_rfl) ?_
        clear S; intro ac w β S
        rcases Bool.eq_false_or_eq_true (decide (a.written = b.written)) with h7 | h7 <;> rw [h7] at S
        · have g8 := of_decide_eq_true h7
          refine S.quiet (k := 7) (keep := [2, 3, 38]) (m := 2) (σ' := ⟨[(2, .p 0 0), (3, .p 1 0), (38, .v (B (decide (a.live = b.live))))], [GT.cells (α := TGuest) a pa, GT.cells (α := TGuest) b pb]⟩) (.cons (Q_call fun w hw => c_spec_SameTable w a.live pa.live (rd_of (RGuest.live (d := a) (S.arg ha)) hw) b.live pb.live (rd_of (RGuest.live (d := b) (S.arg hb)) hw)) .nil) (by kernel_rfl) ?_
          clear S; intro ac w β S
          rcases Bool.eq_false_or_eq_true (decide (a.live = b.live)) with h9 | h9 <;> rw [h9] at S
          · have g10 := of_decide_eq_true h9
            refine S.quiet (k := 7) (keep := [2, 3, 45]) (m := 2) (σ' := ⟨[(2, .p 0 0), (3, .p 1 0), (45, .v (B (decide (a.ctl = b.ctl))))], [GT.cells (α := TGuest) a pa, GT.cells (α := TGuest) b pb]⟩) (.cons (Eq_eq_Ctl (t := 99) a.ctl b.ctl (by kernel_rfl)) .nil) (by kernel_rfl) ?_
            clear S; intro ac w β S
            rcases Bool.eq_false_or_eq_true (decide (a.ctl = b.ctl)) with h11 | h11 <;> rw [h11] at S
            · refine S.quiet (k := 7) (keep := [2, 3, 52]) (m := 2) (σ' := ⟨[(2, .p 0 0), (3, .p 1 0), (52, .v (B (a.pend == b.pend)))], [GT.cells (α := TGuest) a pa, GT.cells (α := TGuest) b pb]⟩) .nil (by kernel_rfl) ?_
              clear S; intro ac w β S
              rcases Bool.eq_false_or_eq_true (a.pend == b.pend) with h12 | h12 <;> rw [h12] at S
              · have g13 : a.pend = b.pend := eq_of_beq h12
                refine S.quiet (k := 7) (keep := [2, 3, 59]) (m := 2) (σ' := ⟨[(2, .p 0 0), (3, .p 1 0), (59, .v (B (decide (a.exit = b.exit))))], [GT.cells (α := TGuest) a pa, GT.cells (α := TGuest) b pb]⟩) (.cons (Eq_eq_Exit (t := 101) a.exit b.exit (by kernel_rfl)) .nil) (by kernel_rfl) ?_
                clear S; intro ac w β S
                rcases Bool.eq_false_or_eq_true (decide (a.exit = b.exit)) with h14 | h14 <;> rw [h14] at S
                · refine S.quiet (k := 7) (keep := [2, 3, 66]) (m := 2) (σ' := ⟨[(2, .p 0 0), (3, .p 1 0), (66, .v (B (a.halted == b.halted)))], [GT.cells (α := TGuest) a pa, GT.cells (α := TGuest) b pb]⟩) .nil (by kernel_rfl) ?_
                  clear S; intro ac w β S
                  rcases Bool.eq_false_or_eq_true (a.halted == b.halted) with h15 | h15 <;> rw [h15] at S
                  · have g16 : a.halted = b.halted := eq_of_beq h15
                    refine S.quiet (k := 7) (keep := [4]) (m := 0) (σ' := ⟨[(4, .v (B (decide (a.seen = b.seen))))], []⟩) (.cons (Q_call fun w hw => c_spec_l04Ints w a.seen pa.seen (rd_of (RGuest.seen (d := a) (S.arg ha)) hw) b.seen pb.seen (rd_of (RGuest.seen (d := b) (S.arg hb)) hw)) .nil) (by kernel_rfl) ?_
                    clear S; intro ac w β S
                    refine RG.done rfl (nx_then ?_)
                    refine wp_ret ?_
                    refine S.ret (vs := [B (decide (a.seen = b.seen))]) (by kernel_rfl) ?_
                    exact ⟨retB (show (decide (a.seen = b.seen)) = decide (a = b) by clear S; (first | (symm; refine decide_eq_false ?_; intro e; subst e; simp_all; done) | (symm; refine decide_eq_true ?_; rw [TGuest.ext_iff]; simp_all; done) | (rw [Bool.eq_iff_iff]; simp only [decide_eq_true_eq, TGuest.ext_iff, beq_iff_eq, Bool.and_eq_true]; simp_all; done))), S.chg⟩
                  · have g17 : ¬ (a.halted = b.halted) := ne_of_beq_false h15
                    refine S.quiet (k := 7) (keep := [4]) (m := 0) (σ' := ⟨[(4, .v (B false))], []⟩) .nil (by kernel_rfl) ?_
                    clear S; intro ac w β S
                    refine RG.done rfl (nx_then ?_)
                    refine wp_ret ?_
                    refine S.ret (vs := [B false]) (by kernel_rfl) ?_
                    exact ⟨retB (show false = decide (a = b) by clear S; (first | (symm; refine decide_eq_false ?_; intro e; subst e; simp_all; done) | (symm; refine decide_eq_true ?_; rw [TGuest.ext_iff]; simp_all; done) | (rw [Bool.eq_iff_iff]; simp only [decide_eq_true_eq, TGuest.ext_iff, beq_iff_eq, Bool.and_eq_true]; simp_all; done))), S.chg⟩
                · refine S.quiet (k := 14) (keep := [4]) (m := 0) (σ' := ⟨[(4, .v (B false))], []⟩) .nil (by kernel_rfl) ?_
                  clear S; intro ac w β S
                  refine RG.done rfl (nx_then ?_)
                  refine wp_ret ?_
                  refine S.ret (vs := [B false]) (by kernel_rfl) ?_
                  exact ⟨retB (show false = decide (a = b) by clear S; (first | (symm; refine decide_eq_false ?_; intro e; subst e; simp_all; done) | (symm; refine decide_eq_true ?_; rw [TGuest.ext_iff]; simp_all; done) | (rw [Bool.eq_iff_iff]; simp only [decide_eq_true_eq, TGuest.ext_iff, beq_iff_eq, Bool.and_eq_true]; simp_all; done))), S.chg⟩
              · have g18 : ¬ (a.pend = b.pend) := ne_of_beq_false h12
                refine S.quiet (k := 21) (keep := [4]) (m := 0) (σ' := ⟨[(4, .v (B false))], []⟩) .nil (by kernel_rfl) ?_
                clear S; intro ac w β S
                refine RG.done rfl (nx_then ?_)
                refine wp_ret ?_
                refine S.ret (vs := [B false]) (by kernel_rfl) ?_
                exact ⟨retB (show false = decide (a = b) by clear S; (first | (symm; refine decide_eq_false ?_; intro e; subst e; simp_all; done) | (symm; refine decide_eq_true ?_; rw [TGuest.ext_iff]; simp_all; done) | (rw [Bool.eq_iff_iff]; simp only [decide_eq_true_eq, TGuest.ext_iff, beq_iff_eq, Bool.and_eq_true]; simp_all; done))), S.chg⟩
            · refine S.quiet (k := 28) (keep := [4]) (m := 0) (σ' := ⟨[(4, .v (B false))], []⟩) .nil (by kernel_rfl) ?_
              clear S; intro ac w β S
              refine RG.done rfl (nx_then ?_)
              refine wp_ret ?_
              refine S.ret (vs := [B false]) (by kernel_rfl) ?_
              exact ⟨retB (show false = decide (a = b) by clear S; (first | (symm; refine decide_eq_false ?_; intro e; subst e; simp_all; done) | (symm; refine decide_eq_true ?_; rw [TGuest.ext_iff]; simp_all; done) | (rw [Bool.eq_iff_iff]; simp only [decide_eq_true_eq, TGuest.ext_iff, beq_iff_eq, Bool.and_eq_true]; simp_all; done))), S.chg⟩
          · have g19 := of_decide_eq_false h9
            refine S.quiet (k := 35) (keep := [4]) (m := 0) (σ' := ⟨[(4, .v (B false))], []⟩) .nil (by kernel_rfl) ?_
            clear S; intro ac w β S
            refine RG.done rfl (nx_then ?_)
            refine wp_ret ?_
            refine S.ret (vs := [B false]) (by kernel_rfl) ?_
            exact ⟨retB (show false = decide (a = b) by clear S; (first | (symm; refine decide_eq_false ?_; intro e; subst e; simp_all; done) | (symm; refine decide_eq_true ?_; rw [TGuest.ext_iff]; simp_all; done) | (rw [Bool.eq_iff_iff]; simp only [decide_eq_true_eq, TGuest.ext_iff, beq_iff_eq, Bool.and_eq_true]; simp_all; done))), S.chg⟩
        · have g20 := of_decide_eq_false h7
          refine S.quiet (k := 42) (keep := [4]) (m := 0) (σ' := ⟨[(4, .v (B false))], []⟩) .nil (by kernel_rfl) ?_
          clear S; intro ac w β S
          refine RG.done rfl (nx_then ?_)
          refine wp_ret ?_
          refine S.ret (vs := [B false]) (by kernel_rfl) ?_
          exact ⟨retB (show false = decide (a = b) by clear S; (first | (symm; refine decide_eq_false ?_; intro e; subst e; simp_all; done) | (symm; refine decide_eq_true ?_; rw [TGuest.ext_iff]; simp_all; done) | (rw [Bool.eq_iff_iff]; simp only [decide_eq_true_eq, TGuest.ext_iff, beq_iff_eq, Bool.and_eq_true]; simp_all; done))), S.chg⟩
      · have g21 : ¬ (a.pc = b.pc) := ne_of_beq_false h5
        refine S.quiet (k := 49) (keep := [4]) (m := 0) (σ' := ⟨[(4, .v (B false))], []⟩) .nil (by kernel_rfl) ?_
        clear S; intro ac w β S
        refine RG.done rfl (nx_then ?_)
        refine wp_ret ?_
        refine S.ret (vs := [B false]) (by kernel_rfl) ?_
        exact ⟨retB (show false = decide (a = b) by clear S; (first | (symm; refine decide_eq_false ?_; intro e; subst e; simp_all; done) | (symm; refine decide_eq_true ?_; rw [TGuest.ext_iff]; simp_all; done) | (rw [Bool.eq_iff_iff]; simp only [decide_eq_true_eq, TGuest.ext_iff, beq_iff_eq, Bool.and_eq_true]; simp_all; done))), S.chg⟩
    · have g22 : ¬ (a.acc = b.acc) := ne_of_beq_false h3
      refine S.quiet (k := 56) (keep := [4]) (m := 0) (σ' := ⟨[(4, .v (B false))], []⟩) .nil (by kernel_rfl) ?_
      clear S; intro ac w β S
      refine RG.done rfl (nx_then ?_)
      refine wp_ret ?_
      refine S.ret (vs := [B false]) (by kernel_rfl) ?_
      exact ⟨retB (show false = decide (a = b) by clear S; (first | (symm; refine decide_eq_false ?_; intro e; subst e; simp_all; done) | (symm; refine decide_eq_true ?_; rw [TGuest.ext_iff]; simp_all; done) | (rw [Bool.eq_iff_iff]; simp only [decide_eq_true_eq, TGuest.ext_iff, beq_iff_eq, Bool.and_eq_true]; simp_all; done))), S.chg⟩
  · have g23 := of_decide_eq_false h1
    refine S.quiet (k := 63) (keep := [4]) (m := 0) (σ' := ⟨[(4, .v (B false))], []⟩) .nil (by kernel_rfl) ?_
    clear S; intro ac w β S
    refine RG.done rfl (nx_then ?_)
    refine wp_ret ?_
    refine S.ret (vs := [B false]) (by kernel_rfl) ?_
    exact ⟨retB (show false = decide (a = b) by clear S; (first | (symm; refine decide_eq_false ?_; intro e; subst e; simp_all; done) | (symm; refine decide_eq_true ?_; rw [TGuest.ext_iff]; simp_all; done) | (rw [Bool.eq_iff_iff]; simp only [decide_eq_true_eq, TGuest.ext_iff, beq_iff_eq, Bool.and_eq_true]; simp_all; done))), S.chg⟩

set_option maxRecDepth 100000 in
theorem c_spec_l17SameGuests (w0 : World) (a : List TGuest) (pa : LP TGuest) (ha : GT.rd KK (Lt w0.heap.size) w0 a pa) (b : List TGuest) (pb : LP TGuest) (hb : GT.rd KK (Lt w0.heap.size) w0 b pb) : Calls Go.Proofs.Try.prog 106 [slv (a).length pa.1, slv (b).length pb.1].toArray w0 (fun e w' => e = .returned (B (decide (a = b))) ∧ Chg NoB w0 w') := by
  refine Calls.walk (args := [slv (a).length pa.1, slv (b).length pb.1]) NoB Go.Proofs.Try.func106 rfl rfl ?_
  intro ac β S
  have hlea : a.length ≤ 4194304 := LRd.le ha
  have hleb : b.length ≤ 4194304 := LRd.le hb
  refine wp_seq ?_
  refine RG.start ?_
  refine S.quiet (k := 1) (keep := [0, 1]) (m := 0) (σ' := ⟨[(0, .v (slv (a).length pa.1)), (1, .v (slv (b).length pb.1))], []⟩) .nil (by kernel_rfl) ?_
  clear S; intro ac w β S
  refine RG.done rfl (nx_then ?_)
  refine wp_seq ?_
  refine wp_seq ?_
  refine RG.start ?_
  refine S.quiet (k := 5) (keep := [0, 1, 10]) (m := 0) (σ' := ⟨[(0, .v (slv (a).length pa.1)), (1, .v (slv (b).length pb.1)), (10, .v (B (((a).length : Int) != ((b).length : Int))))], []⟩) .nil (by kernel_rfl) ?_
  clear S; intro ac w β S
  refine RG.done rfl (nx_then ?_)
  refine S.cond (e := (((a).length : Int) != ((b).length : Int))) (by kernel_rfl) (fun h1 => ?_) (fun h1 => ?_)
  · have g2 : ¬ (((a).length : Int) = ((b).length : Int)) := bne_iff_ne.1 h1
    refine wp_seq ?_
    refine RG.start ?_
    refine S.quiet (k := 1) (keep := [4]) (m := 0) (σ' := ⟨[(4, .v (B false))], []⟩) .nil (by kernel_rfl) ?_
    clear S; intro ac w β S
    refine RG.done rfl (nx_then ?_)
    refine wp_ret (rt_then ?_)
    refine S.ret (vs := [B false]) (by kernel_rfl) ?_
    exact ⟨retB (show false = decide (a = b) by clear S; first | (simp; intro e; subst e; simp_all; done) | (simp; rw [take_all (by omega), take_all (by omega)] at he; exact he) | (simp; exact take_ne (by simp_all)) | (symm; exact decide_eq_false (take_ne (by assumption))) | (symm; exact decide_eq_true (by rw [take_all (by omega), take_all (by omega)] at he; exact he)) | (symm; refine decide_eq_false ?_; intro e; rw [e] at *; omega)), S.chg⟩
  · have g3 : ((a).length : Int) = ((b).length : Int) := ne_f h1
    refine wp_skip (nx_then ?_)
    refine wp_seq ?_
    refine wp_seq ?_
    refine RG.start ?_
    refine S.quiet (k := 1) (keep := [0, 1, 5]) (m := 0) (σ' := ⟨[(0, .v (slv (a).length pa.1)), (1, .v (slv (b).length pb.1)), (5, .v (I 0))], []⟩) .nil (by kernel_rfl) ?_
    clear S; intro ac w β S
    refine RG.done rfl (nx_then ?_)
    refine wp_block ?_
    replace S := S.prune (keep := [0, 1, 5]) (m := 0) (σ' := ⟨[(0, .v (slv (a).length pa.1)), (1, .v (slv (b).length pb.1)), (5, .v (I 0))], []⟩) (by kernel_rfl)
    refine wp_loop_down (fun mm ac w => ∃ (k : Nat)  (u : World) (N : Bl) (β : Nat → Nat), mm = a.length - k ∧ (k ≤ a.length) ∧ (a.length = b.length) ∧ (a.take k = b.take k) ∧ St Go.Proofs.Try.prog Go.Proofs.Try.f106.ntmps w0 NoB u N β ⟨[(0, .v (slv (a).length pa.1)), (1, .v (slv (b).length pb.1)), (5, .v (I (k : Int)))], []⟩ ac w) _ ⟨0, _, _, _, rfl, (by first | omega | (simp; done) | (simp; omega)), (by first | omega | (simp; done) | (simp; omega)), (by simp), S.cast (by kernel_rfl)⟩ ?_
    clear S
    rintro mm ac w ⟨k, u, N, β, rfl, hk, hab, he, S⟩
    refine wp_seq ?_
    refine wp_seq ?_
    refine RG.start ?_
    refine S.quiet (k := 4) (keep := [0, 1, 5, 14]) (m := 0) (σ' := ⟨[(0, .v (slv (a).length pa.1)), (1, .v (slv (b).length pb.1)), (5, .v (I (k : Int))), (14, .v (B (decide ((k : Int) < ((a).length : Int)))))], []⟩) .nil (by kernel_rfl) ?_
    clear S; intro ac w β S
    refine RG.done rfl (nx_then ?_)
    refine S.cond (e := (decide ((k : Int) < ((a).length : Int)))) (by kernel_rfl) (fun h4 => ?_) (fun h4 => ?_)
    · have g5 : (k : Int) < ((a).length : Int) := of_decide_eq_true h4
      refine wp_skip (nx_then ?_)
      refine wp_seq ?_
      refine wp_block ?_
      refine wp_seq ?_
      refine S.drawn (keep := [0, 1, 5, 26]) (m := 0) (σ' := ⟨[(0, .v (slv (a).length pa.1)), (1, .v (slv (b).length pb.1)), (5, .v (I (k : Int))), (26, .v (B (!(decide ((el a k) = (el b k))))))], []⟩) (.cons (Q_idx (S.arg ha) (l := (a).length) (k := k) (i := (k : Int)) rfl rfl (by omega) Go.Proofs.Try.underlying47 (by kernel_rfl)) (.cons (Q_el (S.arg ha) (t := 103) (k := k) (by omega) rfl (by kernel_rfl) (by kernel_rfl)) (.cons (Q_idx (S.arg hb) (l := (b).length) (k := k) (i := (k : Int)) rfl rfl (by omega) Go.Proofs.Try.underlying47 (by kernel_rfl)) (.cons (Q_el (S.arg hb) (t := 103) (k := k) (by omega) rfl (by kernel_rfl) (by kernel_rfl)) (.cons (Q_call fun w hw => c_spec_SameGuest w (el a k) (pa.2 k) (rd_of (LRd.el (S.arg ha) k (by omega)) hw) (el b k) (pb.2 k) (rd_of (LRd.el (S.arg hb) k (by omega)) hw)) .nil))))) rfl (by kernel_rfl) (by kernel_rfl) ?_
      clear S; intro ac w S
      refine id (nx_then ?_)
      refine S.cond (e := (!(decide ((el a k) = (el b k))))) (by kernel_rfl) (fun h6 => ?_) (fun h6 => ?_)
      · have h7 : (decide ((el a k) = (el b k))) = false := not_t h6
        have g8 := of_decide_eq_false h7
        refine wp_seq ?_
        refine RG.start ?_
        refine S.quiet (k := 1) (keep := [4]) (m := 0) (σ' := ⟨[(4, .v (B false))], []⟩) .nil (by kernel_rfl) ?_
        clear S; intro ac w β S
        refine RG.done rfl (nx_then ?_)
        refine wp_ret (rt_block (rt_then (rt_then (rt_block (rt_then ?_)))))
        refine S.ret (vs := [B false]) (by kernel_rfl) ?_
        exact ⟨retB (show false = decide (a = b) by clear S; first | (simp; intro e; subst e; simp_all; done) | (simp; rw [take_all (by omega), take_all (by omega)] at he; exact he) | (simp; exact take_ne (by simp_all)) | (symm; exact decide_eq_false (take_ne (by assumption))) | (symm; exact decide_eq_true (by rw [take_all (by omega), take_all (by omega)] at he; exact he)) | (symm; refine decide_eq_false ?_; intro e; rw [e] at *; omega)), S.chg⟩
      · have h9 : (decide ((el a k) = (el b k))) = true := not_f h6
        have g10 := of_decide_eq_true h9
        refine wp_skip (nx_block (nx_then ?_))
        refine RG.start ?_
        refine S.quiet (k := 3) (keep := [0, 1, 5]) (m := 0) (σ' := ⟨[(0, .v (slv (a).length pa.1)), (1, .v (slv (b).length pb.1)), (5, .v (I ((k : Int) + 1)))], []⟩) (.cons (Q_add (x := (k : Int)) (y := 1) ⟨by omega, by omega⟩) .nil) (by kernel_rfl) ?_
        clear S; intro ac w β S
        refine RG.done rfl (nx_then ?_)
        replace S := S.prune (keep := [0, 1, 5]) (m := 0) (σ' := ⟨[(0, .v (slv (a).length pa.1)), (1, .v (slv (b).length pb.1)), (5, .v (I ((k : Int) + 1)))], []⟩) (by kernel_rfl)
        refine ⟨a.length - (k + 1), by omega, k + 1, _, _, _, rfl, ?_, ?_, ?_, S.cast (by kernel_rfl)⟩
        · clear S; first | omega | (simp [*]; done) | (simp [*]; omega)
        · clear S; first | omega | (simp [*]; done) | (simp [*]; omega)
        · clear S; exact take_eq_step (by omega) (by omega) he (by simp_all)
    · have g11 : ¬ ((k : Int) < ((a).length : Int)) := of_decide_eq_false h4
      refine wp_exit (ex_then (ex_then (ex_hit (nx_then ?_))))
      refine wp_seq ?_
      refine RG.start ?_
      refine S.quiet (k := 1) (keep := [4]) (m := 0) (σ' := ⟨[(4, .v (B true))], []⟩) .nil (by kernel_rfl) ?_
      clear S; intro ac w β S
      refine RG.done rfl (nx_then ?_)
      refine wp_ret ?_
      refine S.ret (vs := [B true]) (by kernel_rfl) ?_
      exact ⟨retB (show true = decide (a = b) by clear S; first | (simp; intro e; subst e; simp_all; done) | (simp; rw [take_all (by omega), take_all (by omega)] at he; exact he) | (simp; exact take_ne (by simp_all)) | (symm; exact decide_eq_false (take_ne (by assumption))) | (symm; exact decide_eq_true (by rw [take_all (by omega), take_all (by omega)] at he; exact he)) | (symm; refine decide_eq_false ?_; intro e; rw [e] at *; omega)), S.chg⟩

set_option maxRecDepth 100000 in
theorem c_spec_l07Same (w0 : World) (a : TKept) (pa : PKept) (ha : GT.rd KK (Lt w0.heap.size) w0 a pa) (b : TKept) (pb : PKept) (hb : GT.rd KK (Lt w0.heap.size) w0 b pb) : Calls Go.Proofs.Try.prog 107 [GT.val (α := TKept) a pa, GT.val (α := TKept) b pb].toArray w0 (fun e w' => e = .returned (B (decide (a = b))) ∧ Chg NoB w0 w') := by
  refine Calls.walk (args := [GT.val (α := TKept) a pa, GT.val (α := TKept) b pb]) NoB Go.Proofs.Try.func107 rfl rfl ?_
  intro ac β S
  have hlea_known : a.known.length ≤ 4194304 := LRd.le (RKept.known (d := a) ha)
  have hlea_slots : a.slots.length ≤ 4194304 := LRd.le (RKept.slots (d := a) ha)
  have hleb_known : b.known.length ≤ 4194304 := LRd.le (RKept.known (d := b) hb)
  have hleb_slots : b.slots.length ≤ 4194304 := LRd.le (RKept.slots (d := b) hb)
  refine wp_seq ?_
  refine RG.start ?_
  refine S.quiet (k := 3) (keep := [2, 3]) (m := 2) (σ' := ⟨[(2, .p 0 0), (3, .p 1 0)], [GT.cells (α := TKept) a pa, GT.cells (α := TKept) b pb]⟩) .nil (by kernel_rfl) ?_
  clear S; intro ac w β S
  refine RG.done rfl (nx_then ?_)
  refine wp_seq ?_
  refine wp_seq ?_
  refine RG.start ?_
  refine S.quiet (k := 8) (keep := [2, 3, 13]) (m := 2) (σ' := ⟨[(2, .p 0 0), (3, .p 1 0), (13, .v (B (((a.known).length : Int) != ((b.known).length : Int))))], [GT.cells (α := TKept) a pa, GT.cells (α := TKept) b pb]⟩) .nil (by kernel_rfl) ?_
  clear S; intro ac w β S
  rcases Bool.eq_false_or_eq_true (((a.known).length : Int) != ((b.known).length : Int)) with h1 | h1 <;> rw [h1] at S
  · have g2 : ¬ (((a.known).length : Int) = ((b.known).length : Int)) := bne_iff_ne.1 h1
    refine S.quiet (k := 7) (keep := [2, 3, 20]) (m := 2) (σ' := ⟨[(2, .p 0 0), (3, .p 1 0), (20, .v (B true))], [GT.cells (α := TKept) a pa, GT.cells (α := TKept) b pb]⟩) .nil (by kernel_rfl) ?_
    clear S; intro ac w β S
    refine RG.done rfl (nx_then ?_)
    refine S.cond (e := true) (by kernel_rfl) (fun _ => ?_) (fun hx => by cases hx)
    refine wp_seq ?_
    refine RG.start ?_
    refine S.quiet (k := 1) (keep := [4]) (m := 0) (σ' := ⟨[(4, .v (B false))], []⟩) .nil (by kernel_rfl) ?_
    clear S; intro ac w β S
    refine RG.done rfl (nx_then ?_)
    refine wp_ret (rt_then ?_)
    refine S.ret (vs := [B false]) (by kernel_rfl) ?_
    exact ⟨retB (show false = decide (a = b) by clear S; (first | (symm; refine decide_eq_false ?_; intro e; subst e; simp_all; done) | (symm; refine decide_eq_true ?_; (have hk2 : a.known = b.known := (by rw [take_all (by omega), take_all (by omega)] at he; exact he)); rw [TKept.ext_iff]; simp_all; done))), S.chg⟩
  · have g3 : ((a.known).length : Int) = ((b.known).length : Int) := ne_f h1
    refine S.quiet (k := 7) (keep := [2, 3, 20]) (m := 2) (σ' := ⟨[(2, .p 0 0), (3, .p 1 0), (20, .v (B (!(decide (a.slots = b.slots)))))], [GT.cells (α := TKept) a pa, GT.cells (α := TKept) b pb]⟩) (.cons (Q_call fun w hw => c_spec_SameTable w a.slots pa.slots (rd_of (RKept.slots (d := a) (S.arg ha)) hw) b.slots pb.slots (rd_of (RKept.slots (d := b) (S.arg hb)) hw)) .nil) (by kernel_rfl) ?_
    clear S; intro ac w β S
    refine RG.done rfl (nx_then ?_)
    refine S.cond (e := (!(decide (a.slots = b.slots)))) (by kernel_rfl) (fun h4 => ?_) (fun h4 => ?_)
    · have h5 : (decide (a.slots = b.slots)) = false := not_t h4
      have g6 := of_decide_eq_false h5
      refine wp_seq ?_
      refine RG.start ?_
      refine S.quiet (k := 1) (keep := [4]) (m := 0) (σ' := ⟨[(4, .v (B false))], []⟩) .nil (by kernel_rfl) ?_
      clear S; intro ac w β S
      refine RG.done rfl (nx_then ?_)
      refine wp_ret (rt_then ?_)
      refine S.ret (vs := [B false]) (by kernel_rfl) ?_
      exact ⟨retB (show false = decide (a = b) by clear S; (first | (symm; refine decide_eq_false ?_; intro e; subst e; simp_all; done) | (symm; refine decide_eq_true ?_; (have hk2 : a.known = b.known := (by rw [take_all (by omega), take_all (by omega)] at he; exact he)); rw [TKept.ext_iff]; simp_all; done))), S.chg⟩
    · have h7 : (decide (a.slots = b.slots)) = true := not_f h4
      have g8 := of_decide_eq_true h7
      refine wp_skip (nx_then ?_)
      refine wp_seq ?_
      refine wp_seq ?_
      refine RG.start ?_
      refine S.quiet (k := 1) (keep := [2, 3, 5]) (m := 2) (σ' := ⟨[(2, .p 0 0), (3, .p 1 0), (5, .v (I 0))], [GT.cells (α := TKept) a pa, GT.cells (α := TKept) b pb]⟩) .nil (by kernel_rfl) ?_
      clear S; intro ac w β S
      refine RG.done rfl (nx_then ?_)
      refine wp_block ?_
      replace S := S.prune (keep := [2, 3, 5]) (m := 2) (σ' := ⟨[(2, .p 0 0), (3, .p 1 0), (5, .v (I 0))], [GT.cells (α := TKept) a pa, GT.cells (α := TKept) b pb]⟩) (by kernel_rfl)
      refine wp_loop_down (fun mm ac w => ∃ (k : Nat)  (u : World) (N : Bl) (β : Nat → Nat), mm = a.known.length - k ∧ (k ≤ a.known.length) ∧ (a.known.length = b.known.length) ∧ (a.known.take k = b.known.take k) ∧ St Go.Proofs.Try.prog Go.Proofs.Try.f107.ntmps w0 NoB u N β ⟨[(2, .p 0 0), (3, .p 1 0), (5, .v (I (k : Int)))], [GT.cells (α := TKept) a pa, GT.cells (α := TKept) b pb]⟩ ac w) _ ⟨0, _, _, _, rfl, (by first | omega | (simp; done) | (simp; omega)), (by first | omega | (simp; done) | (simp; omega)), (by simp), S.cast (by kernel_rfl)⟩ ?_
      clear S
      rintro mm ac w ⟨k, u, N, β, rfl, hk, hab, he, S⟩
      refine wp_seq ?_
      refine wp_seq ?_
      refine RG.start ?_
      refine S.quiet (k := 5) (keep := [2, 3, 5, 25]) (m := 2) (σ' := ⟨[(2, .p 0 0), (3, .p 1 0), (5, .v (I (k : Int))), (25, .v (B (decide ((k : Int) < ((a.known).length : Int)))))], [GT.cells (α := TKept) a pa, GT.cells (α := TKept) b pb]⟩) .nil (by kernel_rfl) ?_
      clear S; intro ac w β S
      refine RG.done rfl (nx_then ?_)
      refine S.cond (e := (decide ((k : Int) < ((a.known).length : Int)))) (by kernel_rfl) (fun h9 => ?_) (fun h9 => ?_)
      · have g10 : (k : Int) < ((a.known).length : Int) := of_decide_eq_true h9
        refine wp_skip (nx_then ?_)
        refine wp_seq ?_
        refine wp_block ?_
        refine wp_seq ?_
        refine S.drawn (keep := [2, 3, 5, 38]) (m := 2) (σ' := ⟨[(2, .p 0 0), (3, .p 1 0), (5, .v (I (k : Int))), (38, .v (B (!((el a.known k) == (el b.known k)))))], [GT.cells (α := TKept) a pa, GT.cells (α := TKept) b pb]⟩) (.cons (Q_idx (RKept.known (d := a) (S.arg ha)) (l := (a.known).length) (k := k) (i := (k : Int)) rfl rfl (by omega) Go.Proofs.Try.underlying46 (by kernel_rfl)) (.cons (Q_el1 (RKept.known (d := a) (S.arg ha)) (t := 4) (k := k) (by omega) rfl (by kernel_rfl)) (.cons (Q_idx (RKept.known (d := b) (S.arg hb)) (l := (b.known).length) (k := k) (i := (k : Int)) rfl rfl (by omega) Go.Proofs.Try.underlying46 (by kernel_rfl)) (.cons (Q_el1 (RKept.known (d := b) (S.arg hb)) (t := 4) (k := k) (by omega) rfl (by kernel_rfl)) .nil)))) rfl (by kernel_rfl) (by kernel_rfl) ?_
        clear S; intro ac w S
        refine id (nx_then ?_)
        refine S.cond (e := (!((el a.known k) == (el b.known k)))) (by kernel_rfl) (fun h11 => ?_) (fun h11 => ?_)
        · have h12 : ((el a.known k) == (el b.known k)) = false := not_t h11
          have g13 : ¬ ((el a.known k) = (el b.known k)) := ne_of_beq_false h12
          refine wp_seq ?_
          refine RG.start ?_
          refine S.quiet (k := 1) (keep := [4]) (m := 0) (σ' := ⟨[(4, .v (B false))], []⟩) .nil (by kernel_rfl) ?_
          clear S; intro ac w β S
          refine RG.done rfl (nx_then ?_)
          refine wp_ret (rt_block (rt_then (rt_then (rt_block (rt_then ?_)))))
          refine S.ret (vs := [B false]) (by kernel_rfl) ?_
          exact ⟨retB (show false = decide (a = b) by clear S; (first | (symm; refine decide_eq_false ?_; intro e; subst e; simp_all; done) | (symm; refine decide_eq_true ?_; (have hk2 : a.known = b.known := (by rw [take_all (by omega), take_all (by omega)] at he; exact he)); rw [TKept.ext_iff]; simp_all; done))), S.chg⟩
        · have h14 : ((el a.known k) == (el b.known k)) = true := not_f h11
          have g15 : (el a.known k) = (el b.known k) := eq_of_beq h14
          refine wp_skip (nx_block (nx_then ?_))
          refine RG.start ?_
          refine S.quiet (k := 3) (keep := [2, 3, 5]) (m := 2) (σ' := ⟨[(2, .p 0 0), (3, .p 1 0), (5, .v (I ((k : Int) + 1)))], [GT.cells (α := TKept) a pa, GT.cells (α := TKept) b pb]⟩) (.cons (Q_add (x := (k : Int)) (y := 1) ⟨by omega, by omega⟩) .nil) (by kernel_rfl) ?_
          clear S; intro ac w β S
          refine RG.done rfl (nx_then ?_)
          replace S := S.prune (keep := [2, 3, 5]) (m := 2) (σ' := ⟨[(2, .p 0 0), (3, .p 1 0), (5, .v (I ((k : Int) + 1)))], [GT.cells (α := TKept) a pa, GT.cells (α := TKept) b pb]⟩) (by kernel_rfl)
          refine ⟨a.known.length - (k + 1), by omega, k + 1, _, _, _, rfl, ?_, ?_, ?_, S.cast (by kernel_rfl)⟩
          · clear S; first | omega | (simp [*]; done) | (simp [*]; omega)
          · clear S; first | omega | (simp [*]; done) | (simp [*]; omega)
          · clear S; exact take_eq_step (by omega) (by omega) he (by simp_all)
      · have g16 : ¬ ((k : Int) < ((a.known).length : Int)) := of_decide_eq_false h9
        refine wp_exit (ex_then (ex_then (ex_hit (nx_then ?_))))
        refine wp_seq ?_
        refine RG.start ?_
        refine S.quiet (k := 1) (keep := [4]) (m := 0) (σ' := ⟨[(4, .v (B true))], []⟩) .nil (by kernel_rfl) ?_
        clear S; intro ac w β S
        refine RG.done rfl (nx_then ?_)
        refine wp_ret ?_
        refine S.ret (vs := [B true]) (by kernel_rfl) ?_
        exact ⟨retB (show true = decide (a = b) by clear S; (first | (symm; refine decide_eq_false ?_; intro e; subst e; simp_all; done) | (symm; refine decide_eq_true ?_; (have hk2 : a.known = b.known := (by rw [take_all (by omega), take_all (by omega)] at he; exact he)); rw [TKept.ext_iff]; simp_all; done))), S.chg⟩

set_option maxRecDepth 100000 in
theorem c_spec_l21SameMon (w0 : World) (a : TMon) (pa : PMon) (ha : GT.rd KK (Lt w0.heap.size) w0 a pa) (b : TMon) (pb : PMon) (hb : GT.rd KK (Lt w0.heap.size) w0 b pb) : Calls Go.Proofs.Try.prog 45 [GT.val (α := TMon) a pa, GT.val (α := TMon) b pb].toArray w0 (fun e w' => e = .returned (B (decide (a = b))) ∧ Chg NoB w0 w') := by
  refine Calls.walk (args := [GT.val (α := TMon) a pa, GT.val (α := TMon) b pb]) NoB Go.Proofs.Try.func45 rfl rfl ?_
  intro ac β S
  have hlea_outer : a.outer.length ≤ 4194304 := LRd.le (RMon.outer (d := a) ha)
  have hlea_out : a.out.length ≤ 4194304 := LRd.le (RMon.out (d := a) ha)
  have hlea_dirty : a.dirty.length ≤ 4194304 := LRd.le (RMon.dirty (d := a) ha)
  have hlea_guests : a.guests.length ≤ 4194304 := LRd.le (RMon.guests (d := a) ha)
  have hlea_outs : a.outs.length ≤ 4194304 := LRd.le (RMon.outs (d := a) ha)
  have hlea_tables : a.tables.length ≤ 4194304 := LRd.le (RMon.tables (d := a) ha)
  have hleb_outer : b.outer.length ≤ 4194304 := LRd.le (RMon.outer (d := b) hb)
  have hleb_out : b.out.length ≤ 4194304 := LRd.le (RMon.out (d := b) hb)
  have hleb_dirty : b.dirty.length ≤ 4194304 := LRd.le (RMon.dirty (d := b) hb)
  have hleb_guests : b.guests.length ≤ 4194304 := LRd.le (RMon.guests (d := b) hb)
  have hleb_outs : b.outs.length ≤ 4194304 := LRd.le (RMon.outs (d := b) hb)
  have hleb_tables : b.tables.length ≤ 4194304 := LRd.le (RMon.tables (d := b) hb)
  refine wp_seq ?_
  refine RG.start ?_
  refine S.quiet (k := 3) (keep := [2, 3]) (m := 2) (σ' := ⟨[(2, .p 0 0), (3, .p 1 0)], [GT.cells (α := TMon) a pa, GT.cells (α := TMon) b pb]⟩) .nil (by kernel_rfl) ?_
  clear S; intro ac w β S
  refine RG.done rfl (nx_then ?_)
  refine wp_seq ?_
  refine wp_seq ?_
  refine RG.start ?_
  refine S.quiet (k := 7) (keep := [2, 3, 12]) (m := 2) (σ' := ⟨[(2, .p 0 0), (3, .p 1 0), (12, .v (B (!(decide (a.outer = b.outer)))))], [GT.cells (α := TMon) a pa, GT.cells (α := TMon) b pb]⟩) (.cons (Q_call fun w hw => c_spec_SameTable w a.outer pa.outer (rd_of (RMon.outer (d := a) (S.arg ha)) hw) b.outer pb.outer (rd_of (RMon.outer (d := b) (S.arg hb)) hw)) .nil) (by kernel_rfl) ?_
  clear S; intro ac w β S
  rcases Bool.eq_false_or_eq_true (!(decide (a.outer = b.outer))) with h1 | h1 <;> rw [h1] at S
  · have h2 : (decide (a.outer = b.outer)) = false := not_t h1
    have g3 := of_decide_eq_false h2
    refine S.quiet (k := 61) (keep := [2, 3, 73]) (m := 2) (σ' := ⟨[(2, .p 0 0), (3, .p 1 0), (73, .v (B true))], [GT.cells (α := TMon) a pa, GT.cells (α := TMon) b pb]⟩) .nil (by kernel_rfl) ?_
    clear S; intro ac w β S
    refine RG.done rfl (nx_then ?_)
    refine S.cond (e := true) (by kernel_rfl) (fun _ => ?_) (fun hx => by cases hx)
    refine wp_seq ?_
    refine RG.start ?_
    refine S.quiet (k := 1) (keep := [4]) (m := 0) (σ' := ⟨[(4, .v (B false))], []⟩) .nil (by kernel_rfl) ?_
    clear S; intro ac w β S
    refine RG.done rfl (nx_then ?_)
    refine wp_ret (rt_then ?_)
    refine S.ret (vs := [B false]) (by kernel_rfl) ?_
    exact ⟨retB (show false = decide (a = b) by clear S; (first | (symm; refine decide_eq_false ?_; intro e; subst e; simp_all; done) | (symm; refine decide_eq_true ?_; (have hk2 : a.tables = b.tables := (by rw [take_all (by omega), take_all (by omega)] at he; exact he)); rw [TMon.ext_iff]; simp_all; done))), S.chg⟩
  · have h4 : (decide (a.outer = b.outer)) = true := not_f h1
    have g5 := of_decide_eq_true h4
    refine S.quiet (k := 8) (keep := [2, 3, 20]) (m := 2) (σ' := ⟨[(2, .p 0 0), (3, .p 1 0), (20, .v (B (!(decide (a.out = b.out)))))], [GT.cells (α := TMon) a pa, GT.cells (α := TMon) b pb]⟩) (.cons (Q_call fun w hw => c_spec_SameMem w a.out pa.out (rd_of (RMon.out (d := a) (S.arg ha)) hw) b.out pb.out (rd_of (RMon.out (d := b) (S.arg hb)) hw)) .nil) (by kernel_rfl) ?_
    clear S; intro ac w β S
    rcases Bool.eq_false_or_eq_true (!(decide (a.out = b.out))) with h6 | h6 <;> rw [h6] at S
    · have h7 : (decide (a.out = b.out)) = false := not_t h6
      have g8 := of_decide_eq_false h7
      refine S.quiet (k := 53) (keep := [2, 3, 73]) (m := 2) (σ' := ⟨[(2, .p 0 0), (3, .p 1 0), (73, .v (B true))], [GT.cells (α := TMon) a pa, GT.cells (α := TMon) b pb]⟩) .nil (by kernel_rfl) ?_
      clear S; intro ac w β S
      refine RG.done rfl (nx_then ?_)
      refine S.cond (e := true) (by kernel_rfl) (fun _ => ?_) (fun hx => by cases hx)
      refine wp_seq ?_
      refine RG.start ?_
      refine S.quiet (k := 1) (keep := [4]) (m := 0) (σ' := ⟨[(4, .v (B false))], []⟩) .nil (by kernel_rfl) ?_
      clear S; intro ac w β S
      refine RG.done rfl (nx_then ?_)
      refine wp_ret (rt_then ?_)
      refine S.ret (vs := [B false]) (by kernel_rfl) ?_
      exact ⟨retB (show false = decide (a = b) by clear S; (first | (symm; refine decide_eq_false ?_; intro e; subst e; simp_all; done) | (symm; refine decide_eq_true ?_; (have hk2 : a.tables = b.tables := (by rw [take_all (by omega), take_all (by omega)] at he; exact he)); rw [TMon.ext_iff]; simp_all; done))), S.chg⟩
    · have h9 : (decide (a.out = b.out)) = true := not_f h6
      have g10 := of_decide_eq_true h9
      refine S.quiet (k := 8) (keep := [2, 3, 28]) (m := 2) (σ' := ⟨[(2, .p 0 0), (3, .p 1 0), (28, .v (B (!(decide (a.dirty = b.dirty)))))], [GT.cells (α := TMon) a pa, GT.cells (α := TMon) b pb]⟩) (.cons (Q_call fun w hw => c_spec_l21Bits w a.dirty pa.dirty (rd_of (RMon.dirty (d := a) (S.arg ha)) hw) b.dirty pb.dirty (rd_of (RMon.dirty (d := b) (S.arg hb)) hw)) .nil) (by kernel_rfl) ?_
      clear S; intro ac w β S
      rcases Bool.eq_false_or_eq_true (!(decide (a.dirty = b.dirty))) with h11 | h11 <;> rw [h11] at S
      · have h12 : (decide (a.dirty = b.dirty)) = false := not_t h11
        have g13 := of_decide_eq_false h12
        refine S.quiet (k := 45) (keep := [2, 3, 73]) (m := 2) (σ' := ⟨[(2, .p 0 0), (3, .p 1 0), (73, .v (B true))], [GT.cells (α := TMon) a pa, GT.cells (α := TMon) b pb]⟩) .nil (by kernel_rfl) ?_
        clear S; intro ac w β S
        refine RG.done rfl (nx_then ?_)
        refine S.cond (e := true) (by kernel_rfl) (fun _ => ?_) (fun hx => by cases hx)
        refine wp_seq ?_
        refine RG.start ?_
        refine S.quiet (k := 1) (keep := [4]) (m := 0) (σ' := ⟨[(4, .v (B false))], []⟩) .nil (by kernel_rfl) ?_
        clear S; intro ac w β S
        refine RG.done rfl (nx_then ?_)
        refine wp_ret (rt_then ?_)
        refine S.ret (vs := [B false]) (by kernel_rfl) ?_
        exact ⟨retB (show false = decide (a = b) by clear S; (first | (symm; refine decide_eq_false ?_; intro e; subst e; simp_all; done) | (symm; refine decide_eq_true ?_; (have hk2 : a.tables = b.tables := (by rw [take_all (by omega), take_all (by omega)] at he; exact he)); rw [TMon.ext_iff]; simp_all; done))), S.chg⟩
      · have h14 : (decide (a.dirty = b.dirty)) = true := not_f h11
        have g15 := of_decide_eq_true h14
        refine S.quiet (k := 8) (keep := [2, 3, 36]) (m := 2) (σ' := ⟨[(2, .p 0 0), (3, .p 1 0), (36, .v (B (!(decide (a.guests = b.guests)))))], [GT.cells (α := TMon) a pa, GT.cells (α := TMon) b pb]⟩) (.cons (Q_call fun w hw => c_spec_l17SameGuests w a.guests pa.guests (rd_of (RMon.guests (d := a) (S.arg ha)) hw) b.guests pb.guests (rd_of (RMon.guests (d := b) (S.arg hb)) hw)) .nil) (by kernel_rfl) ?_
        clear S; intro ac w β S
        rcases Bool.eq_false_or_eq_true (!(decide (a.guests = b.guests))) with h16 | h16 <;> rw [h16] at S
        · have h17 : (decide (a.guests = b.guests)) = false := not_t h16
          have g18 := of_decide_eq_false h17
          refine S.quiet (k := 37) (keep := [2, 3, 73]) (m := 2) (σ' := ⟨[(2, .p 0 0), (3, .p 1 0), (73, .v (B true))], [GT.cells (α := TMon) a pa, GT.cells (α := TMon) b pb]⟩) .nil (by kernel_rfl) ?_
          clear S; intro ac w β S
          refine RG.done rfl (nx_then ?_)
          refine S.cond (e := true) (by kernel_rfl) (fun _ => ?_) (fun hx => by cases hx)
          refine wp_seq ?_
          refine RG.start ?_
          refine S.quiet (k := 1) (keep := [4]) (m := 0) (σ' := ⟨[(4, .v (B false))], []⟩) .nil (by kernel_rfl) ?_
          clear S; intro ac w β S
          refine RG.done rfl (nx_then ?_)
          refine wp_ret (rt_then ?_)
          refine S.ret (vs := [B false]) (by kernel_rfl) ?_
          exact ⟨retB (show false = decide (a = b) by clear S; (first | (symm; refine decide_eq_false ?_; intro e; subst e; simp_all; done) | (symm; refine decide_eq_true ?_; (have hk2 : a.tables = b.tables := (by rw [take_all (by omega), take_all (by omega)] at he; exact he)); rw [TMon.ext_iff]; simp_all; done))), S.chg⟩
        · have h19 : (decide (a.guests = b.guests)) = true := not_f h16
          have g20 := of_decide_eq_true h19
          refine S.quiet (k := 8) (keep := [2, 3, 44]) (m := 2) (σ' := ⟨[(2, .p 0 0), (3, .p 1 0), (44, .v (B (!(decide (a.outs = b.outs)))))], [GT.cells (α := TMon) a pa, GT.cells (α := TMon) b pb]⟩) (.cons (Q_call fun w hw => c_spec_l04Ints w a.outs pa.outs (rd_of (RMon.outs (d := a) (S.arg ha)) hw) b.outs pb.outs (rd_of (RMon.outs (d := b) (S.arg hb)) hw)) .nil) (by kernel_rfl) ?_
          clear S; intro ac w β S
          rcases Bool.eq_false_or_eq_true (!(decide (a.outs = b.outs))) with h21 | h21 <;> rw [h21] at S
          · have h22 : (decide (a.outs = b.outs)) = false := not_t h21
            have g23 := of_decide_eq_false h22
            refine S.quiet (k := 29) (keep := [2, 3, 73]) (m := 2) (σ' := ⟨[(2, .p 0 0), (3, .p 1 0), (73, .v (B true))], [GT.cells (α := TMon) a pa, GT.cells (α := TMon) b pb]⟩) .nil (by kernel_rfl) ?_
            clear S; intro ac w β S
            refine RG.done rfl (nx_then ?_)
            refine S.cond (e := true) (by kernel_rfl) (fun _ => ?_) (fun hx => by cases hx)
            refine wp_seq ?_
            refine RG.start ?_
            refine S.quiet (k := 1) (keep := [4]) (m := 0) (σ' := ⟨[(4, .v (B false))], []⟩) .nil (by kernel_rfl) ?_
            clear S; intro ac w β S
            refine RG.done rfl (nx_then ?_)
            refine wp_ret (rt_then ?_)
            refine S.ret (vs := [B false]) (by kernel_rfl) ?_
            exact ⟨retB (show false = decide (a = b) by clear S; (first | (symm; refine decide_eq_false ?_; intro e; subst e; simp_all; done) | (symm; refine decide_eq_true ?_; (have hk2 : a.tables = b.tables := (by rw [take_all (by omega), take_all (by omega)] at he; exact he)); rw [TMon.ext_iff]; simp_all; done))), S.chg⟩
          · have h24 : (decide (a.outs = b.outs)) = true := not_f h21
            have g25 := of_decide_eq_true h24
            refine S.quiet (k := 7) (keep := [2, 3, 51]) (m := 2) (σ' := ⟨[(2, .p 0 0), (3, .p 1 0), (51, .v (B (a.pend != b.pend)))], [GT.cells (α := TMon) a pa, GT.cells (α := TMon) b pb]⟩) .nil (by kernel_rfl) ?_
            clear S; intro ac w β S
            rcases Bool.eq_false_or_eq_true (a.pend != b.pend) with h26 | h26 <;> rw [h26] at S
            · have g27 : ¬ (a.pend = b.pend) := bne_iff_ne.1 h26
              refine S.quiet (k := 22) (keep := [2, 3, 73]) (m := 2) (σ' := ⟨[(2, .p 0 0), (3, .p 1 0), (73, .v (B true))], [GT.cells (α := TMon) a pa, GT.cells (α := TMon) b pb]⟩) .nil (by kernel_rfl) ?_
              clear S; intro ac w β S
              refine RG.done rfl (nx_then ?_)
              refine S.cond (e := true) (by kernel_rfl) (fun _ => ?_) (fun hx => by cases hx)
              refine wp_seq ?_
              refine RG.start ?_
              refine S.quiet (k := 1) (keep := [4]) (m := 0) (σ' := ⟨[(4, .v (B false))], []⟩) .nil (by kernel_rfl) ?_
              clear S; intro ac w β S
              refine RG.done rfl (nx_then ?_)
              refine wp_ret (rt_then ?_)
              refine S.ret (vs := [B false]) (by kernel_rfl) ?_
              exact ⟨retB (show false = decide (a = b) by clear S; (first | (symm; refine decide_eq_false ?_; intro e; subst e; simp_all; done) | (symm; refine decide_eq_true ?_; (have hk2 : a.tables = b.tables := (by rw [take_all (by omega), take_all (by omega)] at he; exact he)); rw [TMon.ext_iff]; simp_all; done))), S.chg⟩
            · have g28 : a.pend = b.pend := ne_f h26
              refine S.quiet (k := 7) (keep := [2, 3, 58]) (m := 2) (σ' := ⟨[(2, .p 0 0), (3, .p 1 0), (58, .v (B (a.traps != b.traps)))], [GT.cells (α := TMon) a pa, GT.cells (α := TMon) b pb]⟩) .nil (by kernel_rfl) ?_
              clear S; intro ac w β S
              rcases Bool.eq_false_or_eq_true (a.traps != b.traps) with h29 | h29 <;> rw [h29] at S
              · have g30 : ¬ (a.traps = b.traps) := bne_iff_ne.1 h29
                refine S.quiet (k := 15) (keep := [2, 3, 73]) (m := 2) (σ' := ⟨[(2, .p 0 0), (3, .p 1 0), (73, .v (B true))], [GT.cells (α := TMon) a pa, GT.cells (α := TMon) b pb]⟩) .nil (by kernel_rfl) ?_
                clear S; intro ac w β S
                refine RG.done rfl (nx_then ?_)
                refine S.cond (e := true) (by kernel_rfl) (fun _ => ?_) (fun hx => by cases hx)
                refine wp_seq ?_
                refine RG.start ?_
                refine S.quiet (k := 1) (keep := [4]) (m := 0) (σ' := ⟨[(4, .v (B false))], []⟩) .nil (by kernel_rfl) ?_
                clear S; intro ac w β S
                refine RG.done rfl (nx_then ?_)
                refine wp_ret (rt_then ?_)
                refine S.ret (vs := [B false]) (by kernel_rfl) ?_
                exact ⟨retB (show false = decide (a = b) by clear S; (first | (symm; refine decide_eq_false ?_; intro e; subst e; simp_all; done) | (symm; refine decide_eq_true ?_; (have hk2 : a.tables = b.tables := (by rw [take_all (by omega), take_all (by omega)] at he; exact he)); rw [TMon.ext_iff]; simp_all; done))), S.chg⟩
              · have g31 : a.traps = b.traps := ne_f h29
                refine S.quiet (k := 7) (keep := [2, 3, 65]) (m := 2) (σ' := ⟨[(2, .p 0 0), (3, .p 1 0), (65, .v (B (a.owned != b.owned)))], [GT.cells (α := TMon) a pa, GT.cells (α := TMon) b pb]⟩) .nil (by kernel_rfl) ?_
                clear S; intro ac w β S
                rcases Bool.eq_false_or_eq_true (a.owned != b.owned) with h32 | h32 <;> rw [h32] at S
                · have g33 : ¬ (a.owned = b.owned) := bne_iff_ne.1 h32
                  refine S.quiet (k := 8) (keep := [2, 3, 73]) (m := 2) (σ' := ⟨[(2, .p 0 0), (3, .p 1 0), (73, .v (B true))], [GT.cells (α := TMon) a pa, GT.cells (α := TMon) b pb]⟩) .nil (by kernel_rfl) ?_
                  clear S; intro ac w β S
                  refine RG.done rfl (nx_then ?_)
                  refine S.cond (e := true) (by kernel_rfl) (fun _ => ?_) (fun hx => by cases hx)
                  refine wp_seq ?_
                  refine RG.start ?_
                  refine S.quiet (k := 1) (keep := [4]) (m := 0) (σ' := ⟨[(4, .v (B false))], []⟩) .nil (by kernel_rfl) ?_
                  clear S; intro ac w β S
                  refine RG.done rfl (nx_then ?_)
                  refine wp_ret (rt_then ?_)
                  refine S.ret (vs := [B false]) (by kernel_rfl) ?_
                  exact ⟨retB (show false = decide (a = b) by clear S; (first | (symm; refine decide_eq_false ?_; intro e; subst e; simp_all; done) | (symm; refine decide_eq_true ?_; (have hk2 : a.tables = b.tables := (by rw [take_all (by omega), take_all (by omega)] at he; exact he)); rw [TMon.ext_iff]; simp_all; done))), S.chg⟩
                · have g34 : a.owned = b.owned := ne_f h32
                  refine S.quiet (k := 8) (keep := [2, 3, 73]) (m := 2) (σ' := ⟨[(2, .p 0 0), (3, .p 1 0), (73, .v (B (((a.tables).length : Int) != ((b.tables).length : Int))))], [GT.cells (α := TMon) a pa, GT.cells (α := TMon) b pb]⟩) .nil (by kernel_rfl) ?_
                  clear S; intro ac w β S
                  refine RG.done rfl (nx_then ?_)
                  refine S.cond (e := (((a.tables).length : Int) != ((b.tables).length : Int))) (by kernel_rfl) (fun h35 => ?_) (fun h35 => ?_)
                  · have g36 : ¬ (((a.tables).length : Int) = ((b.tables).length : Int)) := bne_iff_ne.1 h35
                    refine wp_seq ?_
                    refine RG.start ?_
                    refine S.quiet (k := 1) (keep := [4]) (m := 0) (σ' := ⟨[(4, .v (B false))], []⟩) .nil (by kernel_rfl) ?_
                    clear S; intro ac w β S
                    refine RG.done rfl (nx_then ?_)
                    refine wp_ret (rt_then ?_)
                    refine S.ret (vs := [B false]) (by kernel_rfl) ?_
                    exact ⟨retB (show false = decide (a = b) by clear S; (first | (symm; refine decide_eq_false ?_; intro e; subst e; simp_all; done) | (symm; refine decide_eq_true ?_; (have hk2 : a.tables = b.tables := (by rw [take_all (by omega), take_all (by omega)] at he; exact he)); rw [TMon.ext_iff]; simp_all; done))), S.chg⟩
                  · have g37 : ((a.tables).length : Int) = ((b.tables).length : Int) := ne_f h35
                    refine wp_skip (nx_then ?_)
                    refine wp_seq ?_
                    refine wp_seq ?_
                    refine RG.start ?_
                    refine S.quiet (k := 1) (keep := [2, 3, 5]) (m := 2) (σ' := ⟨[(2, .p 0 0), (3, .p 1 0), (5, .v (I 0))], [GT.cells (α := TMon) a pa, GT.cells (α := TMon) b pb]⟩) .nil (by kernel_rfl) ?_
                    clear S; intro ac w β S
                    refine RG.done rfl (nx_then ?_)
                    refine wp_block ?_
                    replace S := S.prune (keep := [2, 3, 5]) (m := 2) (σ' := ⟨[(2, .p 0 0), (3, .p 1 0), (5, .v (I 0))], [GT.cells (α := TMon) a pa, GT.cells (α := TMon) b pb]⟩) (by kernel_rfl)
                    refine wp_loop_down (fun mm ac w => ∃ (k : Nat)  (u : World) (N : Bl) (β : Nat → Nat), mm = a.tables.length - k ∧ (k ≤ a.tables.length) ∧ (a.tables.length = b.tables.length) ∧ (a.tables.take k = b.tables.take k) ∧ St Go.Proofs.Try.prog Go.Proofs.Try.f45.ntmps w0 NoB u N β ⟨[(2, .p 0 0), (3, .p 1 0), (5, .v (I (k : Int)))], [GT.cells (α := TMon) a pa, GT.cells (α := TMon) b pb]⟩ ac w) _ ⟨0, _, _, _, rfl, (by first | omega | (simp; done) | (simp; omega)), (by first | omega | (simp; done) | (simp; omega)), (by simp), S.cast (by kernel_rfl)⟩ ?_
                    clear S
                    rintro mm ac w ⟨k, u, N, β, rfl, hk, hab, he, S⟩
                    refine wp_seq ?_
                    refine wp_seq ?_
                    refine RG.start ?_
                    refine S.quiet (k := 5) (keep := [2, 3, 5, 78]) (m := 2) (σ' := ⟨[(2, .p 0 0), (3, .p 1 0), (5, .v (I (k : Int))), (78, .v (B (decide ((k : Int) < ((a.tables).length : Int)))))], [GT.cells (α := TMon) a pa, GT.cells (α := TMon) b pb]⟩) .nil (by kernel_rfl) ?_
                    clear S; intro ac w β S
                    refine RG.done rfl (nx_then ?_)
                    refine S.cond (e := (decide ((k : Int) < ((a.tables).length : Int)))) (by kernel_rfl) (fun h38 => ?_) (fun h38 => ?_)
                    · have g39 : (k : Int) < ((a.tables).length : Int) := of_decide_eq_true h38
                      refine wp_skip (nx_then ?_)
                      refine wp_seq ?_
                      refine wp_block ?_
                      refine wp_seq ?_
                      refine S.drawn (keep := [2, 3, 5, 92]) (m := 2) (σ' := ⟨[(2, .p 0 0), (3, .p 1 0), (5, .v (I (k : Int))), (92, .v (B (!(decide ((el a.tables k) = (el b.tables k))))))], [GT.cells (α := TMon) a pa, GT.cells (α := TMon) b pb]⟩) (.cons (Q_idx (RMon.tables (d := a) (S.arg ha)) (l := (a.tables).length) (k := k) (i := (k : Int)) rfl rfl (by omega) Go.Proofs.Try.underlying48 (by kernel_rfl)) (.cons (Q_el (RMon.tables (d := a) (S.arg ha)) (t := 106) (k := k) (by omega) rfl (by kernel_rfl) (by kernel_rfl)) (.cons (Q_idx (RMon.tables (d := b) (S.arg hb)) (l := (b.tables).length) (k := k) (i := (k : Int)) rfl rfl (by omega) Go.Proofs.Try.underlying48 (by kernel_rfl)) (.cons (Q_el (RMon.tables (d := b) (S.arg hb)) (t := 106) (k := k) (by omega) rfl (by kernel_rfl) (by kernel_rfl)) (.cons (Q_call fun w hw => c_spec_l07Same w (el a.tables k) (pa.tables.2 k) (rd_of (LRd.el (RMon.tables (d := a) (S.arg ha)) k (by omega)) hw) (el b.tables k) (pb.tables.2 k) (rd_of (LRd.el (RMon.tables (d := b) (S.arg hb)) k (by omega)) hw)) .nil))))) rfl (by kernel_rfl) (by kernel_rfl) ?_
                      clear S; intro ac w S
                      refine id (nx_then ?_)
                      refine S.cond (e := (!(decide ((el a.tables k) = (el b.tables k))))) (by kernel_rfl) (fun h40 => ?_) (fun h40 => ?_)
                      · have h41 : (decide ((el a.tables k) = (el b.tables k))) = false := not_t h40
                        have g42 := of_decide_eq_false h41
                        refine wp_seq ?_
                        refine RG.start ?_
                        refine S.quiet (k := 1) (keep := [4]) (m := 0) (σ' := ⟨[(4, .v (B false))], []⟩) .nil (by kernel_rfl) ?_
                        clear S; intro ac w β S
                        refine RG.done rfl (nx_then ?_)
                        refine wp_ret (rt_block (rt_then (rt_then (rt_block (rt_then ?_)))))
                        refine S.ret (vs := [B false]) (by kernel_rfl) ?_
                        exact ⟨retB (show false = decide (a = b) by clear S; (first | (symm; refine decide_eq_false ?_; intro e; subst e; simp_all; done) | (symm; refine decide_eq_true ?_; (have hk2 : a.tables = b.tables := (by rw [take_all (by omega), take_all (by omega)] at he; exact he)); rw [TMon.ext_iff]; simp_all; done))), S.chg⟩
                      · have h43 : (decide ((el a.tables k) = (el b.tables k))) = true := not_f h40
                        have g44 := of_decide_eq_true h43
                        refine wp_skip (nx_block (nx_then ?_))
                        refine RG.start ?_
                        refine S.quiet (k := 3) (keep := [2, 3, 5]) (m := 2) (σ' := ⟨[(2, .p 0 0), (3, .p 1 0), (5, .v (I ((k : Int) + 1)))], [GT.cells (α := TMon) a pa, GT.cells (α := TMon) b pb]⟩) (.cons (Q_add (x := (k : Int)) (y := 1) ⟨by omega, by omega⟩) .nil) (by kernel_rfl) ?_
                        clear S; intro ac w β S
                        refine RG.done rfl (nx_then ?_)
                        replace S := S.prune (keep := [2, 3, 5]) (m := 2) (σ' := ⟨[(2, .p 0 0), (3, .p 1 0), (5, .v (I ((k : Int) + 1)))], [GT.cells (α := TMon) a pa, GT.cells (α := TMon) b pb]⟩) (by kernel_rfl)
                        refine ⟨a.tables.length - (k + 1), by omega, k + 1, _, _, _, rfl, ?_, ?_, ?_, S.cast (by kernel_rfl)⟩
                        · clear S; first | omega | (simp [*]; done) | (simp [*]; omega)
                        · clear S; first | omega | (simp [*]; done) | (simp [*]; omega)
                        · clear S; exact take_eq_step (by omega) (by omega) he (by simp_all)
                    · have g45 : ¬ ((k : Int) < ((a.tables).length : Int)) := of_decide_eq_false h38
                      refine wp_exit (ex_then (ex_then (ex_hit (nx_then ?_))))
                      refine wp_seq ?_
                      refine RG.start ?_
                      refine S.quiet (k := 1) (keep := [4]) (m := 0) (σ' := ⟨[(4, .v (B true))], []⟩) .nil (by kernel_rfl) ?_
                      clear S; intro ac w β S
                      refine RG.done rfl (nx_then ?_)
                      refine wp_ret ?_
                      refine S.ret (vs := [B true]) (by kernel_rfl) ?_
                      exact ⟨retB (show true = decide (a = b) by clear S; (first | (symm; refine decide_eq_false ?_; intro e; subst e; simp_all; done) | (symm; refine decide_eq_true ?_; (have hk2 : a.tables = b.tables := (by rw [take_all (by omega), take_all (by omega)] at he; exact he)); rw [TMon.ext_iff]; simp_all; done))), S.chg⟩

set_option maxRecDepth 100000 in
theorem c_spec_SameHost (w0 : World) (a : THost) (pa : PHost) (ha : GT.rd KK (Lt w0.heap.size) w0 a pa) (b : THost) (pb : PHost) (hb : GT.rd KK (Lt w0.heap.size) w0 b pb) : Calls Go.Proofs.Try.prog 10 [GT.val (α := THost) a pa, GT.val (α := THost) b pb].toArray w0 (fun e w' => e = .returned (B (decide (a = b))) ∧ Chg NoB w0 w') := by
  refine Calls.walk (args := [GT.val (α := THost) a pa, GT.val (α := THost) b pb]) NoB Go.Proofs.Try.func10 rfl rfl ?_
  intro ac β S
  have hlea_mem : a.mem.length ≤ 4194304 := LRd.le (RHost.mem (d := a) ha)
  have hlea_mons : a.mons.length ≤ 4194304 := LRd.le (RHost.mons (d := a) ha)
  have hlea_buf : a.buf.length ≤ 4194304 := LRd.le (RHost.buf (d := a) ha)
  have hlea_iobuf : a.iobuf.length ≤ 4194304 := LRd.le (RHost.iobuf (d := a) ha)
  have hleb_mem : b.mem.length ≤ 4194304 := LRd.le (RHost.mem (d := b) hb)
  have hleb_mons : b.mons.length ≤ 4194304 := LRd.le (RHost.mons (d := b) hb)
  have hleb_buf : b.buf.length ≤ 4194304 := LRd.le (RHost.buf (d := b) hb)
  have hleb_iobuf : b.iobuf.length ≤ 4194304 := LRd.le (RHost.iobuf (d := b) hb)
  refine wp_seq ?_
  refine RG.start ?_
  refine S.quiet (k := 3) (keep := [2, 3]) (m := 2) (σ' := ⟨[(2, .p 0 0), (3, .p 1 0)], [GT.cells (α := THost) a pa, GT.cells (α := THost) b pb]⟩) .nil (by kernel_rfl) ?_
  clear S; intro ac w β S
  refine RG.done rfl (nx_then ?_)
  refine wp_seq ?_
  refine wp_seq ?_
  refine RG.start ?_
  refine S.quiet (k := 7) (keep := [2, 3, 12]) (m := 2) (σ' := ⟨[(2, .p 0 0), (3, .p 1 0), (12, .v (B (!(decide (a.mem = b.mem)))))], [GT.cells (α := THost) a pa, GT.cells (α := THost) b pb]⟩) (.cons (Q_call fun w hw => c_spec_SameMem w a.mem pa.mem (rd_of (RHost.mem (d := a) (S.arg ha)) hw) b.mem pb.mem (rd_of (RHost.mem (d := b) (S.arg hb)) hw)) .nil) (by kernel_rfl) ?_
  clear S; intro ac w β S
  rcases Bool.eq_false_or_eq_true (!(decide (a.mem = b.mem))) with h1 | h1 <;> rw [h1] at S
  · have h2 : (decide (a.mem = b.mem)) = false := not_t h1
    have g3 := of_decide_eq_false h2
    refine S.quiet (k := 24) (keep := [2, 3, 36]) (m := 2) (σ' := ⟨[(2, .p 0 0), (3, .p 1 0), (36, .v (B true))], [GT.cells (α := THost) a pa, GT.cells (α := THost) b pb]⟩) .nil (by kernel_rfl) ?_
    clear S; intro ac w β S
    refine RG.done rfl (nx_then ?_)
    refine S.cond (e := true) (by kernel_rfl) (fun _ => ?_) (fun hx => by cases hx)
    refine wp_seq ?_
    refine RG.start ?_
    refine S.quiet (k := 1) (keep := [4]) (m := 0) (σ' := ⟨[(4, .v (B false))], []⟩) .nil (by kernel_rfl) ?_
    clear S; intro ac w β S
    refine RG.done rfl (nx_then ?_)
    refine wp_ret (rt_then ?_)
    refine S.ret (vs := [B false]) (by kernel_rfl) ?_
    exact ⟨retB (show false = decide (a = b) by clear S; (first | (symm; refine decide_eq_false ?_; intro e; subst e; simp_all; done) | (symm; refine decide_eq_true ?_; (have hk2 : a.mons = b.mons := (by rw [take_all (by omega), take_all (by omega)] at he; exact he)); rw [THost.ext_iff]; simp_all; done))), S.chg⟩
  · have h4 : (decide (a.mem = b.mem)) = true := not_f h1
    have g5 := of_decide_eq_true h4
    refine S.quiet (k := 8) (keep := [2, 3, 20]) (m := 2) (σ' := ⟨[(2, .p 0 0), (3, .p 1 0), (20, .v (B (!(decide (a.buf = b.buf)))))], [GT.cells (α := THost) a pa, GT.cells (α := THost) b pb]⟩) (.cons (Q_call fun w hw => c_spec_l21Entries w a.buf pa.buf (rd_of (RHost.buf (d := a) (S.arg ha)) hw) b.buf pb.buf (rd_of (RHost.buf (d := b) (S.arg hb)) hw)) .nil) (by kernel_rfl) ?_
    clear S; intro ac w β S
    rcases Bool.eq_false_or_eq_true (!(decide (a.buf = b.buf))) with h6 | h6 <;> rw [h6] at S
    · have h7 : (decide (a.buf = b.buf)) = false := not_t h6
      have g8 := of_decide_eq_false h7
      refine S.quiet (k := 16) (keep := [2, 3, 36]) (m := 2) (σ' := ⟨[(2, .p 0 0), (3, .p 1 0), (36, .v (B true))], [GT.cells (α := THost) a pa, GT.cells (α := THost) b pb]⟩) .nil (by kernel_rfl) ?_
      clear S; intro ac w β S
      refine RG.done rfl (nx_then ?_)
      refine S.cond (e := true) (by kernel_rfl) (fun _ => ?_) (fun hx => by cases hx)
      refine wp_seq ?_
      refine RG.start ?_
      refine S.quiet (k := 1) (keep := [4]) (m := 0) (σ' := ⟨[(4, .v (B false))], []⟩) .nil (by kernel_rfl) ?_
      clear S; intro ac w β S
      refine RG.done rfl (nx_then ?_)
      refine wp_ret (rt_then ?_)
      refine S.ret (vs := [B false]) (by kernel_rfl) ?_
      exact ⟨retB (show false = decide (a = b) by clear S; (first | (symm; refine decide_eq_false ?_; intro e; subst e; simp_all; done) | (symm; refine decide_eq_true ?_; (have hk2 : a.mons = b.mons := (by rw [take_all (by omega), take_all (by omega)] at he; exact he)); rw [THost.ext_iff]; simp_all; done))), S.chg⟩
    · have h9 : (decide (a.buf = b.buf)) = true := not_f h6
      have g10 := of_decide_eq_true h9
      refine S.quiet (k := 8) (keep := [2, 3, 28]) (m := 2) (σ' := ⟨[(2, .p 0 0), (3, .p 1 0), (28, .v (B (!(decide (a.iobuf = b.iobuf)))))], [GT.cells (α := THost) a pa, GT.cells (α := THost) b pb]⟩) (.cons (Q_call fun w hw => c_spec_l21Entries w a.iobuf pa.iobuf (rd_of (RHost.iobuf (d := a) (S.arg ha)) hw) b.iobuf pb.iobuf (rd_of (RHost.iobuf (d := b) (S.arg hb)) hw)) .nil) (by kernel_rfl) ?_
      clear S; intro ac w β S
      rcases Bool.eq_false_or_eq_true (!(decide (a.iobuf = b.iobuf))) with h11 | h11 <;> rw [h11] at S
      · have h12 : (decide (a.iobuf = b.iobuf)) = false := not_t h11
        have g13 := of_decide_eq_false h12
        refine S.quiet (k := 8) (keep := [2, 3, 36]) (m := 2) (σ' := ⟨[(2, .p 0 0), (3, .p 1 0), (36, .v (B true))], [GT.cells (α := THost) a pa, GT.cells (α := THost) b pb]⟩) .nil (by kernel_rfl) ?_
        clear S; intro ac w β S
        refine RG.done rfl (nx_then ?_)
        refine S.cond (e := true) (by kernel_rfl) (fun _ => ?_) (fun hx => by cases hx)
        refine wp_seq ?_
        refine RG.start ?_
        refine S.quiet (k := 1) (keep := [4]) (m := 0) (σ' := ⟨[(4, .v (B false))], []⟩) .nil (by kernel_rfl) ?_
        clear S; intro ac w β S
        refine RG.done rfl (nx_then ?_)
        refine wp_ret (rt_then ?_)
        refine S.ret (vs := [B false]) (by kernel_rfl) ?_
        exact ⟨retB (show false = decide (a = b) by clear S; (first | (symm; refine decide_eq_false ?_; intro e; subst e; simp_all; done) | (symm; refine decide_eq_true ?_; (have hk2 : a.mons = b.mons := (by rw [take_all (by omega), take_all (by omega)] at he; exact he)); rw [THost.ext_iff]; simp_all; done))), S.chg⟩
      · have h14 : (decide (a.iobuf = b.iobuf)) = true := not_f h11
        have g15 := of_decide_eq_true h14
        refine S.quiet (k := 8) (keep := [2, 3, 36]) (m := 2) (σ' := ⟨[(2, .p 0 0), (3, .p 1 0), (36, .v (B (((a.mons).length : Int) != ((b.mons).length : Int))))], [GT.cells (α := THost) a pa, GT.cells (α := THost) b pb]⟩) .nil (by kernel_rfl) ?_
        clear S; intro ac w β S
        refine RG.done rfl (nx_then ?_)
        refine S.cond (e := (((a.mons).length : Int) != ((b.mons).length : Int))) (by kernel_rfl) (fun h16 => ?_) (fun h16 => ?_)
        · have g17 : ¬ (((a.mons).length : Int) = ((b.mons).length : Int)) := bne_iff_ne.1 h16
          refine wp_seq ?_
          refine RG.start ?_
          refine S.quiet (k := 1) (keep := [4]) (m := 0) (σ' := ⟨[(4, .v (B false))], []⟩) .nil (by kernel_rfl) ?_
          clear S; intro ac w β S
          refine RG.done rfl (nx_then ?_)
          refine wp_ret (rt_then ?_)
          refine S.ret (vs := [B false]) (by kernel_rfl) ?_
          exact ⟨retB (show false = decide (a = b) by clear S; (first | (symm; refine decide_eq_false ?_; intro e; subst e; simp_all; done) | (symm; refine decide_eq_true ?_; (have hk2 : a.mons = b.mons := (by rw [take_all (by omega), take_all (by omega)] at he; exact he)); rw [THost.ext_iff]; simp_all; done))), S.chg⟩
        · have g18 : ((a.mons).length : Int) = ((b.mons).length : Int) := ne_f h16
          refine wp_skip (nx_then ?_)
          refine wp_seq ?_
          refine wp_seq ?_
          refine RG.start ?_
          refine S.quiet (k := 1) (keep := [2, 3, 5]) (m := 2) (σ' := ⟨[(2, .p 0 0), (3, .p 1 0), (5, .v (I 0))], [GT.cells (α := THost) a pa, GT.cells (α := THost) b pb]⟩) .nil (by kernel_rfl) ?_
          clear S; intro ac w β S
          refine RG.done rfl (nx_then ?_)
          refine wp_block ?_
          replace S := S.prune (keep := [2, 3, 5]) (m := 2) (σ' := ⟨[(2, .p 0 0), (3, .p 1 0), (5, .v (I 0))], [GT.cells (α := THost) a pa, GT.cells (α := THost) b pb]⟩) (by kernel_rfl)
          refine wp_loop_down (fun mm ac w => ∃ (k : Nat)  (u : World) (N : Bl) (β : Nat → Nat), mm = a.mons.length - k ∧ (k ≤ a.mons.length) ∧ (a.mons.length = b.mons.length) ∧ (a.mons.take k = b.mons.take k) ∧ St Go.Proofs.Try.prog Go.Proofs.Try.f10.ntmps w0 NoB u N β ⟨[(2, .p 0 0), (3, .p 1 0), (5, .v (I (k : Int)))], [GT.cells (α := THost) a pa, GT.cells (α := THost) b pb]⟩ ac w) _ ⟨0, _, _, _, rfl, (by first | omega | (simp; done) | (simp; omega)), (by first | omega | (simp; done) | (simp; omega)), (by simp), S.cast (by kernel_rfl)⟩ ?_
          clear S
          rintro mm ac w ⟨k, u, N, β, rfl, hk, hab, he, S⟩
          refine wp_seq ?_
          refine wp_seq ?_
          refine RG.start ?_
          refine S.quiet (k := 5) (keep := [2, 3, 5, 41]) (m := 2) (σ' := ⟨[(2, .p 0 0), (3, .p 1 0), (5, .v (I (k : Int))), (41, .v (B (decide ((k : Int) < ((a.mons).length : Int)))))], [GT.cells (α := THost) a pa, GT.cells (α := THost) b pb]⟩) .nil (by kernel_rfl) ?_
          clear S; intro ac w β S
          refine RG.done rfl (nx_then ?_)
          refine S.cond (e := (decide ((k : Int) < ((a.mons).length : Int)))) (by kernel_rfl) (fun h19 => ?_) (fun h19 => ?_)
          · have g20 : (k : Int) < ((a.mons).length : Int) := of_decide_eq_true h19
            refine wp_skip (nx_then ?_)
            refine wp_seq ?_
            refine wp_block ?_
            refine wp_seq ?_
            refine S.drawn (keep := [2, 3, 5, 55]) (m := 2) (σ' := ⟨[(2, .p 0 0), (3, .p 1 0), (5, .v (I (k : Int))), (55, .v (B (!(decide ((el a.mons k) = (el b.mons k))))))], [GT.cells (α := THost) a pa, GT.cells (α := THost) b pb]⟩) (.cons (Q_idx (RHost.mons (d := a) (S.arg ha)) (l := (a.mons).length) (k := k) (i := (k : Int)) rfl rfl (by omega) Go.Proofs.Try.underlying29 (by kernel_rfl)) (.cons (Q_el (RHost.mons (d := a) (S.arg ha)) (t := 50) (k := k) (by omega) rfl (by kernel_rfl) (by kernel_rfl)) (.cons (Q_idx (RHost.mons (d := b) (S.arg hb)) (l := (b.mons).length) (k := k) (i := (k : Int)) rfl rfl (by omega) Go.Proofs.Try.underlying29 (by kernel_rfl)) (.cons (Q_el (RHost.mons (d := b) (S.arg hb)) (t := 50) (k := k) (by omega) rfl (by kernel_rfl) (by kernel_rfl)) (.cons (Q_call fun w hw => c_spec_l21SameMon w (el a.mons k) (pa.mons.2 k) (rd_of (LRd.el (RHost.mons (d := a) (S.arg ha)) k (by omega)) hw) (el b.mons k) (pb.mons.2 k) (rd_of (LRd.el (RHost.mons (d := b) (S.arg hb)) k (by omega)) hw)) .nil))))) rfl (by kernel_rfl) (by kernel_rfl) ?_
            clear S; intro ac w S
            refine id (nx_then ?_)
            refine S.cond (e := (!(decide ((el a.mons k) = (el b.mons k))))) (by kernel_rfl) (fun h21 => ?_) (fun h21 => ?_)
            · have h22 : (decide ((el a.mons k) = (el b.mons k))) = false := not_t h21
              have g23 := of_decide_eq_false h22
              refine wp_seq ?_
              refine RG.start ?_
              refine S.quiet (k := 1) (keep := [4]) (m := 0) (σ' := ⟨[(4, .v (B false))], []⟩) .nil (by kernel_rfl) ?_
              clear S; intro ac w β S
              refine RG.done rfl (nx_then ?_)
              refine wp_ret (rt_block (rt_then (rt_then (rt_block (rt_then ?_)))))
              refine S.ret (vs := [B false]) (by kernel_rfl) ?_
              exact ⟨retB (show false = decide (a = b) by clear S; (first | (symm; refine decide_eq_false ?_; intro e; subst e; simp_all; done) | (symm; refine decide_eq_true ?_; (have hk2 : a.mons = b.mons := (by rw [take_all (by omega), take_all (by omega)] at he; exact he)); rw [THost.ext_iff]; simp_all; done))), S.chg⟩
            · have h24 : (decide ((el a.mons k) = (el b.mons k))) = true := not_f h21
              have g25 := of_decide_eq_true h24
              refine wp_skip (nx_block (nx_then ?_))
              refine RG.start ?_
              refine S.quiet (k := 3) (keep := [2, 3, 5]) (m := 2) (σ' := ⟨[(2, .p 0 0), (3, .p 1 0), (5, .v (I ((k : Int) + 1)))], [GT.cells (α := THost) a pa, GT.cells (α := THost) b pb]⟩) (.cons (Q_add (x := (k : Int)) (y := 1) ⟨by omega, by omega⟩) .nil) (by kernel_rfl) ?_
              clear S; intro ac w β S
              refine RG.done rfl (nx_then ?_)
              replace S := S.prune (keep := [2, 3, 5]) (m := 2) (σ' := ⟨[(2, .p 0 0), (3, .p 1 0), (5, .v (I ((k : Int) + 1)))], [GT.cells (α := THost) a pa, GT.cells (α := THost) b pb]⟩) (by kernel_rfl)
              refine ⟨a.mons.length - (k + 1), by omega, k + 1, _, _, _, rfl, ?_, ?_, ?_, S.cast (by kernel_rfl)⟩
              · clear S; first | omega | (simp [*]; done) | (simp [*]; omega)
              · clear S; first | omega | (simp [*]; done) | (simp [*]; omega)
              · clear S; exact take_eq_step (by omega) (by omega) he (by simp_all)
          · have g26 : ¬ ((k : Int) < ((a.mons).length : Int)) := of_decide_eq_false h19
            refine wp_exit (ex_then (ex_then (ex_hit (nx_then ?_))))
            refine wp_seq ?_
            refine RG.start ?_
            refine S.quiet (k := 1) (keep := [4]) (m := 0) (σ' := ⟨[(4, .v (B true))], []⟩) .nil (by kernel_rfl) ?_
            clear S; intro ac w β S
            refine RG.done rfl (nx_then ?_)
            refine wp_ret ?_
            refine S.ret (vs := [B true]) (by kernel_rfl) ?_
            exact ⟨retB (show true = decide (a = b) by clear S; (first | (symm; refine decide_eq_false ?_; intro e; subst e; simp_all; done) | (symm; refine decide_eq_true ?_; (have hk2 : a.mons = b.mons := (by rw [take_all (by omega), take_all (by omega)] at he; exact he)); rw [THost.ext_iff]; simp_all; done))), S.chg⟩

set_option maxRecDepth 100000 in
theorem c_slices_Equal___int_int_ (w0 : World) (a : List Int) (pa : LP Int) (ha : GT.rd KK (Lt w0.heap.size) w0 a pa) (b : List Int) (pb : LP Int) (hb : GT.rd KK (Lt w0.heap.size) w0 b pb) : Calls Go.Proofs.Try.prog 113 [slv (a).length pa.1, slv (b).length pb.1].toArray w0 (fun e w' => e = .returned (B (decide (a = b))) ∧ Chg NoB w0 w') := by
  refine Calls.walk (args := [slv (a).length pa.1, slv (b).length pb.1]) NoB Go.Proofs.Try.func113 rfl rfl ?_
  intro ac β S
  have hlea : a.length ≤ 4194304 := LRd.le ha
  have hleb : b.length ≤ 4194304 := LRd.le hb
  refine wp_seq ?_
  refine RG.start ?_
  refine S.quiet (k := 1) (keep := [0, 1]) (m := 0) (σ' := ⟨[(0, .v (slv (a).length pa.1)), (1, .v (slv (b).length pb.1))], []⟩) .nil (by kernel_rfl) ?_
  clear S; intro ac w β S
  refine RG.done rfl (nx_then ?_)
  refine wp_seq ?_
  refine wp_seq ?_
  refine RG.start ?_
  refine S.quiet (k := 5) (keep := [0, 1, 10]) (m := 0) (σ' := ⟨[(0, .v (slv (a).length pa.1)), (1, .v (slv (b).length pb.1)), (10, .v (B (((a).length : Int) != ((b).length : Int))))], []⟩) .nil (by kernel_rfl) ?_
  clear S; intro ac w β S
  refine RG.done rfl (nx_then ?_)
  refine S.cond (e := (((a).length : Int) != ((b).length : Int))) (by kernel_rfl) (fun h1 => ?_) (fun h1 => ?_)
  · have g2 : ¬ (((a).length : Int) = ((b).length : Int)) := bne_iff_ne.1 h1
    refine wp_seq ?_
    refine RG.start ?_
    refine S.quiet (k := 1) (keep := [4]) (m := 0) (σ' := ⟨[(4, .v (B false))], []⟩) .nil (by kernel_rfl) ?_
    clear S; intro ac w β S
    refine RG.done rfl (nx_then ?_)
    refine wp_ret (rt_then ?_)
    refine S.ret (vs := [B false]) (by kernel_rfl) ?_
    exact ⟨retB (show false = decide (a = b) by clear S; first | (simp; intro e; subst e; simp_all; done) | (simp; rw [take_all (by omega), take_all (by omega)] at he; exact he) | (simp; exact take_ne (by simp_all)) | (symm; exact decide_eq_false (take_ne (by assumption))) | (symm; exact decide_eq_true (by rw [take_all (by omega), take_all (by omega)] at he; exact he)) | (symm; refine decide_eq_false ?_; intro e; rw [e] at *; omega)), S.chg⟩
  · have g3 : ((a).length : Int) = ((b).length : Int) := ne_f h1
    refine wp_skip (nx_then ?_)
    refine wp_seq ?_
    refine wp_seq ?_
    refine RG.start ?_
    refine S.quiet (k := 3) (keep := [0, 1, 12, 13]) (m := 0) (σ' := ⟨[(0, .v (slv (a).length pa.1)), (1, .v (slv (b).length pb.1)), (12, .v (I ((a).length : Int))), (13, .v (I 0))], []⟩) .nil (by kernel_rfl) ?_
    clear S; intro ac w β S
    refine RG.done rfl (nx_then ?_)
    refine wp_block ?_
    replace S := S.prune (keep := [0, 1, 12, 13]) (m := 0) (σ' := ⟨[(0, .v (slv (a).length pa.1)), (1, .v (slv (b).length pb.1)), (12, .v (I ((a).length : Int))), (13, .v (I 0))], []⟩) (by kernel_rfl)
    refine wp_loop_down (fun mm ac w => ∃ (k : Nat)  (u : World) (N : Bl) (β : Nat → Nat), mm = a.length - k ∧ (k ≤ a.length) ∧ (a.length = b.length) ∧ (a.take k = b.take k) ∧ St Go.Proofs.Try.prog Go.Proofs.Try.f113.ntmps w0 NoB u N β ⟨[(0, .v (slv (a).length pa.1)), (1, .v (slv (b).length pb.1)), (12, .v (I ((a).length : Int))), (13, .v (I (k : Int)))], []⟩ ac w) _ ⟨0, _, _, _, rfl, (by first | omega | (simp; done) | (simp; omega)), (by first | omega | (simp; done) | (simp; omega)), (by simp), S.cast (by kernel_rfl)⟩ ?_
    clear S
    rintro mm ac w ⟨k, u, N, β, rfl, hk, hab, he, S⟩
    refine wp_seq ?_
    refine RG.start ?_
    refine S.quiet (k := 1) (keep := [0, 1, 12, 13, 14]) (m := 0) (σ' := ⟨[(0, .v (slv (a).length pa.1)), (1, .v (slv (b).length pb.1)), (12, .v (I ((a).length : Int))), (13, .v (I (k : Int))), (14, .v (B (decide ((k : Int) < ((a).length : Int)))))], []⟩) .nil (by kernel_rfl) ?_
    clear S; intro ac w β S
    refine RG.done rfl (nx_then ?_)
    refine wp_seq ?_
    refine S.cond (e := (decide ((k : Int) < ((a).length : Int)))) (by kernel_rfl) (fun h4 => ?_) (fun h4 => ?_)
    · have g5 : (k : Int) < ((a).length : Int) := of_decide_eq_true h4
      refine wp_skip (nx_then ?_)
      refine wp_seq ?_
      refine wp_block ?_
      refine wp_seq ?_
      refine RG.start ?_
      refine S.quiet (k := 2) (keep := [0, 1, 5, 12, 13]) (m := 0) (σ' := ⟨[(0, .v (slv (a).length pa.1)), (1, .v (slv (b).length pb.1)), (5, .v (I (k : Int))), (12, .v (I ((a).length : Int))), (13, .v (I (k : Int)))], []⟩) .nil (by kernel_rfl) ?_
      clear S; intro ac w β S
      refine RG.done rfl (nx_then ?_)
      refine wp_seq ?_
      refine S.drawn (keep := [0, 1, 12, 13, 24]) (m := 0) (σ' := ⟨[(0, .v (slv (a).length pa.1)), (1, .v (slv (b).length pb.1)), (12, .v (I ((a).length : Int))), (13, .v (I (k : Int))), (24, .v (B ((el a k) != (el b k))))], []⟩) (.cons (Q_idx (S.arg ha) (l := (a).length) (k := k) (i := (k : Int)) rfl rfl (by omega) Go.Proofs.Try.underlying37 (by kernel_rfl)) (.cons (Q_el1 (S.arg ha) (t := 3) (k := k) (by omega) rfl (by kernel_rfl)) (.cons (Q_idx (S.arg hb) (l := (b).length) (k := k) (i := (k : Int)) rfl rfl (by omega) Go.Proofs.Try.underlying37 (by kernel_rfl)) (.cons (Q_el1 (S.arg hb) (t := 3) (k := k) (by omega) rfl (by kernel_rfl)) .nil)))) rfl (by kernel_rfl) (by kernel_rfl) ?_
      clear S; intro ac w S
      refine id (nx_then ?_)
      refine S.cond (e := ((el a k) != (el b k))) (by kernel_rfl) (fun h6 => ?_) (fun h6 => ?_)
      · have g7 : ¬ ((el a k) = (el b k)) := bne_iff_ne.1 h6
        refine wp_seq ?_
        refine RG.start ?_
        refine S.quiet (k := 1) (keep := [4]) (m := 0) (σ' := ⟨[(4, .v (B false))], []⟩) .nil (by kernel_rfl) ?_
        clear S; intro ac w β S
        refine RG.done rfl (nx_then ?_)
        refine wp_ret (rt_block (rt_then (rt_then (rt_block (rt_then ?_)))))
        refine S.ret (vs := [B false]) (by kernel_rfl) ?_
        exact ⟨retB (show false = decide (a = b) by clear S; first | (simp; intro e; subst e; simp_all; done) | (simp; rw [take_all (by omega), take_all (by omega)] at he; exact he) | (simp; exact take_ne (by simp_all)) | (symm; exact decide_eq_false (take_ne (by assumption))) | (symm; exact decide_eq_true (by rw [take_all (by omega), take_all (by omega)] at he; exact he)) | (symm; refine decide_eq_false ?_; intro e; rw [e] at *; omega)), S.chg⟩
      · have g8 : (el a k) = (el b k) := ne_f h6
        refine wp_skip (nx_block (nx_then ?_))
        refine RG.start ?_
        refine S.quiet (k := 2) (keep := [0, 1, 12, 13]) (m := 0) (σ' := ⟨[(0, .v (slv (a).length pa.1)), (1, .v (slv (b).length pb.1)), (12, .v (I ((a).length : Int))), (13, .v (I ((k : Int) + 1)))], []⟩) (.cons (Q_add (x := (k : Int)) (y := 1) ⟨by omega, by omega⟩) .nil) (by kernel_rfl) ?_
        clear S; intro ac w β S
        refine RG.done rfl (nx_then ?_)
        replace S := S.prune (keep := [0, 1, 12, 13]) (m := 0) (σ' := ⟨[(0, .v (slv (a).length pa.1)), (1, .v (slv (b).length pb.1)), (12, .v (I ((a).length : Int))), (13, .v (I ((k : Int) + 1)))], []⟩) (by kernel_rfl)
        refine ⟨a.length - (k + 1), by omega, k + 1, _, _, _, rfl, ?_, ?_, ?_, S.cast (by kernel_rfl)⟩
        · clear S; first | omega | (simp [*]; done) | (simp [*]; omega)
        · clear S; first | omega | (simp [*]; done) | (simp [*]; omega)
        · clear S; exact take_eq_step (by omega) (by omega) he (by simp_all)
    · have g9 : ¬ ((k : Int) < ((a).length : Int)) := of_decide_eq_false h4
      refine wp_exit (ex_then (ex_then (ex_hit (nx_then ?_))))
      refine wp_seq ?_
      refine RG.start ?_
      refine S.quiet (k := 1) (keep := [4]) (m := 0) (σ' := ⟨[(4, .v (B true))], []⟩) .nil (by kernel_rfl) ?_
      clear S; intro ac w β S
      refine RG.done rfl (nx_then ?_)
      refine wp_ret ?_
      refine S.ret (vs := [B true]) (by kernel_rfl) ?_
      exact ⟨retB (show true = decide (a = b) by clear S; first | (simp; intro e; subst e; simp_all; done) | (simp; rw [take_all (by omega), take_all (by omega)] at he; exact he) | (simp; exact take_ne (by simp_all)) | (symm; exact decide_eq_false (take_ne (by assumption))) | (symm; exact decide_eq_true (by rw [take_all (by omega), take_all (by omega)] at he; exact he)) | (symm; refine decide_eq_false ?_; intro e; rw [e] at *; omega)), S.chg⟩

set_option maxRecDepth 100000 in
theorem c_impl_SameMem_1 (w0 : World) (a : List Int) (pa : LP Int) (ha : GT.rd KK (Lt w0.heap.size) w0 a pa) (b : List Int) (pb : LP Int) (hb : GT.rd KK (Lt w0.heap.size) w0 b pb) : Calls Go.Proofs.Try.prog 112 [slv (a).length pa.1, slv (b).length pb.1].toArray w0 (fun e w' => e = .returned (B (decide (a = b))) ∧ Chg NoB w0 w') := by
  refine Calls.walk (args := [slv (a).length pa.1, slv (b).length pb.1]) NoB Go.Proofs.Try.func112 rfl rfl ?_
  intro ac β S
  have hlea : a.length ≤ 4194304 := LRd.le ha
  have hleb : b.length ≤ 4194304 := LRd.le hb
  refine wp_seq ?_
  refine RG.start ?_
  refine S.quiet (k := 1) (keep := [0, 1]) (m := 0) (σ' := ⟨[(0, .v (slv (a).length pa.1)), (1, .v (slv (b).length pb.1))], []⟩) .nil (by kernel_rfl) ?_
  clear S; intro ac w β S
  refine RG.done rfl (nx_then ?_)
  refine wp_seq ?_
  refine RG.start ?_
  refine S.quiet (k := 4) (keep := [4]) (m := 0) (σ' := ⟨[(4, .v (B (decide (a = b))))], []⟩) (.cons (Q_call fun w hw => c_slices_Equal___int_int_ w a pa (rd_of (S.arg ha) hw) b pb (rd_of (S.arg hb) hw)) .nil) (by kernel_rfl) ?_
  clear S; intro ac w β S
  refine RG.done rfl (nx_then ?_)
  refine wp_ret ?_
  refine S.ret (vs := [B (decide (a = b))]) (by kernel_rfl) ?_
  exact ⟨retB (show (decide (a = b)) = decide (a = b) by clear S; first | rfl | (simp [decide, *]; done) | (simp [decide, *]; omega) | (simp_all [decide]; done) | (simp_all [decide]; omega)), S.chg⟩

set_option maxRecDepth 100000 in
theorem c_slices_EqualFunc_____int_____int___int___int_ (w0 : World) (a : List (List Int)) (pa : LP (List Int)) (ha : GT.rd KK (Lt w0.heap.size) w0 a pa) (b : List (List Int)) (pb : LP (List Int)) (hb : GT.rd KK (Lt w0.heap.size) w0 b pb) : Calls Go.Proofs.Try.prog 111 [slv (a).length pa.1, slv (b).length pb.1, (.func (.func 112) #[] #[])].toArray w0 (fun e w' => e = .returned (B (decide (a = b))) ∧ Chg NoB w0 w') := by
  refine Calls.walk (args := [slv (a).length pa.1, slv (b).length pb.1, (.func (.func 112) #[] #[])]) NoB Go.Proofs.Try.func111 rfl rfl ?_
  intro ac β S
  have hlea : a.length ≤ 4194304 := LRd.le ha
  have hleb : b.length ≤ 4194304 := LRd.le hb
  refine wp_seq ?_
  refine RG.start ?_
  refine S.quiet (k := 1) (keep := [0, 1, 2]) (m := 0) (σ' := ⟨[(0, .v (slv (a).length pa.1)), (1, .v (slv (b).length pb.1)), (2, .v ((.func (.func 112) #[] #[])))], []⟩) .nil (by kernel_rfl) ?_
  clear S; intro ac w β S
  refine RG.done rfl (nx_then ?_)
  refine wp_seq ?_
  refine wp_seq ?_
  refine RG.start ?_
  refine S.quiet (k := 5) (keep := [0, 1, 2, 14]) (m := 0) (σ' := ⟨[(0, .v (slv (a).length pa.1)), (1, .v (slv (b).length pb.1)), (2, .v ((.func (.func 112) #[] #[]))), (14, .v (B (((a).length : Int) != ((b).length : Int))))], []⟩) .nil (by kernel_rfl) ?_
  clear S; intro ac w β S
  refine RG.done rfl (nx_then ?_)
  refine S.cond (e := (((a).length : Int) != ((b).length : Int))) (by kernel_rfl) (fun h1 => ?_) (fun h1 => ?_)
  · have g2 : ¬ (((a).length : Int) = ((b).length : Int)) := bne_iff_ne.1 h1
    refine wp_seq ?_
    refine RG.start ?_
    refine S.quiet (k := 1) (keep := [6]) (m := 0) (σ' := ⟨[(6, .v (B false))], []⟩) .nil (by kernel_rfl) ?_
    clear S; intro ac w β S
    refine RG.done rfl (nx_then ?_)
    refine wp_ret (rt_then ?_)
    refine S.ret (vs := [B false]) (by kernel_rfl) ?_
    exact ⟨retB (show false = decide (a = b) by clear S; first | (simp; intro e; subst e; simp_all; done) | (simp; rw [take_all (by omega), take_all (by omega)] at he; exact he) | (simp; exact take_ne (by simp_all)) | (symm; exact decide_eq_false (take_ne (by assumption))) | (symm; exact decide_eq_true (by rw [take_all (by omega), take_all (by omega)] at he; exact he)) | (symm; refine decide_eq_false ?_; intro e; rw [e] at *; omega)), S.chg⟩
  · have g3 : ((a).length : Int) = ((b).length : Int) := ne_f h1
    refine wp_skip (nx_then ?_)
    refine wp_seq ?_
    refine wp_seq ?_
    refine RG.start ?_
    refine S.quiet (k := 3) (keep := [1, 2, 15, 16, 17]) (m := 0) (σ' := ⟨[(1, .v (slv (b).length pb.1)), (2, .v ((.func (.func 112) #[] #[]))), (15, .v (slv (a).length pa.1)), (16, .v (I ((a).length : Int))), (17, .v (I 0))], []⟩) .nil (by kernel_rfl) ?_
    clear S; intro ac w β S
    refine RG.done rfl (nx_then ?_)
    refine wp_block ?_
    replace S := S.prune (keep := [1, 2, 15, 16, 17]) (m := 0) (σ' := ⟨[(1, .v (slv (b).length pb.1)), (2, .v ((.func (.func 112) #[] #[]))), (15, .v (slv (a).length pa.1)), (16, .v (I ((a).length : Int))), (17, .v (I 0))], []⟩) (by kernel_rfl)
    refine wp_loop_down (fun mm ac w => ∃ (k : Nat)  (u : World) (N : Bl) (β : Nat → Nat), mm = a.length - k ∧ (k ≤ a.length) ∧ (a.length = b.length) ∧ (a.take k = b.take k) ∧ St Go.Proofs.Try.prog Go.Proofs.Try.f111.ntmps w0 NoB u N β ⟨[(1, .v (slv (b).length pb.1)), (2, .v ((.func (.func 112) #[] #[]))), (15, .v (slv (a).length pa.1)), (16, .v (I ((a).length : Int))), (17, .v (I (k : Int)))], []⟩ ac w) _ ⟨0, _, _, _, rfl, (by first | omega | (simp; done) | (simp; omega)), (by first | omega | (simp; done) | (simp; omega)), (by simp), S.cast (by kernel_rfl)⟩ ?_
    clear S
    rintro mm ac w ⟨k, u, N, β, rfl, hk, hab, he, S⟩
    refine wp_seq ?_
    refine RG.start ?_
    refine S.quiet (k := 1) (keep := [1, 2, 15, 16, 17, 18]) (m := 0) (σ' := ⟨[(1, .v (slv (b).length pb.1)), (2, .v ((.func (.func 112) #[] #[]))), (15, .v (slv (a).length pa.1)), (16, .v (I ((a).length : Int))), (17, .v (I (k : Int))), (18, .v (B (decide ((k : Int) < ((a).length : Int)))))], []⟩) .nil (by kernel_rfl) ?_
    clear S; intro ac w β S
    refine RG.done rfl (nx_then ?_)
    refine wp_seq ?_
    refine S.cond (e := (decide ((k : Int) < ((a).length : Int)))) (by kernel_rfl) (fun h4 => ?_) (fun h4 => ?_)
    · have g5 : (k : Int) < ((a).length : Int) := of_decide_eq_true h4
      refine wp_skip (nx_then ?_)
      refine wp_seq ?_
      refine wp_block ?_
      refine wp_seq ?_
      refine RG.start ?_
      refine S.quiet (k := 5) (keep := [1, 2, 7, 8, 15, 16, 17]) (m := 0) (σ' := ⟨[(1, .v (slv (b).length pb.1)), (2, .v ((.func (.func 112) #[] #[]))), (7, .v (I (k : Int))), (8, .v (slv ((el a k)).length (pa.2 k).1)), (15, .v (slv (a).length pa.1)), (16, .v (I ((a).length : Int))), (17, .v (I (k : Int)))], []⟩) (.cons (Q_idx (S.arg ha) (l := (a).length) (k := k) (i := (k : Int)) rfl rfl (by omega) Go.Proofs.Try.underlying22 (by kernel_rfl)) (.cons (Q_el1 (S.arg ha) (t := 37) (k := k) (by omega) rfl (by kernel_rfl)) .nil)) (by kernel_rfl) ?_
      clear S; intro ac w β S
      refine RG.done rfl (nx_then ?_)
      refine wp_seq ?_
      refine RG.start ?_
      refine S.quiet (k := 5) (keep := [1, 2, 8, 9, 15, 16, 17]) (m := 0) (σ' := ⟨[(1, .v (slv (b).length pb.1)), (2, .v ((.func (.func 112) #[] #[]))), (8, .v (slv ((el a k)).length (pa.2 k).1)), (9, .v (slv ((el b k)).length (pb.2 k).1)), (15, .v (slv (a).length pa.1)), (16, .v (I ((a).length : Int))), (17, .v (I (k : Int)))], []⟩) (.cons (Q_idx (S.arg hb) (l := (b).length) (k := k) (i := (k : Int)) rfl rfl (by omega) Go.Proofs.Try.underlying22 (by kernel_rfl)) (.cons (Q_el1 (S.arg hb) (t := 37) (k := k) (by omega) rfl (by kernel_rfl)) .nil)) (by kernel_rfl) ?_
      clear S; intro ac w β S
      refine RG.done rfl (nx_then ?_)
      refine wp_seq ?_
      refine RG.start ?_
      refine S.quiet (k := 5) (keep := [1, 2, 15, 16, 17, 30]) (m := 0) (σ' := ⟨[(1, .v (slv (b).length pb.1)), (2, .v ((.func (.func 112) #[] #[]))), (15, .v (slv (a).length pa.1)), (16, .v (I ((a).length : Int))), (17, .v (I (k : Int))), (30, .v (B (!(decide ((el a k) = (el b k))))))], []⟩) (.cons (Q_call fun w hw => c_impl_SameMem_1 w (el a k) (pa.2 k) (rd_of (LRd.el (S.arg ha) k (by omega)) hw) (el b k) (pb.2 k) (rd_of (LRd.el (S.arg hb) k (by omega)) hw)) .nil) (by kernel_rfl) ?_
      clear S; intro ac w β S
      refine RG.done rfl (nx_then ?_)
      refine S.cond (e := (!(decide ((el a k) = (el b k))))) (by kernel_rfl) (fun h6 => ?_) (fun h6 => ?_)
      · have h7 : (decide ((el a k) = (el b k))) = false := not_t h6
        have g8 := of_decide_eq_false h7
        refine wp_seq ?_
        refine RG.start ?_
        refine S.quiet (k := 1) (keep := [6]) (m := 0) (σ' := ⟨[(6, .v (B false))], []⟩) .nil (by kernel_rfl) ?_
        clear S; intro ac w β S
        refine RG.done rfl (nx_then ?_)
        refine wp_ret (rt_block (rt_then (rt_then (rt_block (rt_then ?_)))))
        refine S.ret (vs := [B false]) (by kernel_rfl) ?_
        exact ⟨retB (show false = decide (a = b) by clear S; first | (simp; intro e; subst e; simp_all; done) | (simp; rw [take_all (by omega), take_all (by omega)] at he; exact he) | (simp; exact take_ne (by simp_all)) | (symm; exact decide_eq_false (take_ne (by assumption))) | (symm; exact decide_eq_true (by rw [take_all (by omega), take_all (by omega)] at he; exact he)) | (symm; refine decide_eq_false ?_; intro e; rw [e] at *; omega)), S.chg⟩
      · have h9 : (decide ((el a k) = (el b k))) = true := not_f h6
        have g10 := of_decide_eq_true h9
        refine wp_skip (nx_block (nx_then ?_))
        refine RG.start ?_
        refine S.quiet (k := 2) (keep := [1, 2, 15, 16, 17]) (m := 0) (σ' := ⟨[(1, .v (slv (b).length pb.1)), (2, .v ((.func (.func 112) #[] #[]))), (15, .v (slv (a).length pa.1)), (16, .v (I ((a).length : Int))), (17, .v (I ((k : Int) + 1)))], []⟩) (.cons (Q_add (x := (k : Int)) (y := 1) ⟨by omega, by omega⟩) .nil) (by kernel_rfl) ?_
        clear S; intro ac w β S
        refine RG.done rfl (nx_then ?_)
        replace S := S.prune (keep := [1, 2, 15, 16, 17]) (m := 0) (σ' := ⟨[(1, .v (slv (b).length pb.1)), (2, .v ((.func (.func 112) #[] #[]))), (15, .v (slv (a).length pa.1)), (16, .v (I ((a).length : Int))), (17, .v (I ((k : Int) + 1)))], []⟩) (by kernel_rfl)
        refine ⟨a.length - (k + 1), by omega, k + 1, _, _, _, rfl, ?_, ?_, ?_, S.cast (by kernel_rfl)⟩
        · clear S; first | omega | (simp [*]; done) | (simp [*]; omega)
        · clear S; first | omega | (simp [*]; done) | (simp [*]; omega)
        · clear S; exact take_eq_step (by omega) (by omega) he (by simp_all)
    · have g11 : ¬ ((k : Int) < ((a).length : Int)) := of_decide_eq_false h4
      refine wp_exit (ex_then (ex_then (ex_hit (nx_then ?_))))
      refine wp_seq ?_
      refine RG.start ?_
      refine S.quiet (k := 1) (keep := [6]) (m := 0) (σ' := ⟨[(6, .v (B true))], []⟩) .nil (by kernel_rfl) ?_
      clear S; intro ac w β S
      refine RG.done rfl (nx_then ?_)
      refine wp_ret ?_
      refine S.ret (vs := [B true]) (by kernel_rfl) ?_
      exact ⟨retB (show true = decide (a = b) by clear S; first | (simp; intro e; subst e; simp_all; done) | (simp; rw [take_all (by omega), take_all (by omega)] at he; exact he) | (simp; exact take_ne (by simp_all)) | (symm; exact decide_eq_false (take_ne (by assumption))) | (symm; exact decide_eq_true (by rw [take_all (by omega), take_all (by omega)] at he; exact he)) | (symm; refine decide_eq_false ?_; intro e; rw [e] at *; omega)), S.chg⟩

set_option maxRecDepth 100000 in
theorem c_impl_SameMem (w0 : World) (a : List (List Int)) (pa : LP (List Int)) (ha : GT.rd KK (Lt w0.heap.size) w0 a pa) (b : List (List Int)) (pb : LP (List Int)) (hb : GT.rd KK (Lt w0.heap.size) w0 b pb) : Calls Go.Proofs.Try.prog 49 [slv (a).length pa.1, slv (b).length pb.1].toArray w0 (fun e w' => e = .returned (B (decide (a = b))) ∧ Chg NoB w0 w') := by
  refine Calls.walk (args := [slv (a).length pa.1, slv (b).length pb.1]) NoB Go.Proofs.Try.func49 rfl rfl ?_
  intro ac β S
  have hlea : a.length ≤ 4194304 := LRd.le ha
  have hleb : b.length ≤ 4194304 := LRd.le hb
  refine wp_seq ?_
  refine RG.start ?_
  refine S.quiet (k := 1) (keep := [0, 1]) (m := 0) (σ' := ⟨[(0, .v (slv (a).length pa.1)), (1, .v (slv (b).length pb.1))], []⟩) .nil (by kernel_rfl) ?_
  clear S; intro ac w β S
  refine RG.done rfl (nx_then ?_)
  refine wp_seq ?_
  refine RG.start ?_
  refine S.quiet (k := 4) (keep := [4]) (m := 0) (σ' := ⟨[(4, .v (B (decide (a = b))))], []⟩) (.cons (Q_call fun w hw => c_slices_EqualFunc_____int_____int___int___int_ w a pa (rd_of (S.arg ha) hw) b pb (rd_of (S.arg hb) hw)) .nil) (by kernel_rfl) ?_
  clear S; intro ac w β S
  refine RG.done rfl (nx_then ?_)
  refine wp_ret ?_
  refine S.ret (vs := [B (decide (a = b))]) (by kernel_rfl) ?_
  exact ⟨retB (show (decide (a = b)) = decide (a = b) by clear S; first | rfl | (simp [decide, *]; done) | (simp [decide, *]; omega) | (simp_all [decide]; done) | (simp_all [decide]; omega)), S.chg⟩

set_option maxRecDepth 100000 in
theorem c_slices_Equal___impl_Slot_impl_Slot_ (w0 : World) (a : List TSlot) (pa : LP TSlot) (ha : GT.rd KK (Lt w0.heap.size) w0 a pa) (b : List TSlot) (pb : LP TSlot) (hb : GT.rd KK (Lt w0.heap.size) w0 b pb) : Calls Go.Proofs.Try.prog 160 [slv (a).length pa.1, slv (b).length pb.1].toArray w0 (fun e w' => e = .returned (B (decide (a = b))) ∧ Chg NoB w0 w') := by
  refine Calls.walk (args := [slv (a).length pa.1, slv (b).length pb.1]) NoB Go.Proofs.Try.func160 rfl rfl ?_
  intro ac β S
  have hlea : a.length ≤ 4194304 := LRd.le ha
  have hleb : b.length ≤ 4194304 := LRd.le hb
  refine wp_seq ?_
  refine RG.start ?_
  refine S.quiet (k := 1) (keep := [0, 1]) (m := 0) (σ' := ⟨[(0, .v (slv (a).length pa.1)), (1, .v (slv (b).length pb.1))], []⟩) .nil (by kernel_rfl) ?_
  clear S; intro ac w β S
  refine RG.done rfl (nx_then ?_)
  refine wp_seq ?_
  refine wp_seq ?_
  refine RG.start ?_
  refine S.quiet (k := 5) (keep := [0, 1, 10]) (m := 0) (σ' := ⟨[(0, .v (slv (a).length pa.1)), (1, .v (slv (b).length pb.1)), (10, .v (B (((a).length : Int) != ((b).length : Int))))], []⟩) .nil (by kernel_rfl) ?_
  clear S; intro ac w β S
  refine RG.done rfl (nx_then ?_)
  refine S.cond (e := (((a).length : Int) != ((b).length : Int))) (by kernel_rfl) (fun h1 => ?_) (fun h1 => ?_)
  · have g2 : ¬ (((a).length : Int) = ((b).length : Int)) := bne_iff_ne.1 h1
    refine wp_seq ?_
    refine RG.start ?_
    refine S.quiet (k := 1) (keep := [4]) (m := 0) (σ' := ⟨[(4, .v (B false))], []⟩) .nil (by kernel_rfl) ?_
    clear S; intro ac w β S
    refine RG.done rfl (nx_then ?_)
    refine wp_ret (rt_then ?_)
    refine S.ret (vs := [B false]) (by kernel_rfl) ?_
    exact ⟨retB (show false = decide (a = b) by clear S; first | (simp; intro e; subst e; simp_all; done) | (simp; rw [take_all (by omega), take_all (by omega)] at he; exact he) | (simp; exact take_ne (by simp_all)) | (symm; exact decide_eq_false (take_ne (by assumption))) | (symm; exact decide_eq_true (by rw [take_all (by omega), take_all (by omega)] at he; exact he)) | (symm; refine decide_eq_false ?_; intro e; rw [e] at *; omega)), S.chg⟩
  · have g3 : ((a).length : Int) = ((b).length : Int) := ne_f h1
    refine wp_skip (nx_then ?_)
    refine wp_seq ?_
    refine wp_seq ?_
    refine RG.start ?_
    refine S.quiet (k := 3) (keep := [0, 1, 12, 13]) (m := 0) (σ' := ⟨[(0, .v (slv (a).length pa.1)), (1, .v (slv (b).length pb.1)), (12, .v (I ((a).length : Int))), (13, .v (I 0))], []⟩) .nil (by kernel_rfl) ?_
    clear S; intro ac w β S
    refine RG.done rfl (nx_then ?_)
    refine wp_block ?_
    replace S := S.prune (keep := [0, 1, 12, 13]) (m := 0) (σ' := ⟨[(0, .v (slv (a).length pa.1)), (1, .v (slv (b).length pb.1)), (12, .v (I ((a).length : Int))), (13, .v (I 0))], []⟩) (by kernel_rfl)
    refine wp_loop_down (fun mm ac w => ∃ (k : Nat)  (u : World) (N : Bl) (β : Nat → Nat), mm = a.length - k ∧ (k ≤ a.length) ∧ (a.length = b.length) ∧ (a.take k = b.take k) ∧ St Go.Proofs.Try.prog Go.Proofs.Try.f160.ntmps w0 NoB u N β ⟨[(0, .v (slv (a).length pa.1)), (1, .v (slv (b).length pb.1)), (12, .v (I ((a).length : Int))), (13, .v (I (k : Int)))], []⟩ ac w) _ ⟨0, _, _, _, rfl, (by first | omega | (simp; done) | (simp; omega)), (by first | omega | (simp; done) | (simp; omega)), (by simp), S.cast (by kernel_rfl)⟩ ?_
    clear S
    rintro mm ac w ⟨k, u, N, β, rfl, hk, hab, he, S⟩
    refine wp_seq ?_
    refine RG.start ?_
    refine S.quiet (k := 1) (keep := [0, 1, 12, 13, 14]) (m := 0) (σ' := ⟨[(0, .v (slv (a).length pa.1)), (1, .v (slv (b).length pb.1)), (12, .v (I ((a).length : Int))), (13, .v (I (k : Int))), (14, .v (B (decide ((k : Int) < ((a).length : Int)))))], []⟩) .nil (by kernel_rfl) ?_
    clear S; intro ac w β S
    refine RG.done rfl (nx_then ?_)
    refine wp_seq ?_
    refine S.cond (e := (decide ((k : Int) < ((a).length : Int)))) (by kernel_rfl) (fun h4 => ?_) (fun h4 => ?_)
    · have g5 : (k : Int) < ((a).length : Int) := of_decide_eq_true h4
      refine wp_skip (nx_then ?_)
      refine wp_seq ?_
      refine wp_block ?_
      refine wp_seq ?_
      refine RG.start ?_
      refine S.quiet (k := 2) (keep := [0, 1, 5, 12, 13]) (m := 0) (σ' := ⟨[(0, .v (slv (a).length pa.1)), (1, .v (slv (b).length pb.1)), (5, .v (I (k : Int))), (12, .v (I ((a).length : Int))), (13, .v (I (k : Int)))], []⟩) .nil (by kernel_rfl) ?_
      clear S; intro ac w β S
      refine RG.done rfl (nx_then ?_)
      refine wp_seq ?_
      refine S.drawn (keep := [0, 1, 12, 13, 24]) (m := 0) (σ' := ⟨[(0, .v (slv (a).length pa.1)), (1, .v (slv (b).length pb.1)), (12, .v (I ((a).length : Int))), (13, .v (I (k : Int))), (24, .v (B (!decide ((el a k) = (el b k)))))], []⟩) (.cons (Q_idx (S.arg ha) (l := (a).length) (k := k) (i := (k : Int)) rfl rfl (by omega) Go.Proofs.Try.underlying45 (by kernel_rfl)) (.cons (Q_el (S.arg ha) (t := 87) (k := k) (by omega) rfl (by kernel_rfl) (by kernel_rfl)) (.cons (Q_idx (S.arg hb) (l := (b).length) (k := k) (i := (k : Int)) rfl rfl (by omega) Go.Proofs.Try.underlying45 (by kernel_rfl)) (.cons (Q_el (S.arg hb) (t := 87) (k := k) (by omega) rfl (by kernel_rfl) (by kernel_rfl)) (.cons (Eq_ne_Slot (t := 87) (el a k) (el b k) (by kernel_rfl)) .nil))))) rfl (by kernel_rfl) (by kernel_rfl) ?_
      clear S; intro ac w S
      refine id (nx_then ?_)
      refine S.cond (e := (!decide ((el a k) = (el b k)))) (by kernel_rfl) (fun h6 => ?_) (fun h6 => ?_)
      · refine wp_seq ?_
        refine RG.start ?_
        refine S.quiet (k := 1) (keep := [4]) (m := 0) (σ' := ⟨[(4, .v (B false))], []⟩) .nil (by kernel_rfl) ?_
        clear S; intro ac w β S
        refine RG.done rfl (nx_then ?_)
        refine wp_ret (rt_block (rt_then (rt_then (rt_block (rt_then ?_)))))
        refine S.ret (vs := [B false]) (by kernel_rfl) ?_
        exact ⟨retB (show false = decide (a = b) by clear S; first | (simp; intro e; subst e; simp_all; done) | (simp; rw [take_all (by omega), take_all (by omega)] at he; exact he) | (simp; exact take_ne (by simp_all)) | (symm; exact decide_eq_false (take_ne (by assumption))) | (symm; exact decide_eq_true (by rw [take_all (by omega), take_all (by omega)] at he; exact he)) | (symm; refine decide_eq_false ?_; intro e; rw [e] at *; omega)), S.chg⟩
      · refine wp_skip (nx_block (nx_then ?_))
        refine RG.start ?_
        refine S.quiet (k := 2) (keep := [0, 1, 12, 13]) (m := 0) (σ' := ⟨[(0, .v (slv (a).length pa.1)), (1, .v (slv (b).length pb.1)), (12, .v (I ((a).length : Int))), (13, .v (I ((k : Int) + 1)))], []⟩) (.cons (Q_add (x := (k : Int)) (y := 1) ⟨by omega, by omega⟩) .nil) (by kernel_rfl) ?_
        clear S; intro ac w β S
        refine RG.done rfl (nx_then ?_)
        replace S := S.prune (keep := [0, 1, 12, 13]) (m := 0) (σ' := ⟨[(0, .v (slv (a).length pa.1)), (1, .v (slv (b).length pb.1)), (12, .v (I ((a).length : Int))), (13, .v (I ((k : Int) + 1)))], []⟩) (by kernel_rfl)
        refine ⟨a.length - (k + 1), by omega, k + 1, _, _, _, rfl, ?_, ?_, ?_, S.cast (by kernel_rfl)⟩
        · clear S; first | omega | (simp [*]; done) | (simp [*]; omega)
        · clear S; first | omega | (simp [*]; done) | (simp [*]; omega)
        · clear S; exact take_eq_step (by omega) (by omega) he (by simp_all)
    · have g7 : ¬ ((k : Int) < ((a).length : Int)) := of_decide_eq_false h4
      refine wp_exit (ex_then (ex_then (ex_hit (nx_then ?_))))
      refine wp_seq ?_
      refine RG.start ?_
      refine S.quiet (k := 1) (keep := [4]) (m := 0) (σ' := ⟨[(4, .v (B true))], []⟩) .nil (by kernel_rfl) ?_
      clear S; intro ac w β S
      refine RG.done rfl (nx_then ?_)
      refine wp_ret ?_
      refine S.ret (vs := [B true]) (by kernel_rfl) ?_
      exact ⟨retB (show true = decide (a = b) by clear S; first | (simp; intro e; subst e; simp_all; done) | (simp; rw [take_all (by omega), take_all (by omega)] at he; exact he) | (simp; exact take_ne (by simp_all)) | (symm; exact decide_eq_false (take_ne (by assumption))) | (symm; exact decide_eq_true (by rw [take_all (by omega), take_all (by omega)] at he; exact he)) | (symm; refine decide_eq_false ?_; intro e; rw [e] at *; omega)), S.chg⟩

set_option maxRecDepth 100000 in
theorem c_impl_SameTable (w0 : World) (a : List TSlot) (pa : LP TSlot) (ha : GT.rd KK (Lt w0.heap.size) w0 a pa) (b : List TSlot) (pb : LP TSlot) (hb : GT.rd KK (Lt w0.heap.size) w0 b pb) : Calls Go.Proofs.Try.prog 114 [slv (a).length pa.1, slv (b).length pb.1].toArray w0 (fun e w' => e = .returned (B (decide (a = b))) ∧ Chg NoB w0 w') := by
  refine Calls.walk (args := [slv (a).length pa.1, slv (b).length pb.1]) NoB Go.Proofs.Try.func114 rfl rfl ?_
  intro ac β S
  have hlea : a.length ≤ 4194304 := LRd.le ha
  have hleb : b.length ≤ 4194304 := LRd.le hb
  refine wp_seq ?_
  refine RG.start ?_
  refine S.quiet (k := 1) (keep := [0, 1]) (m := 0) (σ' := ⟨[(0, .v (slv (a).length pa.1)), (1, .v (slv (b).length pb.1))], []⟩) .nil (by kernel_rfl) ?_
  clear S; intro ac w β S
  refine RG.done rfl (nx_then ?_)
  refine wp_seq ?_
  refine RG.start ?_
  refine S.quiet (k := 4) (keep := [4]) (m := 0) (σ' := ⟨[(4, .v (B (decide (a = b))))], []⟩) (.cons (Q_call fun w hw => c_slices_Equal___impl_Slot_impl_Slot_ w a pa (rd_of (S.arg ha) hw) b pb (rd_of (S.arg hb) hw)) .nil) (by kernel_rfl) ?_
  clear S; intro ac w β S
  refine RG.done rfl (nx_then ?_)
  refine wp_ret ?_
  refine S.ret (vs := [B (decide (a = b))]) (by kernel_rfl) ?_
  exact ⟨retB (show (decide (a = b)) = decide (a = b) by clear S; first | rfl | (simp [decide, *]; done) | (simp [decide, *]; omega) | (simp_all [decide]; done) | (simp_all [decide]; omega)), S.chg⟩

set_option maxRecDepth 100000 in
theorem c_slices_Equal___bool_bool_ (w0 : World) (a : List Bool) (pa : LP Bool) (ha : GT.rd KK (Lt w0.heap.size) w0 a pa) (b : List Bool) (pb : LP Bool) (hb : GT.rd KK (Lt w0.heap.size) w0 b pb) : Calls Go.Proofs.Try.prog 115 [slv (a).length pa.1, slv (b).length pb.1].toArray w0 (fun e w' => e = .returned (B (decide (a = b))) ∧ Chg NoB w0 w') := by
  refine Calls.walk (args := [slv (a).length pa.1, slv (b).length pb.1]) NoB Go.Proofs.Try.func115 rfl rfl ?_
  intro ac β S
  have hlea : a.length ≤ 4194304 := LRd.le ha
  have hleb : b.length ≤ 4194304 := LRd.le hb
  refine wp_seq ?_
  refine RG.start ?_
  refine S.quiet (k := 1) (keep := [0, 1]) (m := 0) (σ' := ⟨[(0, .v (slv (a).length pa.1)), (1, .v (slv (b).length pb.1))], []⟩) .nil (by kernel_rfl) ?_
  clear S; intro ac w β S
  refine RG.done rfl (nx_then ?_)
  refine wp_seq ?_
  refine wp_seq ?_
  refine RG.start ?_
  refine S.quiet (k := 5) (keep := [0, 1, 10]) (m := 0) (σ' := ⟨[(0, .v (slv (a).length pa.1)), (1, .v (slv (b).length pb.1)), (10, .v (B (((a).length : Int) != ((b).length : Int))))], []⟩) .nil (by kernel_rfl) ?_
  clear S; intro ac w β S
  refine RG.done rfl (nx_then ?_)
  refine S.cond (e := (((a).length : Int) != ((b).length : Int))) (by kernel_rfl) (fun h1 => ?_) (fun h1 => ?_)
  · have g2 : ¬ (((a).length : Int) = ((b).length : Int)) := bne_iff_ne.1 h1
    refine wp_seq ?_
    refine RG.start ?_
    refine S.quiet (k := 1) (keep := [4]) (m := 0) (σ' := ⟨[(4, .v (B false))], []⟩) .nil (by kernel_rfl) ?_
    clear S; intro ac w β S
    refine RG.done rfl (nx_then ?_)
    refine wp_ret (rt_then ?_)
    refine S.ret (vs := [B false]) (by kernel_rfl) ?_
    exact ⟨retB (show false = decide (a = b) by clear S; first | (simp; intro e; subst e; simp_all; done) | (simp; rw [take_all (by omega), take_all (by omega)] at he; exact he) | (simp; exact take_ne (by simp_all)) | (symm; exact decide_eq_false (take_ne (by assumption))) | (symm; exact decide_eq_true (by rw [take_all (by omega), take_all (by omega)] at he; exact he)) | (symm; refine decide_eq_false ?_; intro e; rw [e] at *; omega)), S.chg⟩
  · have g3 : ((a).length : Int) = ((b).length : Int) := ne_f h1
    refine wp_skip (nx_then ?_)
    refine wp_seq ?_
    refine wp_seq ?_
    refine RG.start ?_
    refine S.quiet (k := 3) (keep := [0, 1, 12, 13]) (m := 0) (σ' := ⟨[(0, .v (slv (a).length pa.1)), (1, .v (slv (b).length pb.1)), (12, .v (I ((a).length : Int))), (13, .v (I 0))], []⟩) .nil (by kernel_rfl) ?_
    clear S; intro ac w β S
    refine RG.done rfl (nx_then ?_)
    refine wp_block ?_
    replace S := S.prune (keep := [0, 1, 12, 13]) (m := 0) (σ' := ⟨[(0, .v (slv (a).length pa.1)), (1, .v (slv (b).length pb.1)), (12, .v (I ((a).length : Int))), (13, .v (I 0))], []⟩) (by kernel_rfl)
    refine wp_loop_down (fun mm ac w => ∃ (k : Nat)  (u : World) (N : Bl) (β : Nat → Nat), mm = a.length - k ∧ (k ≤ a.length) ∧ (a.length = b.length) ∧ (a.take k = b.take k) ∧ St Go.Proofs.Try.prog Go.Proofs.Try.f115.ntmps w0 NoB u N β ⟨[(0, .v (slv (a).length pa.1)), (1, .v (slv (b).length pb.1)), (12, .v (I ((a).length : Int))), (13, .v (I (k : Int)))], []⟩ ac w) _ ⟨0, _, _, _, rfl, (by first | omega | (simp; done) | (simp; omega)), (by first | omega | (simp; done) | (simp; omega)), (by simp), S.cast (by kernel_rfl)⟩ ?_
    clear S
    rintro mm ac w ⟨k, u, N, β, rfl, hk, hab, he, S⟩
    refine wp_seq ?_
    refine RG.start ?_
    refine S.quiet (k := 1) (keep := [0, 1, 12, 13, 14]) (m := 0) (σ' := ⟨[(0, .v (slv (a).length pa.1)), (1, .v (slv (b).length pb.1)), (12, .v (I ((a).length : Int))), (13, .v (I (k : Int))), (14, .v (B (decide ((k : Int) < ((a).length : Int)))))], []⟩) .nil (by kernel_rfl) ?_
    clear S; intro ac w β S
    refine RG.done rfl (nx_then ?_)
    refine wp_seq ?_
    refine S.cond (e := (decide ((k : Int) < ((a).length : Int)))) (by kernel_rfl) (fun h4 => ?_) (fun h4 => ?_)
    · have g5 : (k : Int) < ((a).length : Int) := of_decide_eq_true h4
      refine wp_skip (nx_then ?_)
      refine wp_seq ?_
      refine wp_block ?_
      refine wp_seq ?_
      refine RG.start ?_
      refine S.quiet (k := 2) (keep := [0, 1, 5, 12, 13]) (m := 0) (σ' := ⟨[(0, .v (slv (a).length pa.1)), (1, .v (slv (b).length pb.1)), (5, .v (I (k : Int))), (12, .v (I ((a).length : Int))), (13, .v (I (k : Int)))], []⟩) .nil (by kernel_rfl) ?_
      clear S; intro ac w β S
      refine RG.done rfl (nx_then ?_)
      refine wp_seq ?_
      refine S.drawn (keep := [0, 1, 12, 13, 24]) (m := 0) (σ' := ⟨[(0, .v (slv (a).length pa.1)), (1, .v (slv (b).length pb.1)), (12, .v (I ((a).length : Int))), (13, .v (I (k : Int))), (24, .v (B (!((el a k) == (el b k)))))], []⟩) (.cons (Q_idx (S.arg ha) (l := (a).length) (k := k) (i := (k : Int)) rfl rfl (by omega) Go.Proofs.Try.underlying46 (by kernel_rfl)) (.cons (Q_el1 (S.arg ha) (t := 4) (k := k) (by omega) rfl (by kernel_rfl)) (.cons (Q_idx (S.arg hb) (l := (b).length) (k := k) (i := (k : Int)) rfl rfl (by omega) Go.Proofs.Try.underlying46 (by kernel_rfl)) (.cons (Q_el1 (S.arg hb) (t := 4) (k := k) (by omega) rfl (by kernel_rfl)) .nil)))) rfl (by kernel_rfl) (by kernel_rfl) ?_
      clear S; intro ac w S
      refine id (nx_then ?_)
      refine S.cond (e := (!((el a k) == (el b k)))) (by kernel_rfl) (fun h6 => ?_) (fun h6 => ?_)
      · have h7 : ((el a k) == (el b k)) = false := not_t h6
        have g8 : ¬ ((el a k) = (el b k)) := ne_of_beq_false h7
        refine wp_seq ?_
        refine RG.start ?_
        refine S.quiet (k := 1) (keep := [4]) (m := 0) (σ' := ⟨[(4, .v (B false))], []⟩) .nil (by kernel_rfl) ?_
        clear S; intro ac w β S
        refine RG.done rfl (nx_then ?_)
        refine wp_ret (rt_block (rt_then (rt_then (rt_block (rt_then ?_)))))
        refine S.ret (vs := [B false]) (by kernel_rfl) ?_
        exact ⟨retB (show false = decide (a = b) by clear S; first | (simp; intro e; subst e; simp_all; done) | (simp; rw [take_all (by omega), take_all (by omega)] at he; exact he) | (simp; exact take_ne (by simp_all)) | (symm; exact decide_eq_false (take_ne (by assumption))) | (symm; exact decide_eq_true (by rw [take_all (by omega), take_all (by omega)] at he; exact he)) | (symm; refine decide_eq_false ?_; intro e; rw [e] at *; omega)), S.chg⟩
      · have h9 : ((el a k) == (el b k)) = true := not_f h6
        have g10 : (el a k) = (el b k) := eq_of_beq h9
        refine wp_skip (nx_block (nx_then ?_))
        refine RG.start ?_
        refine S.quiet (k := 2) (keep := [0, 1, 12, 13]) (m := 0) (σ' := ⟨[(0, .v (slv (a).length pa.1)), (1, .v (slv (b).length pb.1)), (12, .v (I ((a).length : Int))), (13, .v (I ((k : Int) + 1)))], []⟩) (.cons (Q_add (x := (k : Int)) (y := 1) ⟨by omega, by omega⟩) .nil) (by kernel_rfl) ?_
        clear S; intro ac w β S
        refine RG.done rfl (nx_then ?_)
        replace S := S.prune (keep := [0, 1, 12, 13]) (m := 0) (σ' := ⟨[(0, .v (slv (a).length pa.1)), (1, .v (slv (b).length pb.1)), (12, .v (I ((a).length : Int))), (13, .v (I ((k : Int) + 1)))], []⟩) (by kernel_rfl)
        refine ⟨a.length - (k + 1), by omega, k + 1, _, _, _, rfl, ?_, ?_, ?_, S.cast (by kernel_rfl)⟩
        · clear S; first | omega | (simp [*]; done) | (simp [*]; omega)
        · clear S; first | omega | (simp [*]; done) | (simp [*]; omega)
        · clear S; exact take_eq_step (by omega) (by omega) he (by simp_all)
    · have g11 : ¬ ((k : Int) < ((a).length : Int)) := of_decide_eq_false h4
      refine wp_exit (ex_then (ex_then (ex_hit (nx_then ?_))))
      refine wp_seq ?_
      refine RG.start ?_
      refine S.quiet (k := 1) (keep := [4]) (m := 0) (σ' := ⟨[(4, .v (B true))], []⟩) .nil (by kernel_rfl) ?_
      clear S; intro ac w β S
      refine RG.done rfl (nx_then ?_)
      refine wp_ret ?_
      refine S.ret (vs := [B true]) (by kernel_rfl) ?_
      exact ⟨retB (show true = decide (a = b) by clear S; first | (simp; intro e; subst e; simp_all; done) | (simp; rw [take_all (by omega), take_all (by omega)] at he; exact he) | (simp; exact take_ne (by simp_all)) | (symm; exact decide_eq_false (take_ne (by assumption))) | (symm; exact decide_eq_true (by rw [take_all (by omega), take_all (by omega)] at he; exact he)) | (symm; refine decide_eq_false ?_; intro e; rw [e] at *; omega)), S.chg⟩

set_option maxRecDepth 100000 in
theorem c_slices_Equal___impl_Ins_impl_Ins_ (w0 : World) (a : List TIns) (pa : LP TIns) (ha : GT.rd KK (Lt w0.heap.size) w0 a pa) (b : List TIns) (pb : LP TIns) (hb : GT.rd KK (Lt w0.heap.size) w0 b pb) : Calls Go.Proofs.Try.prog 183 [slv (a).length pa.1, slv (b).length pb.1].toArray w0 (fun e w' => e = .returned (B (decide (a = b))) ∧ Chg NoB w0 w') := by
  refine Calls.walk (args := [slv (a).length pa.1, slv (b).length pb.1]) NoB Go.Proofs.Try.func183 rfl rfl ?_
  intro ac β S
  have hlea : a.length ≤ 4194304 := LRd.le ha
  have hleb : b.length ≤ 4194304 := LRd.le hb
  refine wp_seq ?_
  refine RG.start ?_
  refine S.quiet (k := 1) (keep := [0, 1]) (m := 0) (σ' := ⟨[(0, .v (slv (a).length pa.1)), (1, .v (slv (b).length pb.1))], []⟩) .nil (by kernel_rfl) ?_
  clear S; intro ac w β S
  refine RG.done rfl (nx_then ?_)
  refine wp_seq ?_
  refine wp_seq ?_
  refine RG.start ?_
  refine S.quiet (k := 5) (keep := [0, 1, 10]) (m := 0) (σ' := ⟨[(0, .v (slv (a).length pa.1)), (1, .v (slv (b).length pb.1)), (10, .v (B (((a).length : Int) != ((b).length : Int))))], []⟩) .nil (by kernel_rfl) ?_
  clear S; intro ac w β S
  refine RG.done rfl (nx_then ?_)
  refine S.cond (e := (((a).length : Int) != ((b).length : Int))) (by kernel_rfl) (fun h1 => ?_) (fun h1 => ?_)
  · have g2 : ¬ (((a).length : Int) = ((b).length : Int)) := bne_iff_ne.1 h1
    refine wp_seq ?_
    refine RG.start ?_
    refine S.quiet (k := 1) (keep := [4]) (m := 0) (σ' := ⟨[(4, .v (B false))], []⟩) .nil (by kernel_rfl) ?_
    clear S; intro ac w β S
    refine RG.done rfl (nx_then ?_)
    refine wp_ret (rt_then ?_)
    refine S.ret (vs := [B false]) (by kernel_rfl) ?_
    exact ⟨retB (show false = decide (a = b) by clear S; first | (simp; intro e; subst e; simp_all; done) | (simp; rw [take_all (by omega), take_all (by omega)] at he; exact he) | (simp; exact take_ne (by simp_all)) | (symm; exact decide_eq_false (take_ne (by assumption))) | (symm; exact decide_eq_true (by rw [take_all (by omega), take_all (by omega)] at he; exact he)) | (symm; refine decide_eq_false ?_; intro e; rw [e] at *; omega)), S.chg⟩
  · have g3 : ((a).length : Int) = ((b).length : Int) := ne_f h1
    refine wp_skip (nx_then ?_)
    refine wp_seq ?_
    refine wp_seq ?_
    refine RG.start ?_
    refine S.quiet (k := 3) (keep := [0, 1, 12, 13]) (m := 0) (σ' := ⟨[(0, .v (slv (a).length pa.1)), (1, .v (slv (b).length pb.1)), (12, .v (I ((a).length : Int))), (13, .v (I 0))], []⟩) .nil (by kernel_rfl) ?_
    clear S; intro ac w β S
    refine RG.done rfl (nx_then ?_)
    refine wp_block ?_
    replace S := S.prune (keep := [0, 1, 12, 13]) (m := 0) (σ' := ⟨[(0, .v (slv (a).length pa.1)), (1, .v (slv (b).length pb.1)), (12, .v (I ((a).length : Int))), (13, .v (I 0))], []⟩) (by kernel_rfl)
    refine wp_loop_down (fun mm ac w => ∃ (k : Nat)  (u : World) (N : Bl) (β : Nat → Nat), mm = a.length - k ∧ (k ≤ a.length) ∧ (a.length = b.length) ∧ (a.take k = b.take k) ∧ St Go.Proofs.Try.prog Go.Proofs.Try.f183.ntmps w0 NoB u N β ⟨[(0, .v (slv (a).length pa.1)), (1, .v (slv (b).length pb.1)), (12, .v (I ((a).length : Int))), (13, .v (I (k : Int)))], []⟩ ac w) _ ⟨0, _, _, _, rfl, (by first | omega | (simp; done) | (simp; omega)), (by first | omega | (simp; done) | (simp; omega)), (by simp), S.cast (by kernel_rfl)⟩ ?_
    clear S
    rintro mm ac w ⟨k, u, N, β, rfl, hk, hab, he, S⟩
    refine wp_seq ?_
    refine RG.start ?_
    refine S.quiet (k := 1) (keep := [0, 1, 12, 13, 14]) (m := 0) (σ' := ⟨[(0, .v (slv (a).length pa.1)), (1, .v (slv (b).length pb.1)), (12, .v (I ((a).length : Int))), (13, .v (I (k : Int))), (14, .v (B (decide ((k : Int) < ((a).length : Int)))))], []⟩) .nil (by kernel_rfl) ?_
    clear S; intro ac w β S
    refine RG.done rfl (nx_then ?_)
    refine wp_seq ?_
    refine S.cond (e := (decide ((k : Int) < ((a).length : Int)))) (by kernel_rfl) (fun h4 => ?_) (fun h4 => ?_)
    · have g5 : (k : Int) < ((a).length : Int) := of_decide_eq_true h4
      refine wp_skip (nx_then ?_)
      refine wp_seq ?_
      refine wp_block ?_
      refine wp_seq ?_
      refine RG.start ?_
      refine S.quiet (k := 2) (keep := [0, 1, 5, 12, 13]) (m := 0) (σ' := ⟨[(0, .v (slv (a).length pa.1)), (1, .v (slv (b).length pb.1)), (5, .v (I (k : Int))), (12, .v (I ((a).length : Int))), (13, .v (I (k : Int)))], []⟩) .nil (by kernel_rfl) ?_
      clear S; intro ac w β S
      refine RG.done rfl (nx_then ?_)
      refine wp_seq ?_
      refine S.drawn (keep := [0, 1, 12, 13, 24]) (m := 0) (σ' := ⟨[(0, .v (slv (a).length pa.1)), (1, .v (slv (b).length pb.1)), (12, .v (I ((a).length : Int))), (13, .v (I (k : Int))), (24, .v (B (!decide ((el a k) = (el b k)))))], []⟩) (.cons (Q_idx (S.arg ha) (l := (a).length) (k := k) (i := (k : Int)) rfl rfl (by omega) Go.Proofs.Try.underlying97 (by kernel_rfl)) (.cons (Q_el (S.arg ha) (t := 143) (k := k) (by omega) rfl (by kernel_rfl) (by kernel_rfl)) (.cons (Q_idx (S.arg hb) (l := (b).length) (k := k) (i := (k : Int)) rfl rfl (by omega) Go.Proofs.Try.underlying97 (by kernel_rfl)) (.cons (Q_el (S.arg hb) (t := 143) (k := k) (by omega) rfl (by kernel_rfl) (by kernel_rfl)) (.cons (Eq_ne_Ins (t := 143) (el a k) (el b k) (by kernel_rfl)) .nil))))) rfl (by kernel_rfl) (by kernel_rfl) ?_
      clear S; intro ac w S
      refine id (nx_then ?_)
      refine S.cond (e := (!decide ((el a k) = (el b k)))) (by kernel_rfl) (fun h6 => ?_) (fun h6 => ?_)
      · refine wp_seq ?_
        refine RG.start ?_
        refine S.quiet (k := 1) (keep := [4]) (m := 0) (σ' := ⟨[(4, .v (B false))], []⟩) .nil (by kernel_rfl) ?_
        clear S; intro ac w β S
        refine RG.done rfl (nx_then ?_)
        refine wp_ret (rt_block (rt_then (rt_then (rt_block (rt_then ?_)))))
        refine S.ret (vs := [B false]) (by kernel_rfl) ?_
        exact ⟨retB (show false = decide (a = b) by clear S; first | (simp; intro e; subst e; simp_all; done) | (simp; rw [take_all (by omega), take_all (by omega)] at he; exact he) | (simp; exact take_ne (by simp_all)) | (symm; exact decide_eq_false (take_ne (by assumption))) | (symm; exact decide_eq_true (by rw [take_all (by omega), take_all (by omega)] at he; exact he)) | (symm; refine decide_eq_false ?_; intro e; rw [e] at *; omega)), S.chg⟩
      · refine wp_skip (nx_block (nx_then ?_))
        refine RG.start ?_
        refine S.quiet (k := 2) (keep := [0, 1, 12, 13]) (m := 0) (σ' := ⟨[(0, .v (slv (a).length pa.1)), (1, .v (slv (b).length pb.1)), (12, .v (I ((a).length : Int))), (13, .v (I ((k : Int) + 1)))], []⟩) (.cons (Q_add (x := (k : Int)) (y := 1) ⟨by omega, by omega⟩) .nil) (by kernel_rfl) ?_
        clear S; intro ac w β S
        refine RG.done rfl (nx_then ?_)
        replace S := S.prune (keep := [0, 1, 12, 13]) (m := 0) (σ' := ⟨[(0, .v (slv (a).length pa.1)), (1, .v (slv (b).length pb.1)), (12, .v (I ((a).length : Int))), (13, .v (I ((k : Int) + 1)))], []⟩) (by kernel_rfl)
        refine ⟨a.length - (k + 1), by omega, k + 1, _, _, _, rfl, ?_, ?_, ?_, S.cast (by kernel_rfl)⟩
        · clear S; first | omega | (simp [*]; done) | (simp [*]; omega)
        · clear S; first | omega | (simp [*]; done) | (simp [*]; omega)
        · clear S; exact take_eq_step (by omega) (by omega) he (by simp_all)
    · have g7 : ¬ ((k : Int) < ((a).length : Int)) := of_decide_eq_false h4
      refine wp_exit (ex_then (ex_then (ex_hit (nx_then ?_))))
      refine wp_seq ?_
      refine RG.start ?_
      refine S.quiet (k := 1) (keep := [4]) (m := 0) (σ' := ⟨[(4, .v (B true))], []⟩) .nil (by kernel_rfl) ?_
      clear S; intro ac w β S
      refine RG.done rfl (nx_then ?_)
      refine wp_ret ?_
      refine S.ret (vs := [B true]) (by kernel_rfl) ?_
      exact ⟨retB (show true = decide (a = b) by clear S; first | (simp; intro e; subst e; simp_all; done) | (simp; rw [take_all (by omega), take_all (by omega)] at he; exact he) | (simp; exact take_ne (by simp_all)) | (symm; exact decide_eq_false (take_ne (by assumption))) | (symm; exact decide_eq_true (by rw [take_all (by omega), take_all (by omega)] at he; exact he)) | (symm; refine decide_eq_false ?_; intro e; rw [e] at *; omega)), S.chg⟩

set_option maxRecDepth 100000 in
theorem c_impl_SameProg (w0 : World) (a : List TIns) (pa : LP TIns) (ha : GT.rd KK (Lt w0.heap.size) w0 a pa) (b : List TIns) (pb : LP TIns) (hb : GT.rd KK (Lt w0.heap.size) w0 b pb) : Calls Go.Proofs.Try.prog 161 [slv (a).length pa.1, slv (b).length pb.1].toArray w0 (fun e w' => e = .returned (B (decide (a = b))) ∧ Chg NoB w0 w') := by
  refine Calls.walk (args := [slv (a).length pa.1, slv (b).length pb.1]) NoB Go.Proofs.Try.func161 rfl rfl ?_
  intro ac β S
  have hlea : a.length ≤ 4194304 := LRd.le ha
  have hleb : b.length ≤ 4194304 := LRd.le hb
  refine wp_seq ?_
  refine RG.start ?_
  refine S.quiet (k := 1) (keep := [0, 1]) (m := 0) (σ' := ⟨[(0, .v (slv (a).length pa.1)), (1, .v (slv (b).length pb.1))], []⟩) .nil (by kernel_rfl) ?_
  clear S; intro ac w β S
  refine RG.done rfl (nx_then ?_)
  refine wp_seq ?_
  refine RG.start ?_
  refine S.quiet (k := 4) (keep := [4]) (m := 0) (σ' := ⟨[(4, .v (B (decide (a = b))))], []⟩) (.cons (Q_call fun w hw => c_slices_Equal___impl_Ins_impl_Ins_ w a pa (rd_of (S.arg ha) hw) b pb (rd_of (S.arg hb) hw)) .nil) (by kernel_rfl) ?_
  clear S; intro ac w β S
  refine RG.done rfl (nx_then ?_)
  refine wp_ret ?_
  refine S.ret (vs := [B (decide (a = b))]) (by kernel_rfl) ?_
  exact ⟨retB (show (decide (a = b)) = decide (a = b) by clear S; first | rfl | (simp [decide, *]; done) | (simp [decide, *]; omega) | (simp_all [decide]; done) | (simp_all [decide]; omega)), S.chg⟩

set_option maxRecDepth 100000 in
theorem c_impl_SameGuest (w0 : World) (a : TGuest) (pa : PGuest) (ha : GT.rd KK (Lt w0.heap.size) w0 a pa) (b : TGuest) (pb : PGuest) (hb : GT.rd KK (Lt w0.heap.size) w0 b pb) : Calls Go.Proofs.Try.prog 117 [GT.val (α := TGuest) a pa, GT.val (α := TGuest) b pb].toArray w0 (fun e w' => e = .returned (B (decide (a = b))) ∧ Chg NoB w0 w') := by
  refine Calls.walk (args := [GT.val (α := TGuest) a pa, GT.val (α := TGuest) b pb]) NoB Go.Proofs.Try.func117 rfl rfl ?_
  intro ac β S
  have hlea_prog : a.prog.length ≤ 4194304 := LRd.le (RGuest.prog (d := a) ha)
  have hlea_written : a.written.length ≤ 4194304 := LRd.le (RGuest.written (d := a) ha)
  have hlea_live : a.live.length ≤ 4194304 := LRd.le (RGuest.live (d := a) ha)
  have hlea_seen : a.seen.length ≤ 4194304 := LRd.le (RGuest.seen (d := a) ha)
  have hleb_prog : b.prog.length ≤ 4194304 := LRd.le (RGuest.prog (d := b) hb)
  have hleb_written : b.written.length ≤ 4194304 := LRd.le (RGuest.written (d := b) hb)
  have hleb_live : b.live.length ≤ 4194304 := LRd.le (RGuest.live (d := b) hb)
  have hleb_seen : b.seen.length ≤ 4194304 := LRd.le (RGuest.seen (d := b) hb)
  refine wp_seq ?_
  refine RG.start ?_
  refine S.quiet (k := 3) (keep := [2, 3]) (m := 2) (σ' := ⟨[(2, .p 0 0), (3, .p 1 0)], [GT.cells (α := TGuest) a pa, GT.cells (α := TGuest) b pb]⟩) .nil (by kernel_rfl) ?_
  clear S; intro ac w β S
  refine RG.done rfl (nx_then ?_)
  refine wp_seq ?_
  refine RG.start ?_
  refine S.quiet (k := 6) (keep := [2, 3, 10]) (m := 2) (σ' := ⟨[(2, .p 0 0), (3, .p 1 0), (10, .v (B (decide (a.prog = b.prog))))], [GT.cells (α := TGuest) a pa, GT.cells (α := TGuest) b pb]⟩) (.cons (Q_call fun w hw => c_impl_SameProg w a.prog pa.prog (rd_of (RGuest.prog (d := a) (S.arg ha)) hw) b.prog pb.prog (rd_of (RGuest.prog (d := b) (S.arg hb)) hw)) .nil) (by kernel_rfl) ?_
  clear S; intro ac w β S
  rcases Bool.eq_false_or_eq_true (decide (a.prog = b.prog)) with h1 | h1 <;> rw [h1] at S
  · have g2 := of_decide_eq_true h1
    refine S.quiet (k := 7) (keep := [2, 3, 17]) (m := 2) (σ' := ⟨[(2, .p 0 0), (3, .p 1 0), (17, .v (B (a.acc == b.acc)))], [GT.cells (α := TGuest) a pa, GT.cells (α := TGuest) b pb]⟩) .nil (by kernel_rfl) ?_
    clear S; intro ac w β S
    rcases Bool.eq_false_or_eq_true (a.acc == b.acc) with h3 | h3 <;> rw [h3] at S
    · have g4 : a.acc = b.acc := eq_of_beq h3
      refine S.quiet (k := 7) (keep := [2, 3, 24]) (m := 2) (σ' := ⟨[(2, .p 0 0), (3, .p 1 0), (24, .v (B (a.pc == b.pc)))], [GT.cells (α := TGuest) a pa, GT.cells (α := TGuest) b pb]⟩) .nil (by kernel_rfl) ?_
      clear S; intro ac w β S
      rcases Bool.eq_false_or_eq_true (a.pc == b.pc) with h5 | h5 <;> rw [h5] at S
      · have g6 : a.pc = b.pc := eq_of_beq h5
        refine S.quiet (k := 7) (keep := [2, 3, 31]) (m := 2) (σ' := ⟨[(2, .p 0 0), (3, .p 1 0), (31, .v (B (decide (a.written = b.written))))], [GT.cells (α := TGuest) a pa, GT.cells (α := TGuest) b pb]⟩) (.cons (Q_call fun w hw => c_impl_SameTable w a.written pa.written (rd_of (RGuest.written (d := a) (S.arg ha)) hw) b.written pb.written (rd_of (RGuest.written (d := b) (S.arg hb)) hw)) .nil) (by kernel_rfl) ?_
        clear S; intro ac w β S
        rcases Bool.eq_false_or_eq_true (decide (a.written = b.written)) with h7 | h7 <;> rw [h7] at S
        · have g8 := of_decide_eq_true h7
          refine S.quiet (k := 7) (keep := [2, 3, 38]) (m := 2) (σ' := ⟨[(2, .p 0 0), (3, .p 1 0), (38, .v (B (decide (a.live = b.live))))], [GT.cells (α := TGuest) a pa, GT.cells (α := TGuest) b pb]⟩) (.cons (Q_call fun w hw => c_impl_SameTable w a.live pa.live (rd_of (RGuest.live (d := a) (S.arg ha)) hw) b.live pb.live (rd_of (RGuest.live (d := b) (S.arg hb)) hw)) .nil) (by kernel_rfl) ?_
          clear S; intro ac w β S
          rcases Bool.eq_false_or_eq_true (decide (a.live = b.live)) with h9 | h9 <;> rw [h9] at S
          · have g10 := of_decide_eq_true h9
            refine S.quiet (k := 7) (keep := [2, 3, 45]) (m := 2) (σ' := ⟨[(2, .p 0 0), (3, .p 1 0), (45, .v (B (decide (a.ctl = b.ctl))))], [GT.cells (α := TGuest) a pa, GT.cells (α := TGuest) b pb]⟩) (.cons (Eq_eq_Ctl (t := 99) a.ctl b.ctl (by kernel_rfl)) .nil) (by kernel_rfl) ?_
            clear S; intro ac w β S
            rcases Bool.eq_false_or_eq_true (decide (a.ctl = b.ctl)) with h11 | h11 <;> rw [h11] at S
            · refine S.quiet (k := 7) (keep := [2, 3, 52]) (m := 2) (σ' := ⟨[(2, .p 0 0), (3, .p 1 0), (52, .v (B (a.pend == b.pend)))], [GT.cells (α := TGuest) a pa, GT.cells (α := TGuest) b pb]⟩) .nil (by kernel_rfl) ?_
              clear S; intro ac w β S
              rcases Bool.eq_false_or_eq_true (a.pend == b.pend) with h12 | h12 <;> rw [h12] at S
              · have g13 : a.pend = b.pend := eq_of_beq h12
                refine S.quiet (k := 7) (keep := [2, 3, 59]) (m := 2) (σ' := ⟨[(2, .p 0 0), (3, .p 1 0), (59, .v (B (decide (a.exit = b.exit))))], [GT.cells (α := TGuest) a pa, GT.cells (α := TGuest) b pb]⟩) (.cons (Eq_eq_Exit (t := 101) a.exit b.exit (by kernel_rfl)) .nil) (by kernel_rfl) ?_
                clear S; intro ac w β S
                rcases Bool.eq_false_or_eq_true (decide (a.exit = b.exit)) with h14 | h14 <;> rw [h14] at S
                · refine S.quiet (k := 7) (keep := [2, 3, 66]) (m := 2) (σ' := ⟨[(2, .p 0 0), (3, .p 1 0), (66, .v (B (a.halted == b.halted)))], [GT.cells (α := TGuest) a pa, GT.cells (α := TGuest) b pb]⟩) .nil (by kernel_rfl) ?_
                  clear S; intro ac w β S
                  rcases Bool.eq_false_or_eq_true (a.halted == b.halted) with h15 | h15 <;> rw [h15] at S
                  · have g16 : a.halted = b.halted := eq_of_beq h15
                    refine S.quiet (k := 7) (keep := [4]) (m := 0) (σ' := ⟨[(4, .v (B (decide (a.seen = b.seen))))], []⟩) (.cons (Q_call fun w hw => c_slices_Equal___int_int_ w a.seen pa.seen (rd_of (RGuest.seen (d := a) (S.arg ha)) hw) b.seen pb.seen (rd_of (RGuest.seen (d := b) (S.arg hb)) hw)) .nil) (by kernel_rfl) ?_
                    clear S; intro ac w β S
                    refine RG.done rfl (nx_then ?_)
                    refine wp_ret ?_
                    refine S.ret (vs := [B (decide (a.seen = b.seen))]) (by kernel_rfl) ?_
                    exact ⟨retB (show (decide (a.seen = b.seen)) = decide (a = b) by clear S; (first | (symm; refine decide_eq_false ?_; intro e; subst e; simp_all; done) | (symm; refine decide_eq_true ?_; rw [TGuest.ext_iff]; simp_all; done) | (rw [Bool.eq_iff_iff]; simp only [decide_eq_true_eq, TGuest.ext_iff, beq_iff_eq, Bool.and_eq_true]; simp_all; done))), S.chg⟩
                  · have g17 : ¬ (a.halted = b.halted) := ne_of_beq_false h15
                    refine S.quiet (k := 7) (keep := [4]) (m := 0) (σ' := ⟨[(4, .v (B false))], []⟩) .nil (by kernel_rfl) ?_
                    clear S; intro ac w β S
                    refine RG.done rfl (nx_then ?_)
                    refine wp_ret ?_
                    refine S.ret (vs := [B false]) (by kernel_rfl) ?_
                    exact ⟨retB (show false = decide (a = b) by clear S; (first | (symm; refine decide_eq_false ?_; intro e; subst e; simp_all; done) | (symm; refine decide_eq_true ?_; rw [TGuest.ext_iff]; simp_all; done) | (rw [Bool.eq_iff_iff]; simp only [decide_eq_true_eq, TGuest.ext_iff, beq_iff_eq, Bool.and_eq_true]; simp_all; done))), S.chg⟩
                · refine S.quiet (k := 14) (keep := [4]) (m := 0) (σ' := ⟨[(4, .v (B false))], []⟩) .nil (by kernel_rfl) ?_
                  clear S; intro ac w β S
                  refine RG.done rfl (nx_then ?_)
                  refine wp_ret ?_
                  refine S.ret (vs := [B false]) (by kernel_rfl) ?_
                  exact ⟨retB (show false = decide (a = b) by clear S; (first | (symm; refine decide_eq_false ?_; intro e; subst e; simp_all; done) | (symm; refine decide_eq_true ?_; rw [TGuest.ext_iff]; simp_all; done) | (rw [Bool.eq_iff_iff]; simp only [decide_eq_true_eq, TGuest.ext_iff, beq_iff_eq, Bool.and_eq_true]; simp_all; done))), S.chg⟩
              · have g18 : ¬ (a.pend = b.pend) := ne_of_beq_false h12
                refine S.quiet (k := 21) (keep := [4]) (m := 0) (σ' := ⟨[(4, .v (B false))], []⟩) .nil (by kernel_rfl) ?_
                clear S; intro ac w β S
                refine RG.done rfl (nx_then ?_)
                refine wp_ret ?_
                refine S.ret (vs := [B false]) (by kernel_rfl) ?_
                exact ⟨retB (show false = decide (a = b) by clear S; (first | (symm; refine decide_eq_false ?_; intro e; subst e; simp_all; done) | (symm; refine decide_eq_true ?_; rw [TGuest.ext_iff]; simp_all; done) | (rw [Bool.eq_iff_iff]; simp only [decide_eq_true_eq, TGuest.ext_iff, beq_iff_eq, Bool.and_eq_true]; simp_all; done))), S.chg⟩
            · refine S.quiet (k := 28) (keep := [4]) (m := 0) (σ' := ⟨[(4, .v (B false))], []⟩) .nil (by kernel_rfl) ?_
              clear S; intro ac w β S
              refine RG.done rfl (nx_then ?_)
              refine wp_ret ?_
              refine S.ret (vs := [B false]) (by kernel_rfl) ?_
              exact ⟨retB (show false = decide (a = b) by clear S; (first | (symm; refine decide_eq_false ?_; intro e; subst e; simp_all; done) | (symm; refine decide_eq_true ?_; rw [TGuest.ext_iff]; simp_all; done) | (rw [Bool.eq_iff_iff]; simp only [decide_eq_true_eq, TGuest.ext_iff, beq_iff_eq, Bool.and_eq_true]; simp_all; done))), S.chg⟩
          · have g19 := of_decide_eq_false h9
            refine S.quiet (k := 35) (keep := [4]) (m := 0) (σ' := ⟨[(4, .v (B false))], []⟩) .nil (by kernel_rfl) ?_
            clear S; intro ac w β S
            refine RG.done rfl (nx_then ?_)
            refine wp_ret ?_
            refine S.ret (vs := [B false]) (by kernel_rfl) ?_
            exact ⟨retB (show false = decide (a = b) by clear S; (first | (symm; refine decide_eq_false ?_; intro e; subst e; simp_all; done) | (symm; refine decide_eq_true ?_; rw [TGuest.ext_iff]; simp_all; done) | (rw [Bool.eq_iff_iff]; simp only [decide_eq_true_eq, TGuest.ext_iff, beq_iff_eq, Bool.and_eq_true]; simp_all; done))), S.chg⟩
        · have g20 := of_decide_eq_false h7
          refine S.quiet (k := 42) (keep := [4]) (m := 0) (σ' := ⟨[(4, .v (B false))], []⟩) .nil (by kernel_rfl) ?_
          clear S; intro ac w β S
          refine RG.done rfl (nx_then ?_)
          refine wp_ret ?_
          refine S.ret (vs := [B false]) (by kernel_rfl) ?_
          exact ⟨retB (show false = decide (a = b) by clear S; (first | (symm; refine decide_eq_false ?_; intro e; subst e; simp_all; done) | (symm; refine decide_eq_true ?_; rw [TGuest.ext_iff]; simp_all; done) | (rw [Bool.eq_iff_iff]; simp only [decide_eq_true_eq, TGuest.ext_iff, beq_iff_eq, Bool.and_eq_true]; simp_all; done))), S.chg⟩
      · have g21 : ¬ (a.pc = b.pc) := ne_of_beq_false h5
        refine S.quiet (k := 49) (keep := [4]) (m := 0) (σ' := ⟨[(4, .v (B false))], []⟩) .nil (by kernel_rfl) ?_
        clear S; intro ac w β S
        refine RG.done rfl (nx_then ?_)
        refine wp_ret ?_
        refine S.ret (vs := [B false]) (by kernel_rfl) ?_
        exact ⟨retB (show false = decide (a = b) by clear S; (first | (symm; refine decide_eq_false ?_; intro e; subst e; simp_all; done) | (symm; refine decide_eq_true ?_; rw [TGuest.ext_iff]; simp_all; done) | (rw [Bool.eq_iff_iff]; simp only [decide_eq_true_eq, TGuest.ext_iff, beq_iff_eq, Bool.and_eq_true]; simp_all; done))), S.chg⟩
    · have g22 : ¬ (a.acc = b.acc) := ne_of_beq_false h3
      refine S.quiet (k := 56) (keep := [4]) (m := 0) (σ' := ⟨[(4, .v (B false))], []⟩) .nil (by kernel_rfl) ?_
      clear S; intro ac w β S
      refine RG.done rfl (nx_then ?_)
      refine wp_ret ?_
      refine S.ret (vs := [B false]) (by kernel_rfl) ?_
      exact ⟨retB (show false = decide (a = b) by clear S; (first | (symm; refine decide_eq_false ?_; intro e; subst e; simp_all; done) | (symm; refine decide_eq_true ?_; rw [TGuest.ext_iff]; simp_all; done) | (rw [Bool.eq_iff_iff]; simp only [decide_eq_true_eq, TGuest.ext_iff, beq_iff_eq, Bool.and_eq_true]; simp_all; done))), S.chg⟩
  · have g23 := of_decide_eq_false h1
    refine S.quiet (k := 63) (keep := [4]) (m := 0) (σ' := ⟨[(4, .v (B false))], []⟩) .nil (by kernel_rfl) ?_
    clear S; intro ac w β S
    refine RG.done rfl (nx_then ?_)
    refine wp_ret ?_
    refine S.ret (vs := [B false]) (by kernel_rfl) ?_
    exact ⟨retB (show false = decide (a = b) by clear S; (first | (symm; refine decide_eq_false ?_; intro e; subst e; simp_all; done) | (symm; refine decide_eq_true ?_; rw [TGuest.ext_iff]; simp_all; done) | (rw [Bool.eq_iff_iff]; simp only [decide_eq_true_eq, TGuest.ext_iff, beq_iff_eq, Bool.and_eq_true]; simp_all; done))), S.chg⟩

set_option maxRecDepth 100000 in
theorem c_slices_EqualFunc___impl_Guest___impl_Guest_impl_Guest_impl_Guest_ (w0 : World) (a : List TGuest) (pa : LP TGuest) (ha : GT.rd KK (Lt w0.heap.size) w0 a pa) (b : List TGuest) (pb : LP TGuest) (hb : GT.rd KK (Lt w0.heap.size) w0 b pb) : Calls Go.Proofs.Try.prog 116 [slv (a).length pa.1, slv (b).length pb.1, (.func (.func 117) #[] #[])].toArray w0 (fun e w' => e = .returned (B (decide (a = b))) ∧ Chg NoB w0 w') := by
  refine Calls.walk (args := [slv (a).length pa.1, slv (b).length pb.1, (.func (.func 117) #[] #[])]) NoB Go.Proofs.Try.func116 rfl rfl ?_
  intro ac β S
  have hlea : a.length ≤ 4194304 := LRd.le ha
  have hleb : b.length ≤ 4194304 := LRd.le hb
  refine wp_seq ?_
  refine RG.start ?_
  refine S.quiet (k := 1) (keep := [0, 1, 2]) (m := 0) (σ' := ⟨[(0, .v (slv (a).length pa.1)), (1, .v (slv (b).length pb.1)), (2, .v ((.func (.func 117) #[] #[])))], []⟩) .nil (by kernel_rfl) ?_
  clear S; intro ac w β S
  refine RG.done rfl (nx_then ?_)
  refine wp_seq ?_
  refine wp_seq ?_
  refine RG.start ?_
  refine S.quiet (k := 5) (keep := [0, 1, 2, 14]) (m := 0) (σ' := ⟨[(0, .v (slv (a).length pa.1)), (1, .v (slv (b).length pb.1)), (2, .v ((.func (.func 117) #[] #[]))), (14, .v (B (((a).length : Int) != ((b).length : Int))))], []⟩) .nil (by kernel_rfl) ?_
  clear S; intro ac w β S
  refine RG.done rfl (nx_then ?_)
  refine S.cond (e := (((a).length : Int) != ((b).length : Int))) (by kernel_rfl) (fun h1 => ?_) (fun h1 => ?_)
  · have g2 : ¬ (((a).length : Int) = ((b).length : Int)) := bne_iff_ne.1 h1
    refine wp_seq ?_
    refine RG.start ?_
    refine S.quiet (k := 1) (keep := [6]) (m := 0) (σ' := ⟨[(6, .v (B false))], []⟩) .nil (by kernel_rfl) ?_
    clear S; intro ac w β S
    refine RG.done rfl (nx_then ?_)
    refine wp_ret (rt_then ?_)
    refine S.ret (vs := [B false]) (by kernel_rfl) ?_
    exact ⟨retB (show false = decide (a = b) by clear S; first | (simp; intro e; subst e; simp_all; done) | (simp; rw [take_all (by omega), take_all (by omega)] at he; exact he) | (simp; exact take_ne (by simp_all)) | (symm; exact decide_eq_false (take_ne (by assumption))) | (symm; exact decide_eq_true (by rw [take_all (by omega), take_all (by omega)] at he; exact he)) | (symm; refine decide_eq_false ?_; intro e; rw [e] at *; omega)), S.chg⟩
  · have g3 : ((a).length : Int) = ((b).length : Int) := ne_f h1
    refine wp_skip (nx_then ?_)
    refine wp_seq ?_
    refine wp_seq ?_
    refine RG.start ?_
    refine S.quiet (k := 3) (keep := [1, 2, 15, 16, 17]) (m := 0) (σ' := ⟨[(1, .v (slv (b).length pb.1)), (2, .v ((.func (.func 117) #[] #[]))), (15, .v (slv (a).length pa.1)), (16, .v (I ((a).length : Int))), (17, .v (I 0))], []⟩) .nil (by kernel_rfl) ?_
    clear S; intro ac w β S
    refine RG.done rfl (nx_then ?_)
    refine wp_block ?_
    replace S := S.prune (keep := [1, 2, 15, 16, 17]) (m := 0) (σ' := ⟨[(1, .v (slv (b).length pb.1)), (2, .v ((.func (.func 117) #[] #[]))), (15, .v (slv (a).length pa.1)), (16, .v (I ((a).length : Int))), (17, .v (I 0))], []⟩) (by kernel_rfl)
    refine wp_loop_down (fun mm ac w => ∃ (k : Nat)  (u : World) (N : Bl) (β : Nat → Nat), mm = a.length - k ∧ (k ≤ a.length) ∧ (a.length = b.length) ∧ (a.take k = b.take k) ∧ St Go.Proofs.Try.prog Go.Proofs.Try.f116.ntmps w0 NoB u N β ⟨[(1, .v (slv (b).length pb.1)), (2, .v ((.func (.func 117) #[] #[]))), (15, .v (slv (a).length pa.1)), (16, .v (I ((a).length : Int))), (17, .v (I (k : Int)))], []⟩ ac w) _ ⟨0, _, _, _, rfl, (by first | omega | (simp; done) | (simp; omega)), (by first | omega | (simp; done) | (simp; omega)), (by simp), S.cast (by kernel_rfl)⟩ ?_
    clear S
    rintro mm ac w ⟨k, u, N, β, rfl, hk, hab, he, S⟩
    refine wp_seq ?_
    refine RG.start ?_
    refine S.quiet (k := 1) (keep := [1, 2, 15, 16, 17, 18]) (m := 0) (σ' := ⟨[(1, .v (slv (b).length pb.1)), (2, .v ((.func (.func 117) #[] #[]))), (15, .v (slv (a).length pa.1)), (16, .v (I ((a).length : Int))), (17, .v (I (k : Int))), (18, .v (B (decide ((k : Int) < ((a).length : Int)))))], []⟩) .nil (by kernel_rfl) ?_
    clear S; intro ac w β S
    refine RG.done rfl (nx_then ?_)
    refine wp_seq ?_
    refine S.cond (e := (decide ((k : Int) < ((a).length : Int)))) (by kernel_rfl) (fun h4 => ?_) (fun h4 => ?_)
    · have g5 : (k : Int) < ((a).length : Int) := of_decide_eq_true h4
      refine wp_skip (nx_then ?_)
      refine wp_seq ?_
      refine wp_block ?_
      refine wp_seq ?_
      refine RG.start ?_
      refine S.quiet (k := 6) (keep := [1, 2, 7, 8, 15, 16, 17]) (m := 1) (σ' := ⟨[(1, .v (slv (b).length pb.1)), (2, .v ((.func (.func 117) #[] #[]))), (7, .v (I (k : Int))), (8, .p 0 0), (15, .v (slv (a).length pa.1)), (16, .v (I ((a).length : Int))), (17, .v (I (k : Int)))], [GT.cells (α := TGuest) (el a k) (pa.2 k)]⟩) (.cons (Q_idx (S.arg ha) (l := (a).length) (k := k) (i := (k : Int)) rfl rfl (by omega) Go.Proofs.Try.underlying47 (by kernel_rfl)) (.cons (Q_el (S.arg ha) (t := 103) (k := k) (by omega) rfl (by kernel_rfl) (by kernel_rfl)) .nil)) (by kernel_rfl) ?_
      clear S; intro ac w β S
      refine RG.done rfl (nx_then ?_)
      refine wp_seq ?_
      refine RG.start ?_
      refine S.quiet (k := 6) (keep := [1, 2, 8, 9, 15, 16, 17]) (m := 2) (σ' := ⟨[(1, .v (slv (b).length pb.1)), (2, .v ((.func (.func 117) #[] #[]))), (8, .p 0 0), (9, .p 1 0), (15, .v (slv (a).length pa.1)), (16, .v (I ((a).length : Int))), (17, .v (I (k : Int)))], [GT.cells (α := TGuest) (el a k) (pa.2 k), GT.cells (α := TGuest) (el b k) (pb.2 k)]⟩) (.cons (Q_idx (S.arg hb) (l := (b).length) (k := k) (i := (k : Int)) rfl rfl (by omega) Go.Proofs.Try.underlying47 (by kernel_rfl)) (.cons (Q_el (S.arg hb) (t := 103) (k := k) (by omega) rfl (by kernel_rfl) (by kernel_rfl)) .nil)) (by kernel_rfl) ?_
      clear S; intro ac w β S
      refine RG.done rfl (nx_then ?_)
      refine wp_seq ?_
      refine RG.start ?_
      refine S.quiet (k := 5) (keep := [1, 2, 15, 16, 17, 30]) (m := 0) (σ' := ⟨[(1, .v (slv (b).length pb.1)), (2, .v ((.func (.func 117) #[] #[]))), (15, .v (slv (a).length pa.1)), (16, .v (I ((a).length : Int))), (17, .v (I (k : Int))), (30, .v (B (!(decide ((el a k) = (el b k))))))], []⟩) (.cons (Q_call fun w hw => c_impl_SameGuest w (el a k) (pa.2 k) (rd_of (LRd.el (S.arg ha) k (by omega)) hw) (el b k) (pb.2 k) (rd_of (LRd.el (S.arg hb) k (by omega)) hw)) .nil) (by kernel_rfl) ?_
      clear S; intro ac w β S
      refine RG.done rfl (nx_then ?_)
      refine S.cond (e := (!(decide ((el a k) = (el b k))))) (by kernel_rfl) (fun h6 => ?_) (fun h6 => ?_)
      · have h7 : (decide ((el a k) = (el b k))) = false := not_t h6
        have g8 := of_decide_eq_false h7
        refine wp_seq ?_
        refine RG.start ?_
        refine S.quiet (k := 1) (keep := [6]) (m := 0) (σ' := ⟨[(6, .v (B false))], []⟩) .nil (by kernel_rfl) ?_
        clear S; intro ac w β S
        refine RG.done rfl (nx_then ?_)
        refine wp_ret (rt_block (rt_then (rt_then (rt_block (rt_then ?_)))))
        refine S.ret (vs := [B false]) (by kernel_rfl) ?_
        exact ⟨retB (show false = decide (a = b) by clear S; first | (simp; intro e; subst e; simp_all; done) | (simp; rw [take_all (by omega), take_all (by omega)] at he; exact he) | (simp; exact take_ne (by simp_all)) | (symm; exact decide_eq_false (take_ne (by assumption))) | (symm; exact decide_eq_true (by rw [take_all (by omega), take_all (by omega)] at he; exact he)) | (symm; refine decide_eq_false ?_; intro e; rw [e] at *; omega)), S.chg⟩
      · have h9 : (decide ((el a k) = (el b k))) = true := not_f h6
        have g10 := of_decide_eq_true h9
        refine wp_skip (nx_block (nx_then ?_))
        refine RG.start ?_
        refine S.quiet (k := 2) (keep := [1, 2, 15, 16, 17]) (m := 0) (σ' := ⟨[(1, .v (slv (b).length pb.1)), (2, .v ((.func (.func 117) #[] #[]))), (15, .v (slv (a).length pa.1)), (16, .v (I ((a).length : Int))), (17, .v (I ((k : Int) + 1)))], []⟩) (.cons (Q_add (x := (k : Int)) (y := 1) ⟨by omega, by omega⟩) .nil) (by kernel_rfl) ?_
        clear S; intro ac w β S
        refine RG.done rfl (nx_then ?_)
        replace S := S.prune (keep := [1, 2, 15, 16, 17]) (m := 0) (σ' := ⟨[(1, .v (slv (b).length pb.1)), (2, .v ((.func (.func 117) #[] #[]))), (15, .v (slv (a).length pa.1)), (16, .v (I ((a).length : Int))), (17, .v (I ((k : Int) + 1)))], []⟩) (by kernel_rfl)
        refine ⟨a.length - (k + 1), by omega, k + 1, _, _, _, rfl, ?_, ?_, ?_, S.cast (by kernel_rfl)⟩
        · clear S; first | omega | (simp [*]; done) | (simp [*]; omega)
        · clear S; first | omega | (simp [*]; done) | (simp [*]; omega)
        · clear S; exact take_eq_step (by omega) (by omega) he (by simp_all)
    · have g11 : ¬ ((k : Int) < ((a).length : Int)) := of_decide_eq_false h4
      refine wp_exit (ex_then (ex_then (ex_hit (nx_then ?_))))
      refine wp_seq ?_
      refine RG.start ?_
      refine S.quiet (k := 1) (keep := [6]) (m := 0) (σ' := ⟨[(6, .v (B true))], []⟩) .nil (by kernel_rfl) ?_
      clear S; intro ac w β S
      refine RG.done rfl (nx_then ?_)
      refine wp_ret ?_
      refine S.ret (vs := [B true]) (by kernel_rfl) ?_
      exact ⟨retB (show true = decide (a = b) by clear S; first | (simp; intro e; subst e; simp_all; done) | (simp; rw [take_all (by omega), take_all (by omega)] at he; exact he) | (simp; exact take_ne (by simp_all)) | (symm; exact decide_eq_false (take_ne (by assumption))) | (symm; exact decide_eq_true (by rw [take_all (by omega), take_all (by omega)] at he; exact he)) | (symm; refine decide_eq_false ?_; intro e; rw [e] at *; omega)), S.chg⟩

set_option maxRecDepth 100000 in
theorem c_impl_sameKept (w0 : World) (a : TKept) (pa : PKept) (ha : GT.rd KK (Lt w0.heap.size) w0 a pa) (b : TKept) (pb : PKept) (hb : GT.rd KK (Lt w0.heap.size) w0 b pb) : Calls Go.Proofs.Try.prog 119 [GT.val (α := TKept) a pa, GT.val (α := TKept) b pb].toArray w0 (fun e w' => e = .returned (B (decide (a = b))) ∧ Chg NoB w0 w') := by
  refine Calls.walk (args := [GT.val (α := TKept) a pa, GT.val (α := TKept) b pb]) NoB Go.Proofs.Try.func119 rfl rfl ?_
  intro ac β S
  have hlea_known : a.known.length ≤ 4194304 := LRd.le (RKept.known (d := a) ha)
  have hlea_slots : a.slots.length ≤ 4194304 := LRd.le (RKept.slots (d := a) ha)
  have hleb_known : b.known.length ≤ 4194304 := LRd.le (RKept.known (d := b) hb)
  have hleb_slots : b.slots.length ≤ 4194304 := LRd.le (RKept.slots (d := b) hb)
  refine wp_seq ?_
  refine RG.start ?_
  refine S.quiet (k := 3) (keep := [2, 3]) (m := 2) (σ' := ⟨[(2, .p 0 0), (3, .p 1 0)], [GT.cells (α := TKept) a pa, GT.cells (α := TKept) b pb]⟩) .nil (by kernel_rfl) ?_
  clear S; intro ac w β S
  refine RG.done rfl (nx_then ?_)
  refine wp_seq ?_
  refine RG.start ?_
  refine S.quiet (k := 6) (keep := [2, 3, 10]) (m := 2) (σ' := ⟨[(2, .p 0 0), (3, .p 1 0), (10, .v (B (decide (a.known = b.known))))], [GT.cells (α := TKept) a pa, GT.cells (α := TKept) b pb]⟩) (.cons (Q_call fun w hw => c_slices_Equal___bool_bool_ w a.known pa.known (rd_of (RKept.known (d := a) (S.arg ha)) hw) b.known pb.known (rd_of (RKept.known (d := b) (S.arg hb)) hw)) .nil) (by kernel_rfl) ?_
  clear S; intro ac w β S
  rcases Bool.eq_false_or_eq_true (decide (a.known = b.known)) with h1 | h1 <;> rw [h1] at S
  · have g2 := of_decide_eq_true h1
    refine S.quiet (k := 7) (keep := [4]) (m := 0) (σ' := ⟨[(4, .v (B (decide (a.slots = b.slots))))], []⟩) (.cons (Q_call fun w hw => c_impl_SameTable w a.slots pa.slots (rd_of (RKept.slots (d := a) (S.arg ha)) hw) b.slots pb.slots (rd_of (RKept.slots (d := b) (S.arg hb)) hw)) .nil) (by kernel_rfl) ?_
    clear S; intro ac w β S
    refine RG.done rfl (nx_then ?_)
    refine wp_ret ?_
    refine S.ret (vs := [B (decide (a.slots = b.slots))]) (by kernel_rfl) ?_
    exact ⟨retB (show (decide (a.slots = b.slots)) = decide (a = b) by clear S; (first | (symm; refine decide_eq_false ?_; intro e; subst e; simp_all; done) | (symm; refine decide_eq_true ?_; rw [TKept.ext_iff]; simp_all; done) | (rw [Bool.eq_iff_iff]; simp only [decide_eq_true_eq, TKept.ext_iff, beq_iff_eq, Bool.and_eq_true]; simp_all; done))), S.chg⟩
  · have g3 := of_decide_eq_false h1
    refine S.quiet (k := 7) (keep := [4]) (m := 0) (σ' := ⟨[(4, .v (B false))], []⟩) .nil (by kernel_rfl) ?_
    clear S; intro ac w β S
    refine RG.done rfl (nx_then ?_)
    refine wp_ret ?_
    refine S.ret (vs := [B false]) (by kernel_rfl) ?_
    exact ⟨retB (show false = decide (a = b) by clear S; (first | (symm; refine decide_eq_false ?_; intro e; subst e; simp_all; done) | (symm; refine decide_eq_true ?_; rw [TKept.ext_iff]; simp_all; done) | (rw [Bool.eq_iff_iff]; simp only [decide_eq_true_eq, TKept.ext_iff, beq_iff_eq, Bool.and_eq_true]; simp_all; done))), S.chg⟩

set_option maxRecDepth 100000 in
theorem c_slices_EqualFunc___impl_Kept___impl_Kept_impl_Kept_impl_Kept_ (w0 : World) (a : List TKept) (pa : LP TKept) (ha : GT.rd KK (Lt w0.heap.size) w0 a pa) (b : List TKept) (pb : LP TKept) (hb : GT.rd KK (Lt w0.heap.size) w0 b pb) : Calls Go.Proofs.Try.prog 118 [slv (a).length pa.1, slv (b).length pb.1, (.func (.func 119) #[] #[])].toArray w0 (fun e w' => e = .returned (B (decide (a = b))) ∧ Chg NoB w0 w') := by
  refine Calls.walk (args := [slv (a).length pa.1, slv (b).length pb.1, (.func (.func 119) #[] #[])]) NoB Go.Proofs.Try.func118 rfl rfl ?_
  intro ac β S
  have hlea : a.length ≤ 4194304 := LRd.le ha
  have hleb : b.length ≤ 4194304 := LRd.le hb
  refine wp_seq ?_
  refine RG.start ?_
  refine S.quiet (k := 1) (keep := [0, 1, 2]) (m := 0) (σ' := ⟨[(0, .v (slv (a).length pa.1)), (1, .v (slv (b).length pb.1)), (2, .v ((.func (.func 119) #[] #[])))], []⟩) .nil (by kernel_rfl) ?_
  clear S; intro ac w β S
  refine RG.done rfl (nx_then ?_)
  refine wp_seq ?_
  refine wp_seq ?_
  refine RG.start ?_
  refine S.quiet (k := 5) (keep := [0, 1, 2, 14]) (m := 0) (σ' := ⟨[(0, .v (slv (a).length pa.1)), (1, .v (slv (b).length pb.1)), (2, .v ((.func (.func 119) #[] #[]))), (14, .v (B (((a).length : Int) != ((b).length : Int))))], []⟩) .nil (by kernel_rfl) ?_
  clear S; intro ac w β S
  refine RG.done rfl (nx_then ?_)
  refine S.cond (e := (((a).length : Int) != ((b).length : Int))) (by kernel_rfl) (fun h1 => ?_) (fun h1 => ?_)
  · have g2 : ¬ (((a).length : Int) = ((b).length : Int)) := bne_iff_ne.1 h1
    refine wp_seq ?_
    refine RG.start ?_
    refine S.quiet (k := 1) (keep := [6]) (m := 0) (σ' := ⟨[(6, .v (B false))], []⟩) .nil (by kernel_rfl) ?_
    clear S; intro ac w β S
    refine RG.done rfl (nx_then ?_)
    refine wp_ret (rt_then ?_)
    refine S.ret (vs := [B false]) (by kernel_rfl) ?_
    exact ⟨retB (show false = decide (a = b) by clear S; first | (simp; intro e; subst e; simp_all; done) | (simp; rw [take_all (by omega), take_all (by omega)] at he; exact he) | (simp; exact take_ne (by simp_all)) | (symm; exact decide_eq_false (take_ne (by assumption))) | (symm; exact decide_eq_true (by rw [take_all (by omega), take_all (by omega)] at he; exact he)) | (symm; refine decide_eq_false ?_; intro e; rw [e] at *; omega)), S.chg⟩
  · have g3 : ((a).length : Int) = ((b).length : Int) := ne_f h1
    refine wp_skip (nx_then ?_)
    refine wp_seq ?_
    refine wp_seq ?_
    refine RG.start ?_
    refine S.quiet (k := 3) (keep := [1, 2, 15, 16, 17]) (m := 0) (σ' := ⟨[(1, .v (slv (b).length pb.1)), (2, .v ((.func (.func 119) #[] #[]))), (15, .v (slv (a).length pa.1)), (16, .v (I ((a).length : Int))), (17, .v (I 0))], []⟩) .nil (by kernel_rfl) ?_
    clear S; intro ac w β S
    refine RG.done rfl (nx_then ?_)
    refine wp_block ?_
    replace S := S.prune (keep := [1, 2, 15, 16, 17]) (m := 0) (σ' := ⟨[(1, .v (slv (b).length pb.1)), (2, .v ((.func (.func 119) #[] #[]))), (15, .v (slv (a).length pa.1)), (16, .v (I ((a).length : Int))), (17, .v (I 0))], []⟩) (by kernel_rfl)
    refine wp_loop_down (fun mm ac w => ∃ (k : Nat)  (u : World) (N : Bl) (β : Nat → Nat), mm = a.length - k ∧ (k ≤ a.length) ∧ (a.length = b.length) ∧ (a.take k = b.take k) ∧ St Go.Proofs.Try.prog Go.Proofs.Try.f118.ntmps w0 NoB u N β ⟨[(1, .v (slv (b).length pb.1)), (2, .v ((.func (.func 119) #[] #[]))), (15, .v (slv (a).length pa.1)), (16, .v (I ((a).length : Int))), (17, .v (I (k : Int)))], []⟩ ac w) _ ⟨0, _, _, _, rfl, (by first | omega | (simp; done) | (simp; omega)), (by first | omega | (simp; done) | (simp; omega)), (by simp), S.cast (by kernel_rfl)⟩ ?_
    clear S
    rintro mm ac w ⟨k, u, N, β, rfl, hk, hab, he, S⟩
    refine wp_seq ?_
    refine RG.start ?_
    refine S.quiet (k := 1) (keep := [1, 2, 15, 16, 17, 18]) (m := 0) (σ' := ⟨[(1, .v (slv (b).length pb.1)), (2, .v ((.func (.func 119) #[] #[]))), (15, .v (slv (a).length pa.1)), (16, .v (I ((a).length : Int))), (17, .v (I (k : Int))), (18, .v (B (decide ((k : Int) < ((a).length : Int)))))], []⟩) .nil (by kernel_rfl) ?_
    clear S; intro ac w β S
    refine RG.done rfl (nx_then ?_)
    refine wp_seq ?_
    refine S.cond (e := (decide ((k : Int) < ((a).length : Int)))) (by kernel_rfl) (fun h4 => ?_) (fun h4 => ?_)
    · have g5 : (k : Int) < ((a).length : Int) := of_decide_eq_true h4
      refine wp_skip (nx_then ?_)
      refine wp_seq ?_
      refine wp_block ?_
      refine wp_seq ?_
      refine RG.start ?_
      refine S.quiet (k := 6) (keep := [1, 2, 7, 8, 15, 16, 17]) (m := 1) (σ' := ⟨[(1, .v (slv (b).length pb.1)), (2, .v ((.func (.func 119) #[] #[]))), (7, .v (I (k : Int))), (8, .p 0 0), (15, .v (slv (a).length pa.1)), (16, .v (I ((a).length : Int))), (17, .v (I (k : Int)))], [GT.cells (α := TKept) (el a k) (pa.2 k)]⟩) (.cons (Q_idx (S.arg ha) (l := (a).length) (k := k) (i := (k : Int)) rfl rfl (by omega) Go.Proofs.Try.underlying48 (by kernel_rfl)) (.cons (Q_el (S.arg ha) (t := 106) (k := k) (by omega) rfl (by kernel_rfl) (by kernel_rfl)) .nil)) (by kernel_rfl) ?_
      clear S; intro ac w β S
      refine RG.done rfl (nx_then ?_)
      refine wp_seq ?_
      refine RG.start ?_
      refine S.quiet (k := 6) (keep := [1, 2, 8, 9, 15, 16, 17]) (m := 2) (σ' := ⟨[(1, .v (slv (b).length pb.1)), (2, .v ((.func (.func 119) #[] #[]))), (8, .p 0 0), (9, .p 1 0), (15, .v (slv (a).length pa.1)), (16, .v (I ((a).length : Int))), (17, .v (I (k : Int)))], [GT.cells (α := TKept) (el a k) (pa.2 k), GT.cells (α := TKept) (el b k) (pb.2 k)]⟩) (.cons (Q_idx (S.arg hb) (l := (b).length) (k := k) (i := (k : Int)) rfl rfl (by omega) Go.Proofs.Try.underlying48 (by kernel_rfl)) (.cons (Q_el (S.arg hb) (t := 106) (k := k) (by omega) rfl (by kernel_rfl) (by kernel_rfl)) .nil)) (by kernel_rfl) ?_
      clear S; intro ac w β S
      refine RG.done rfl (nx_then ?_)
      refine wp_seq ?_
      refine RG.start ?_
      refine S.quiet (k := 5) (keep := [1, 2, 15, 16, 17, 30]) (m := 0) (σ' := ⟨[(1, .v (slv (b).length pb.1)), (2, .v ((.func (.func 119) #[] #[]))), (15, .v (slv (a).length pa.1)), (16, .v (I ((a).length : Int))), (17, .v (I (k : Int))), (30, .v (B (!(decide ((el a k) = (el b k))))))], []⟩) (.cons (Q_call fun w hw => c_impl_sameKept w (el a k) (pa.2 k) (rd_of (LRd.el (S.arg ha) k (by omega)) hw) (el b k) (pb.2 k) (rd_of (LRd.el (S.arg hb) k (by omega)) hw)) .nil) (by kernel_rfl) ?_
      clear S; intro ac w β S
      refine RG.done rfl (nx_then ?_)
      refine S.cond (e := (!(decide ((el a k) = (el b k))))) (by kernel_rfl) (fun h6 => ?_) (fun h6 => ?_)
      · have h7 : (decide ((el a k) = (el b k))) = false := not_t h6
        have g8 := of_decide_eq_false h7
        refine wp_seq ?_
        refine RG.start ?_
        refine S.quiet (k := 1) (keep := [6]) (m := 0) (σ' := ⟨[(6, .v (B false))], []⟩) .nil (by kernel_rfl) ?_
        clear S; intro ac w β S
        refine RG.done rfl (nx_then ?_)
        refine wp_ret (rt_block (rt_then (rt_then (rt_block (rt_then ?_)))))
        refine S.ret (vs := [B false]) (by kernel_rfl) ?_
        exact ⟨retB (show false = decide (a = b) by clear S; first | (simp; intro e; subst e; simp_all; done) | (simp; rw [take_all (by omega), take_all (by omega)] at he; exact he) | (simp; exact take_ne (by simp_all)) | (symm; exact decide_eq_false (take_ne (by assumption))) | (symm; exact decide_eq_true (by rw [take_all (by omega), take_all (by omega)] at he; exact he)) | (symm; refine decide_eq_false ?_; intro e; rw [e] at *; omega)), S.chg⟩
      · have h9 : (decide ((el a k) = (el b k))) = true := not_f h6
        have g10 := of_decide_eq_true h9
        refine wp_skip (nx_block (nx_then ?_))
        refine RG.start ?_
        refine S.quiet (k := 2) (keep := [1, 2, 15, 16, 17]) (m := 0) (σ' := ⟨[(1, .v (slv (b).length pb.1)), (2, .v ((.func (.func 119) #[] #[]))), (15, .v (slv (a).length pa.1)), (16, .v (I ((a).length : Int))), (17, .v (I ((k : Int) + 1)))], []⟩) (.cons (Q_add (x := (k : Int)) (y := 1) ⟨by omega, by omega⟩) .nil) (by kernel_rfl) ?_
        clear S; intro ac w β S
        refine RG.done rfl (nx_then ?_)
        replace S := S.prune (keep := [1, 2, 15, 16, 17]) (m := 0) (σ' := ⟨[(1, .v (slv (b).length pb.1)), (2, .v ((.func (.func 119) #[] #[]))), (15, .v (slv (a).length pa.1)), (16, .v (I ((a).length : Int))), (17, .v (I ((k : Int) + 1)))], []⟩) (by kernel_rfl)
        refine ⟨a.length - (k + 1), by omega, k + 1, _, _, _, rfl, ?_, ?_, ?_, S.cast (by kernel_rfl)⟩
        · clear S; first | omega | (simp [*]; done) | (simp [*]; omega)
        · clear S; first | omega | (simp [*]; done) | (simp [*]; omega)
        · clear S; exact take_eq_step (by omega) (by omega) he (by simp_all)
    · have g11 : ¬ ((k : Int) < ((a).length : Int)) := of_decide_eq_false h4
      refine wp_exit (ex_then (ex_then (ex_hit (nx_then ?_))))
      refine wp_seq ?_
      refine RG.start ?_
      refine S.quiet (k := 1) (keep := [6]) (m := 0) (σ' := ⟨[(6, .v (B true))], []⟩) .nil (by kernel_rfl) ?_
      clear S; intro ac w β S
      refine RG.done rfl (nx_then ?_)
      refine wp_ret ?_
      refine S.ret (vs := [B true]) (by kernel_rfl) ?_
      exact ⟨retB (show true = decide (a = b) by clear S; first | (simp; intro e; subst e; simp_all; done) | (simp; rw [take_all (by omega), take_all (by omega)] at he; exact he) | (simp; exact take_ne (by simp_all)) | (symm; exact decide_eq_false (take_ne (by assumption))) | (symm; exact decide_eq_true (by rw [take_all (by omega), take_all (by omega)] at he; exact he)) | (symm; refine decide_eq_false ?_; intro e; rw [e] at *; omega)), S.chg⟩

set_option maxRecDepth 100000 in
theorem c_impl_sameMon (w0 : World) (a : TMon) (pa : PMon) (ha : GT.rd KK (Lt w0.heap.size) w0 a pa) (b : TMon) (pb : PMon) (hb : GT.rd KK (Lt w0.heap.size) w0 b pb) : Calls Go.Proofs.Try.prog 51 [GT.val (α := TMon) a pa, GT.val (α := TMon) b pb].toArray w0 (fun e w' => e = .returned (B (decide (a = b))) ∧ Chg NoB w0 w') := by
  refine Calls.walk (args := [GT.val (α := TMon) a pa, GT.val (α := TMon) b pb]) NoB Go.Proofs.Try.func51 rfl rfl ?_
  intro ac β S
  have hlea_outer : a.outer.length ≤ 4194304 := LRd.le (RMon.outer (d := a) ha)
  have hlea_out : a.out.length ≤ 4194304 := LRd.le (RMon.out (d := a) ha)
  have hlea_dirty : a.dirty.length ≤ 4194304 := LRd.le (RMon.dirty (d := a) ha)
  have hlea_guests : a.guests.length ≤ 4194304 := LRd.le (RMon.guests (d := a) ha)
  have hlea_outs : a.outs.length ≤ 4194304 := LRd.le (RMon.outs (d := a) ha)
  have hlea_tables : a.tables.length ≤ 4194304 := LRd.le (RMon.tables (d := a) ha)
  have hleb_outer : b.outer.length ≤ 4194304 := LRd.le (RMon.outer (d := b) hb)
  have hleb_out : b.out.length ≤ 4194304 := LRd.le (RMon.out (d := b) hb)
  have hleb_dirty : b.dirty.length ≤ 4194304 := LRd.le (RMon.dirty (d := b) hb)
  have hleb_guests : b.guests.length ≤ 4194304 := LRd.le (RMon.guests (d := b) hb)
  have hleb_outs : b.outs.length ≤ 4194304 := LRd.le (RMon.outs (d := b) hb)
  have hleb_tables : b.tables.length ≤ 4194304 := LRd.le (RMon.tables (d := b) hb)
  refine wp_seq ?_
  refine RG.start ?_
  refine S.quiet (k := 3) (keep := [2, 3]) (m := 2) (σ' := ⟨[(2, .p 0 0), (3, .p 1 0)], [GT.cells (α := TMon) a pa, GT.cells (α := TMon) b pb]⟩) .nil (by kernel_rfl) ?_
  clear S; intro ac w β S
  refine RG.done rfl (nx_then ?_)
  refine wp_seq ?_
  refine RG.start ?_
  refine S.quiet (k := 6) (keep := [2, 3, 10]) (m := 2) (σ' := ⟨[(2, .p 0 0), (3, .p 1 0), (10, .v (B (decide (a.outer = b.outer))))], [GT.cells (α := TMon) a pa, GT.cells (α := TMon) b pb]⟩) (.cons (Q_call fun w hw => c_impl_SameTable w a.outer pa.outer (rd_of (RMon.outer (d := a) (S.arg ha)) hw) b.outer pb.outer (rd_of (RMon.outer (d := b) (S.arg hb)) hw)) .nil) (by kernel_rfl) ?_
  clear S; intro ac w β S
  rcases Bool.eq_false_or_eq_true (decide (a.outer = b.outer)) with h1 | h1 <;> rw [h1] at S
  · have g2 := of_decide_eq_true h1
    refine S.quiet (k := 7) (keep := [2, 3, 17]) (m := 2) (σ' := ⟨[(2, .p 0 0), (3, .p 1 0), (17, .v (B (decide (a.out = b.out))))], [GT.cells (α := TMon) a pa, GT.cells (α := TMon) b pb]⟩) (.cons (Q_call fun w hw => c_impl_SameMem w a.out pa.out (rd_of (RMon.out (d := a) (S.arg ha)) hw) b.out pb.out (rd_of (RMon.out (d := b) (S.arg hb)) hw)) .nil) (by kernel_rfl) ?_
    clear S; intro ac w β S
    rcases Bool.eq_false_or_eq_true (decide (a.out = b.out)) with h3 | h3 <;> rw [h3] at S
    · have g4 := of_decide_eq_true h3
      refine S.quiet (k := 7) (keep := [2, 3, 24]) (m := 2) (σ' := ⟨[(2, .p 0 0), (3, .p 1 0), (24, .v (B (decide (a.dirty = b.dirty))))], [GT.cells (α := TMon) a pa, GT.cells (α := TMon) b pb]⟩) (.cons (Q_call fun w hw => c_slices_Equal___bool_bool_ w a.dirty pa.dirty (rd_of (RMon.dirty (d := a) (S.arg ha)) hw) b.dirty pb.dirty (rd_of (RMon.dirty (d := b) (S.arg hb)) hw)) .nil) (by kernel_rfl) ?_
      clear S; intro ac w β S
      rcases Bool.eq_false_or_eq_true (decide (a.dirty = b.dirty)) with h5 | h5 <;> rw [h5] at S
      · have g6 := of_decide_eq_true h5
        refine S.quiet (k := 7) (keep := [2, 3, 31]) (m := 2) (σ' := ⟨[(2, .p 0 0), (3, .p 1 0), (31, .v (B (decide (a.guests = b.guests))))], [GT.cells (α := TMon) a pa, GT.cells (α := TMon) b pb]⟩) (.cons (Q_call fun w hw => c_slices_EqualFunc___impl_Guest___impl_Guest_impl_Guest_impl_Guest_ w a.guests pa.guests (rd_of (RMon.guests (d := a) (S.arg ha)) hw) b.guests pb.guests (rd_of (RMon.guests (d := b) (S.arg hb)) hw)) .nil) (by kernel_rfl) ?_
        clear S; intro ac w β S
        rcases Bool.eq_false_or_eq_true (decide (a.guests = b.guests)) with h7 | h7 <;> rw [h7] at S
        · have g8 := of_decide_eq_true h7
          refine S.quiet (k := 7) (keep := [2, 3, 38]) (m := 2) (σ' := ⟨[(2, .p 0 0), (3, .p 1 0), (38, .v (B (decide (a.outs = b.outs))))], [GT.cells (α := TMon) a pa, GT.cells (α := TMon) b pb]⟩) (.cons (Q_call fun w hw => c_slices_Equal___int_int_ w a.outs pa.outs (rd_of (RMon.outs (d := a) (S.arg ha)) hw) b.outs pb.outs (rd_of (RMon.outs (d := b) (S.arg hb)) hw)) .nil) (by kernel_rfl) ?_
          clear S; intro ac w β S
          rcases Bool.eq_false_or_eq_true (decide (a.outs = b.outs)) with h9 | h9 <;> rw [h9] at S
          · have g10 := of_decide_eq_true h9
            refine S.quiet (k := 7) (keep := [2, 3, 45]) (m := 2) (σ' := ⟨[(2, .p 0 0), (3, .p 1 0), (45, .v (B (a.pend == b.pend)))], [GT.cells (α := TMon) a pa, GT.cells (α := TMon) b pb]⟩) .nil (by kernel_rfl) ?_
            clear S; intro ac w β S
            rcases Bool.eq_false_or_eq_true (a.pend == b.pend) with h11 | h11 <;> rw [h11] at S
            · have g12 : a.pend = b.pend := eq_of_beq h11
              refine S.quiet (k := 7) (keep := [2, 3, 52]) (m := 2) (σ' := ⟨[(2, .p 0 0), (3, .p 1 0), (52, .v (B (a.traps == b.traps)))], [GT.cells (α := TMon) a pa, GT.cells (α := TMon) b pb]⟩) .nil (by kernel_rfl) ?_
              clear S; intro ac w β S
              rcases Bool.eq_false_or_eq_true (a.traps == b.traps) with h13 | h13 <;> rw [h13] at S
              · have g14 : a.traps = b.traps := eq_of_beq h13
                refine S.quiet (k := 7) (keep := [2, 3, 59]) (m := 2) (σ' := ⟨[(2, .p 0 0), (3, .p 1 0), (59, .v (B (decide (a.tables = b.tables))))], [GT.cells (α := TMon) a pa, GT.cells (α := TMon) b pb]⟩) (.cons (Q_call fun w hw => c_slices_EqualFunc___impl_Kept___impl_Kept_impl_Kept_impl_Kept_ w a.tables pa.tables (rd_of (RMon.tables (d := a) (S.arg ha)) hw) b.tables pb.tables (rd_of (RMon.tables (d := b) (S.arg hb)) hw)) .nil) (by kernel_rfl) ?_
                clear S; intro ac w β S
                rcases Bool.eq_false_or_eq_true (decide (a.tables = b.tables)) with h15 | h15 <;> rw [h15] at S
                · have g16 := of_decide_eq_true h15
                  refine S.quiet (k := 7) (keep := [4]) (m := 0) (σ' := ⟨[(4, .v (B (a.owned == b.owned)))], []⟩) .nil (by kernel_rfl) ?_
                  clear S; intro ac w β S
                  refine RG.done rfl (nx_then ?_)
                  refine wp_ret ?_
                  refine S.ret (vs := [B (a.owned == b.owned)]) (by kernel_rfl) ?_
                  exact ⟨retB (show (a.owned == b.owned) = decide (a = b) by clear S; (first | (symm; refine decide_eq_false ?_; intro e; subst e; simp_all; done) | (symm; refine decide_eq_true ?_; rw [TMon.ext_iff]; simp_all; done) | (rw [Bool.eq_iff_iff]; simp only [decide_eq_true_eq, TMon.ext_iff, beq_iff_eq, Bool.and_eq_true]; simp_all; done))), S.chg⟩
                · have g17 := of_decide_eq_false h15
                  refine S.quiet (k := 7) (keep := [4]) (m := 0) (σ' := ⟨[(4, .v (B false))], []⟩) .nil (by kernel_rfl) ?_
                  clear S; intro ac w β S
                  refine RG.done rfl (nx_then ?_)
                  refine wp_ret ?_
                  refine S.ret (vs := [B false]) (by kernel_rfl) ?_
                  exact ⟨retB (show false = decide (a = b) by clear S; (first | (symm; refine decide_eq_false ?_; intro e; subst e; simp_all; done) | (symm; refine decide_eq_true ?_; rw [TMon.ext_iff]; simp_all; done) | (rw [Bool.eq_iff_iff]; simp only [decide_eq_true_eq, TMon.ext_iff, beq_iff_eq, Bool.and_eq_true]; simp_all; done))), S.chg⟩
              · have g18 : ¬ (a.traps = b.traps) := ne_of_beq_false h13
                refine S.quiet (k := 14) (keep := [4]) (m := 0) (σ' := ⟨[(4, .v (B false))], []⟩) .nil (by kernel_rfl) ?_
                clear S; intro ac w β S
                refine RG.done rfl (nx_then ?_)
                refine wp_ret ?_
                refine S.ret (vs := [B false]) (by kernel_rfl) ?_
                exact ⟨retB (show false = decide (a = b) by clear S; (first | (symm; refine decide_eq_false ?_; intro e; subst e; simp_all; done) | (symm; refine decide_eq_true ?_; rw [TMon.ext_iff]; simp_all; done) | (rw [Bool.eq_iff_iff]; simp only [decide_eq_true_eq, TMon.ext_iff, beq_iff_eq, Bool.and_eq_true]; simp_all; done))), S.chg⟩
            · have g19 : ¬ (a.pend = b.pend) := ne_of_beq_false h11
              refine S.quiet (k := 21) (keep := [4]) (m := 0) (σ' := ⟨[(4, .v (B false))], []⟩) .nil (by kernel_rfl) ?_
              clear S; intro ac w β S
              refine RG.done rfl (nx_then ?_)
              refine wp_ret ?_
              refine S.ret (vs := [B false]) (by kernel_rfl) ?_
              exact ⟨retB (show false = decide (a = b) by clear S; (first | (symm; refine decide_eq_false ?_; intro e; subst e; simp_all; done) | (symm; refine decide_eq_true ?_; rw [TMon.ext_iff]; simp_all; done) | (rw [Bool.eq_iff_iff]; simp only [decide_eq_true_eq, TMon.ext_iff, beq_iff_eq, Bool.and_eq_true]; simp_all; done))), S.chg⟩
          · have g20 := of_decide_eq_false h9
            refine S.quiet (k := 28) (keep := [4]) (m := 0) (σ' := ⟨[(4, .v (B false))], []⟩) .nil (by kernel_rfl) ?_
            clear S; intro ac w β S
            refine RG.done rfl (nx_then ?_)
            refine wp_ret ?_
            refine S.ret (vs := [B false]) (by kernel_rfl) ?_
            exact ⟨retB (show false = decide (a = b) by clear S; (first | (symm; refine decide_eq_false ?_; intro e; subst e; simp_all; done) | (symm; refine decide_eq_true ?_; rw [TMon.ext_iff]; simp_all; done) | (rw [Bool.eq_iff_iff]; simp only [decide_eq_true_eq, TMon.ext_iff, beq_iff_eq, Bool.and_eq_true]; simp_all; done))), S.chg⟩
        · have g21 := of_decide_eq_false h7
          refine S.quiet (k := 35) (keep := [4]) (m := 0) (σ' := ⟨[(4, .v (B false))], []⟩) .nil (by kernel_rfl) ?_
          clear S; intro ac w β S
          refine RG.done rfl (nx_then ?_)
          refine wp_ret ?_
          refine S.ret (vs := [B false]) (by kernel_rfl) ?_
          exact ⟨retB (show false = decide (a = b) by clear S; (first | (symm; refine decide_eq_false ?_; intro e; subst e; simp_all; done) | (symm; refine decide_eq_true ?_; rw [TMon.ext_iff]; simp_all; done) | (rw [Bool.eq_iff_iff]; simp only [decide_eq_true_eq, TMon.ext_iff, beq_iff_eq, Bool.and_eq_true]; simp_all; done))), S.chg⟩
      · have g22 := of_decide_eq_false h5
        refine S.quiet (k := 42) (keep := [4]) (m := 0) (σ' := ⟨[(4, .v (B false))], []⟩) .nil (by kernel_rfl) ?_
        clear S; intro ac w β S
        refine RG.done rfl (nx_then ?_)
        refine wp_ret ?_
        refine S.ret (vs := [B false]) (by kernel_rfl) ?_
        exact ⟨retB (show false = decide (a = b) by clear S; (first | (symm; refine decide_eq_false ?_; intro e; subst e; simp_all; done) | (symm; refine decide_eq_true ?_; rw [TMon.ext_iff]; simp_all; done) | (rw [Bool.eq_iff_iff]; simp only [decide_eq_true_eq, TMon.ext_iff, beq_iff_eq, Bool.and_eq_true]; simp_all; done))), S.chg⟩
    · have g23 := of_decide_eq_false h3
      refine S.quiet (k := 49) (keep := [4]) (m := 0) (σ' := ⟨[(4, .v (B false))], []⟩) .nil (by kernel_rfl) ?_
      clear S; intro ac w β S
      refine RG.done rfl (nx_then ?_)
      refine wp_ret ?_
      refine S.ret (vs := [B false]) (by kernel_rfl) ?_
      exact ⟨retB (show false = decide (a = b) by clear S; (first | (symm; refine decide_eq_false ?_; intro e; subst e; simp_all; done) | (symm; refine decide_eq_true ?_; rw [TMon.ext_iff]; simp_all; done) | (rw [Bool.eq_iff_iff]; simp only [decide_eq_true_eq, TMon.ext_iff, beq_iff_eq, Bool.and_eq_true]; simp_all; done))), S.chg⟩
  · have g24 := of_decide_eq_false h1
    refine S.quiet (k := 56) (keep := [4]) (m := 0) (σ' := ⟨[(4, .v (B false))], []⟩) .nil (by kernel_rfl) ?_
    clear S; intro ac w β S
    refine RG.done rfl (nx_then ?_)
    refine wp_ret ?_
    refine S.ret (vs := [B false]) (by kernel_rfl) ?_
    exact ⟨retB (show false = decide (a = b) by clear S; (first | (symm; refine decide_eq_false ?_; intro e; subst e; simp_all; done) | (symm; refine decide_eq_true ?_; rw [TMon.ext_iff]; simp_all; done) | (rw [Bool.eq_iff_iff]; simp only [decide_eq_true_eq, TMon.ext_iff, beq_iff_eq, Bool.and_eq_true]; simp_all; done))), S.chg⟩

set_option maxRecDepth 100000 in
theorem c_slices_EqualFunc___impl_Mon___impl_Mon_impl_Mon_impl_Mon_ (w0 : World) (a : List TMon) (pa : LP TMon) (ha : GT.rd KK (Lt w0.heap.size) w0 a pa) (b : List TMon) (pb : LP TMon) (hb : GT.rd KK (Lt w0.heap.size) w0 b pb) : Calls Go.Proofs.Try.prog 50 [slv (a).length pa.1, slv (b).length pb.1, (.func (.func 51) #[] #[])].toArray w0 (fun e w' => e = .returned (B (decide (a = b))) ∧ Chg NoB w0 w') := by
  refine Calls.walk (args := [slv (a).length pa.1, slv (b).length pb.1, (.func (.func 51) #[] #[])]) NoB Go.Proofs.Try.func50 rfl rfl ?_
  intro ac β S
  have hlea : a.length ≤ 4194304 := LRd.le ha
  have hleb : b.length ≤ 4194304 := LRd.le hb
  refine wp_seq ?_
  refine RG.start ?_
  refine S.quiet (k := 1) (keep := [0, 1, 2]) (m := 0) (σ' := ⟨[(0, .v (slv (a).length pa.1)), (1, .v (slv (b).length pb.1)), (2, .v ((.func (.func 51) #[] #[])))], []⟩) .nil (by kernel_rfl) ?_
  clear S; intro ac w β S
  refine RG.done rfl (nx_then ?_)
  refine wp_seq ?_
  refine wp_seq ?_
  refine RG.start ?_
  refine S.quiet (k := 5) (keep := [0, 1, 2, 14]) (m := 0) (σ' := ⟨[(0, .v (slv (a).length pa.1)), (1, .v (slv (b).length pb.1)), (2, .v ((.func (.func 51) #[] #[]))), (14, .v (B (((a).length : Int) != ((b).length : Int))))], []⟩) .nil (by kernel_rfl) ?_
  clear S; intro ac w β S
  refine RG.done rfl (nx_then ?_)
  refine S.cond (e := (((a).length : Int) != ((b).length : Int))) (by kernel_rfl) (fun h1 => ?_) (fun h1 => ?_)
  · have g2 : ¬ (((a).length : Int) = ((b).length : Int)) := bne_iff_ne.1 h1
    refine wp_seq ?_
    refine RG.start ?_
    refine S.quiet (k := 1) (keep := [6]) (m := 0) (σ' := ⟨[(6, .v (B false))], []⟩) .nil (by kernel_rfl) ?_
    clear S; intro ac w β S
    refine RG.done rfl (nx_then ?_)
    refine wp_ret (rt_then ?_)
    refine S.ret (vs := [B false]) (by kernel_rfl) ?_
    exact ⟨retB (show false = decide (a = b) by clear S; first | (simp; intro e; subst e; simp_all; done) | (simp; rw [take_all (by omega), take_all (by omega)] at he; exact he) | (simp; exact take_ne (by simp_all)) | (symm; exact decide_eq_false (take_ne (by assumption))) | (symm; exact decide_eq_true (by rw [take_all (by omega), take_all (by omega)] at he; exact he)) | (symm; refine decide_eq_false ?_; intro e; rw [e] at *; omega)), S.chg⟩
  · have g3 : ((a).length : Int) = ((b).length : Int) := ne_f h1
    refine wp_skip (nx_then ?_)
    refine wp_seq ?_
    refine wp_seq ?_
    refine RG.start ?_
    refine S.quiet (k := 3) (keep := [1, 2, 15, 16, 17]) (m := 0) (σ' := ⟨[(1, .v (slv (b).length pb.1)), (2, .v ((.func (.func 51) #[] #[]))), (15, .v (slv (a).length pa.1)), (16, .v (I ((a).length : Int))), (17, .v (I 0))], []⟩) .nil (by kernel_rfl) ?_
    clear S; intro ac w β S
    refine RG.done rfl (nx_then ?_)
    refine wp_block ?_
    replace S := S.prune (keep := [1, 2, 15, 16, 17]) (m := 0) (σ' := ⟨[(1, .v (slv (b).length pb.1)), (2, .v ((.func (.func 51) #[] #[]))), (15, .v (slv (a).length pa.1)), (16, .v (I ((a).length : Int))), (17, .v (I 0))], []⟩) (by kernel_rfl)
    refine wp_loop_down (fun mm ac w => ∃ (k : Nat)  (u : World) (N : Bl) (β : Nat → Nat), mm = a.length - k ∧ (k ≤ a.length) ∧ (a.length = b.length) ∧ (a.take k = b.take k) ∧ St Go.Proofs.Try.prog Go.Proofs.Try.f50.ntmps w0 NoB u N β ⟨[(1, .v (slv (b).length pb.1)), (2, .v ((.func (.func 51) #[] #[]))), (15, .v (slv (a).length pa.1)), (16, .v (I ((a).length : Int))), (17, .v (I (k : Int)))], []⟩ ac w) _ ⟨0, _, _, _, rfl, (by first | omega | (simp; done) | (simp; omega)), (by first | omega | (simp; done) | (simp; omega)), (by simp), S.cast (by kernel_rfl)⟩ ?_
    clear S
    rintro mm ac w ⟨k, u, N, β, rfl, hk, hab, he, S⟩
    refine wp_seq ?_
    refine RG.start ?_
    refine S.quiet (k := 1) (keep := [1, 2, 15, 16, 17, 18]) (m := 0) (σ' := ⟨[(1, .v (slv (b).length pb.1)), (2, .v ((.func (.func 51) #[] #[]))), (15, .v (slv (a).length pa.1)), (16, .v (I ((a).length : Int))), (17, .v (I (k : Int))), (18, .v (B (decide ((k : Int) < ((a).length : Int)))))], []⟩) .nil (by kernel_rfl) ?_
    clear S; intro ac w β S
    refine RG.done rfl (nx_then ?_)
    refine wp_seq ?_
    refine S.cond (e := (decide ((k : Int) < ((a).length : Int)))) (by kernel_rfl) (fun h4 => ?_) (fun h4 => ?_)
    · have g5 : (k : Int) < ((a).length : Int) := of_decide_eq_true h4
      refine wp_skip (nx_then ?_)
      refine wp_seq ?_
      refine wp_block ?_
      refine wp_seq ?_
      refine RG.start ?_
      refine S.quiet (k := 6) (keep := [1, 2, 7, 8, 15, 16, 17]) (m := 1) (σ' := ⟨[(1, .v (slv (b).length pb.1)), (2, .v ((.func (.func 51) #[] #[]))), (7, .v (I (k : Int))), (8, .p 0 0), (15, .v (slv (a).length pa.1)), (16, .v (I ((a).length : Int))), (17, .v (I (k : Int)))], [GT.cells (α := TMon) (el a k) (pa.2 k)]⟩) (.cons (Q_idx (S.arg ha) (l := (a).length) (k := k) (i := (k : Int)) rfl rfl (by omega) Go.Proofs.Try.underlying29 (by kernel_rfl)) (.cons (Q_el (S.arg ha) (t := 50) (k := k) (by omega) rfl (by kernel_rfl) (by kernel_rfl)) .nil)) (by kernel_rfl) ?_
      clear S; intro ac w β S
      refine RG.done rfl (nx_then ?_)
      refine wp_seq ?_
      refine RG.start ?_
      refine S.quiet (k := 6) (keep := [1, 2, 8, 9, 15, 16, 17]) (m := 2) (σ' := ⟨[(1, .v (slv (b).length pb.1)), (2, .v ((.func (.func 51) #[] #[]))), (8, .p 0 0), (9, .p 1 0), (15, .v (slv (a).length pa.1)), (16, .v (I ((a).length : Int))), (17, .v (I (k : Int)))], [GT.cells (α := TMon) (el a k) (pa.2 k), GT.cells (α := TMon) (el b k) (pb.2 k)]⟩) (.cons (Q_idx (S.arg hb) (l := (b).length) (k := k) (i := (k : Int)) rfl rfl (by omega) Go.Proofs.Try.underlying29 (by kernel_rfl)) (.cons (Q_el (S.arg hb) (t := 50) (k := k) (by omega) rfl (by kernel_rfl) (by kernel_rfl)) .nil)) (by kernel_rfl) ?_
      clear S; intro ac w β S
      refine RG.done rfl (nx_then ?_)
      refine wp_seq ?_
      refine RG.start ?_
      refine S.quiet (k := 5) (keep := [1, 2, 15, 16, 17, 30]) (m := 0) (σ' := ⟨[(1, .v (slv (b).length pb.1)), (2, .v ((.func (.func 51) #[] #[]))), (15, .v (slv (a).length pa.1)), (16, .v (I ((a).length : Int))), (17, .v (I (k : Int))), (30, .v (B (!(decide ((el a k) = (el b k))))))], []⟩) (.cons (Q_call fun w hw => c_impl_sameMon w (el a k) (pa.2 k) (rd_of (LRd.el (S.arg ha) k (by omega)) hw) (el b k) (pb.2 k) (rd_of (LRd.el (S.arg hb) k (by omega)) hw)) .nil) (by kernel_rfl) ?_
      clear S; intro ac w β S
      refine RG.done rfl (nx_then ?_)
      refine S.cond (e := (!(decide ((el a k) = (el b k))))) (by kernel_rfl) (fun h6 => ?_) (fun h6 => ?_)
      · have h7 : (decide ((el a k) = (el b k))) = false := not_t h6
        have g8 := of_decide_eq_false h7
        refine wp_seq ?_
        refine RG.start ?_
        refine S.quiet (k := 1) (keep := [6]) (m := 0) (σ' := ⟨[(6, .v (B false))], []⟩) .nil (by kernel_rfl) ?_
        clear S; intro ac w β S
        refine RG.done rfl (nx_then ?_)
        refine wp_ret (rt_block (rt_then (rt_then (rt_block (rt_then ?_)))))
        refine S.ret (vs := [B false]) (by kernel_rfl) ?_
        exact ⟨retB (show false = decide (a = b) by clear S; first | (simp; intro e; subst e; simp_all; done) | (simp; rw [take_all (by omega), take_all (by omega)] at he; exact he) | (simp; exact take_ne (by simp_all)) | (symm; exact decide_eq_false (take_ne (by assumption))) | (symm; exact decide_eq_true (by rw [take_all (by omega), take_all (by omega)] at he; exact he)) | (symm; refine decide_eq_false ?_; intro e; rw [e] at *; omega)), S.chg⟩
      · have h9 : (decide ((el a k) = (el b k))) = true := not_f h6
        have g10 := of_decide_eq_true h9
        refine wp_skip (nx_block (nx_then ?_))
        refine RG.start ?_
        refine S.quiet (k := 2) (keep := [1, 2, 15, 16, 17]) (m := 0) (σ' := ⟨[(1, .v (slv (b).length pb.1)), (2, .v ((.func (.func 51) #[] #[]))), (15, .v (slv (a).length pa.1)), (16, .v (I ((a).length : Int))), (17, .v (I ((k : Int) + 1)))], []⟩) (.cons (Q_add (x := (k : Int)) (y := 1) ⟨by omega, by omega⟩) .nil) (by kernel_rfl) ?_
        clear S; intro ac w β S
        refine RG.done rfl (nx_then ?_)
        replace S := S.prune (keep := [1, 2, 15, 16, 17]) (m := 0) (σ' := ⟨[(1, .v (slv (b).length pb.1)), (2, .v ((.func (.func 51) #[] #[]))), (15, .v (slv (a).length pa.1)), (16, .v (I ((a).length : Int))), (17, .v (I ((k : Int) + 1)))], []⟩) (by kernel_rfl)
        refine ⟨a.length - (k + 1), by omega, k + 1, _, _, _, rfl, ?_, ?_, ?_, S.cast (by kernel_rfl)⟩
        · clear S; first | omega | (simp [*]; done) | (simp [*]; omega)
        · clear S; first | omega | (simp [*]; done) | (simp [*]; omega)
        · clear S; exact take_eq_step (by omega) (by omega) he (by simp_all)
    · have g11 : ¬ ((k : Int) < ((a).length : Int)) := of_decide_eq_false h4
      refine wp_exit (ex_then (ex_then (ex_hit (nx_then ?_))))
      refine wp_seq ?_
      refine RG.start ?_
      refine S.quiet (k := 1) (keep := [6]) (m := 0) (σ' := ⟨[(6, .v (B true))], []⟩) .nil (by kernel_rfl) ?_
      clear S; intro ac w β S
      refine RG.done rfl (nx_then ?_)
      refine wp_ret ?_
      refine S.ret (vs := [B true]) (by kernel_rfl) ?_
      exact ⟨retB (show true = decide (a = b) by clear S; first | (simp; intro e; subst e; simp_all; done) | (simp; rw [take_all (by omega), take_all (by omega)] at he; exact he) | (simp; exact take_ne (by simp_all)) | (symm; exact decide_eq_false (take_ne (by assumption))) | (symm; exact decide_eq_true (by rw [take_all (by omega), take_all (by omega)] at he; exact he)) | (symm; refine decide_eq_false ?_; intro e; rw [e] at *; omega)), S.chg⟩

set_option maxRecDepth 100000 in
theorem c_slices_Equal___impl_Entry_impl_Entry_ (w0 : World) (a : List TEntry) (pa : LP TEntry) (ha : GT.rd KK (Lt w0.heap.size) w0 a pa) (b : List TEntry) (pb : LP TEntry) (hb : GT.rd KK (Lt w0.heap.size) w0 b pb) : Calls Go.Proofs.Try.prog 52 [slv (a).length pa.1, slv (b).length pb.1].toArray w0 (fun e w' => e = .returned (B (decide (a = b))) ∧ Chg NoB w0 w') := by
  refine Calls.walk (args := [slv (a).length pa.1, slv (b).length pb.1]) NoB Go.Proofs.Try.func52 rfl rfl ?_
  intro ac β S
  have hlea : a.length ≤ 4194304 := LRd.le ha
  have hleb : b.length ≤ 4194304 := LRd.le hb
  refine wp_seq ?_
  refine RG.start ?_
  refine S.quiet (k := 1) (keep := [0, 1]) (m := 0) (σ' := ⟨[(0, .v (slv (a).length pa.1)), (1, .v (slv (b).length pb.1))], []⟩) .nil (by kernel_rfl) ?_
  clear S; intro ac w β S
  refine RG.done rfl (nx_then ?_)
  refine wp_seq ?_
  refine wp_seq ?_
  refine RG.start ?_
  refine S.quiet (k := 5) (keep := [0, 1, 10]) (m := 0) (σ' := ⟨[(0, .v (slv (a).length pa.1)), (1, .v (slv (b).length pb.1)), (10, .v (B (((a).length : Int) != ((b).length : Int))))], []⟩) .nil (by kernel_rfl) ?_
  clear S; intro ac w β S
  refine RG.done rfl (nx_then ?_)
  refine S.cond (e := (((a).length : Int) != ((b).length : Int))) (by kernel_rfl) (fun h1 => ?_) (fun h1 => ?_)
  · have g2 : ¬ (((a).length : Int) = ((b).length : Int)) := bne_iff_ne.1 h1
    refine wp_seq ?_
    refine RG.start ?_
    refine S.quiet (k := 1) (keep := [4]) (m := 0) (σ' := ⟨[(4, .v (B false))], []⟩) .nil (by kernel_rfl) ?_
    clear S; intro ac w β S
    refine RG.done rfl (nx_then ?_)
    refine wp_ret (rt_then ?_)
    refine S.ret (vs := [B false]) (by kernel_rfl) ?_
    exact ⟨retB (show false = decide (a = b) by clear S; first | (simp; intro e; subst e; simp_all; done) | (simp; rw [take_all (by omega), take_all (by omega)] at he; exact he) | (simp; exact take_ne (by simp_all)) | (symm; exact decide_eq_false (take_ne (by assumption))) | (symm; exact decide_eq_true (by rw [take_all (by omega), take_all (by omega)] at he; exact he)) | (symm; refine decide_eq_false ?_; intro e; rw [e] at *; omega)), S.chg⟩
  · have g3 : ((a).length : Int) = ((b).length : Int) := ne_f h1
    refine wp_skip (nx_then ?_)
    refine wp_seq ?_
    refine wp_seq ?_
    refine RG.start ?_
    refine S.quiet (k := 3) (keep := [0, 1, 12, 13]) (m := 0) (σ' := ⟨[(0, .v (slv (a).length pa.1)), (1, .v (slv (b).length pb.1)), (12, .v (I ((a).length : Int))), (13, .v (I 0))], []⟩) .nil (by kernel_rfl) ?_
    clear S; intro ac w β S
    refine RG.done rfl (nx_then ?_)
    refine wp_block ?_
    replace S := S.prune (keep := [0, 1, 12, 13]) (m := 0) (σ' := ⟨[(0, .v (slv (a).length pa.1)), (1, .v (slv (b).length pb.1)), (12, .v (I ((a).length : Int))), (13, .v (I 0))], []⟩) (by kernel_rfl)
    refine wp_loop_down (fun mm ac w => ∃ (k : Nat)  (u : World) (N : Bl) (β : Nat → Nat), mm = a.length - k ∧ (k ≤ a.length) ∧ (a.length = b.length) ∧ (a.take k = b.take k) ∧ St Go.Proofs.Try.prog Go.Proofs.Try.f52.ntmps w0 NoB u N β ⟨[(0, .v (slv (a).length pa.1)), (1, .v (slv (b).length pb.1)), (12, .v (I ((a).length : Int))), (13, .v (I (k : Int)))], []⟩ ac w) _ ⟨0, _, _, _, rfl, (by first | omega | (simp; done) | (simp; omega)), (by first | omega | (simp; done) | (simp; omega)), (by simp), S.cast (by kernel_rfl)⟩ ?_
    clear S
    rintro mm ac w ⟨k, u, N, β, rfl, hk, hab, he, S⟩
    refine wp_seq ?_
    refine RG.start ?_
    refine S.quiet (k := 1) (keep := [0, 1, 12, 13, 14]) (m := 0) (σ' := ⟨[(0, .v (slv (a).length pa.1)), (1, .v (slv (b).length pb.1)), (12, .v (I ((a).length : Int))), (13, .v (I (k : Int))), (14, .v (B (decide ((k : Int) < ((a).length : Int)))))], []⟩) .nil (by kernel_rfl) ?_
    clear S; intro ac w β S
    refine RG.done rfl (nx_then ?_)
    refine wp_seq ?_
    refine S.cond (e := (decide ((k : Int) < ((a).length : Int)))) (by kernel_rfl) (fun h4 => ?_) (fun h4 => ?_)
    · have g5 : (k : Int) < ((a).length : Int) := of_decide_eq_true h4
      refine wp_skip (nx_then ?_)
      refine wp_seq ?_
      refine wp_block ?_
      refine wp_seq ?_
      refine RG.start ?_
      refine S.quiet (k := 2) (keep := [0, 1, 5, 12, 13]) (m := 0) (σ' := ⟨[(0, .v (slv (a).length pa.1)), (1, .v (slv (b).length pb.1)), (5, .v (I (k : Int))), (12, .v (I ((a).length : Int))), (13, .v (I (k : Int)))], []⟩) .nil (by kernel_rfl) ?_
      clear S; intro ac w β S
      refine RG.done rfl (nx_then ?_)
      refine wp_seq ?_
      refine S.drawn (keep := [0, 1, 12, 13, 24]) (m := 0) (σ' := ⟨[(0, .v (slv (a).length pa.1)), (1, .v (slv (b).length pb.1)), (12, .v (I ((a).length : Int))), (13, .v (I (k : Int))), (24, .v (B (!decide ((el a k) = (el b k)))))], []⟩) (.cons (Q_idx (S.arg ha) (l := (a).length) (k := k) (i := (k : Int)) rfl rfl (by omega) Go.Proofs.Try.underlying30 (by kernel_rfl)) (.cons (Q_el (S.arg ha) (t := 80) (k := k) (by omega) rfl (by kernel_rfl) (by kernel_rfl)) (.cons (Q_idx (S.arg hb) (l := (b).length) (k := k) (i := (k : Int)) rfl rfl (by omega) Go.Proofs.Try.underlying30 (by kernel_rfl)) (.cons (Q_el (S.arg hb) (t := 80) (k := k) (by omega) rfl (by kernel_rfl) (by kernel_rfl)) (.cons (Eq_ne_Entry (t := 80) (el a k) (el b k) (by kernel_rfl)) .nil))))) rfl (by kernel_rfl) (by kernel_rfl) ?_
      clear S; intro ac w S
      refine id (nx_then ?_)
      refine S.cond (e := (!decide ((el a k) = (el b k)))) (by kernel_rfl) (fun h6 => ?_) (fun h6 => ?_)
      · refine wp_seq ?_
        refine RG.start ?_
        refine S.quiet (k := 1) (keep := [4]) (m := 0) (σ' := ⟨[(4, .v (B false))], []⟩) .nil (by kernel_rfl) ?_
        clear S; intro ac w β S
        refine RG.done rfl (nx_then ?_)
        refine wp_ret (rt_block (rt_then (rt_then (rt_block (rt_then ?_)))))
        refine S.ret (vs := [B false]) (by kernel_rfl) ?_
        exact ⟨retB (show false = decide (a = b) by clear S; first | (simp; intro e; subst e; simp_all; done) | (simp; rw [take_all (by omega), take_all (by omega)] at he; exact he) | (simp; exact take_ne (by simp_all)) | (symm; exact decide_eq_false (take_ne (by assumption))) | (symm; exact decide_eq_true (by rw [take_all (by omega), take_all (by omega)] at he; exact he)) | (symm; refine decide_eq_false ?_; intro e; rw [e] at *; omega)), S.chg⟩
      · refine wp_skip (nx_block (nx_then ?_))
        refine RG.start ?_
        refine S.quiet (k := 2) (keep := [0, 1, 12, 13]) (m := 0) (σ' := ⟨[(0, .v (slv (a).length pa.1)), (1, .v (slv (b).length pb.1)), (12, .v (I ((a).length : Int))), (13, .v (I ((k : Int) + 1)))], []⟩) (.cons (Q_add (x := (k : Int)) (y := 1) ⟨by omega, by omega⟩) .nil) (by kernel_rfl) ?_
        clear S; intro ac w β S
        refine RG.done rfl (nx_then ?_)
        replace S := S.prune (keep := [0, 1, 12, 13]) (m := 0) (σ' := ⟨[(0, .v (slv (a).length pa.1)), (1, .v (slv (b).length pb.1)), (12, .v (I ((a).length : Int))), (13, .v (I ((k : Int) + 1)))], []⟩) (by kernel_rfl)
        refine ⟨a.length - (k + 1), by omega, k + 1, _, _, _, rfl, ?_, ?_, ?_, S.cast (by kernel_rfl)⟩
        · clear S; first | omega | (simp [*]; done) | (simp [*]; omega)
        · clear S; first | omega | (simp [*]; done) | (simp [*]; omega)
        · clear S; exact take_eq_step (by omega) (by omega) he (by simp_all)
    · have g7 : ¬ ((k : Int) < ((a).length : Int)) := of_decide_eq_false h4
      refine wp_exit (ex_then (ex_then (ex_hit (nx_then ?_))))
      refine wp_seq ?_
      refine RG.start ?_
      refine S.quiet (k := 1) (keep := [4]) (m := 0) (σ' := ⟨[(4, .v (B true))], []⟩) .nil (by kernel_rfl) ?_
      clear S; intro ac w β S
      refine RG.done rfl (nx_then ?_)
      refine wp_ret ?_
      refine S.ret (vs := [B true]) (by kernel_rfl) ?_
      exact ⟨retB (show true = decide (a = b) by clear S; first | (simp; intro e; subst e; simp_all; done) | (simp; rw [take_all (by omega), take_all (by omega)] at he; exact he) | (simp; exact take_ne (by simp_all)) | (symm; exact decide_eq_false (take_ne (by assumption))) | (symm; exact decide_eq_true (by rw [take_all (by omega), take_all (by omega)] at he; exact he)) | (symm; refine decide_eq_false ?_; intro e; rw [e] at *; omega)), S.chg⟩

set_option maxRecDepth 100000 in
theorem c_impl_SameHost (w0 : World) (a : THost) (pa : PHost) (ha : GT.rd KK (Lt w0.heap.size) w0 a pa) (b : THost) (pb : PHost) (hb : GT.rd KK (Lt w0.heap.size) w0 b pb) : Calls Go.Proofs.Try.prog 12 [GT.val (α := THost) a pa, GT.val (α := THost) b pb].toArray w0 (fun e w' => e = .returned (B (decide (a = b))) ∧ Chg NoB w0 w') := by
  refine Calls.walk (args := [GT.val (α := THost) a pa, GT.val (α := THost) b pb]) NoB Go.Proofs.Try.func12 rfl rfl ?_
  intro ac β S
  have hlea_mem : a.mem.length ≤ 4194304 := LRd.le (RHost.mem (d := a) ha)
  have hlea_mons : a.mons.length ≤ 4194304 := LRd.le (RHost.mons (d := a) ha)
  have hlea_buf : a.buf.length ≤ 4194304 := LRd.le (RHost.buf (d := a) ha)
  have hlea_iobuf : a.iobuf.length ≤ 4194304 := LRd.le (RHost.iobuf (d := a) ha)
  have hleb_mem : b.mem.length ≤ 4194304 := LRd.le (RHost.mem (d := b) hb)
  have hleb_mons : b.mons.length ≤ 4194304 := LRd.le (RHost.mons (d := b) hb)
  have hleb_buf : b.buf.length ≤ 4194304 := LRd.le (RHost.buf (d := b) hb)
  have hleb_iobuf : b.iobuf.length ≤ 4194304 := LRd.le (RHost.iobuf (d := b) hb)
  refine wp_seq ?_
  refine RG.start ?_
  refine S.quiet (k := 3) (keep := [2, 3]) (m := 2) (σ' := ⟨[(2, .p 0 0), (3, .p 1 0)], [GT.cells (α := THost) a pa, GT.cells (α := THost) b pb]⟩) .nil (by kernel_rfl) ?_
  clear S; intro ac w β S
  refine RG.done rfl (nx_then ?_)
  refine wp_seq ?_
  refine RG.start ?_
  refine S.quiet (k := 6) (keep := [2, 3, 10]) (m := 2) (σ' := ⟨[(2, .p 0 0), (3, .p 1 0), (10, .v (B (decide (a.mem = b.mem))))], [GT.cells (α := THost) a pa, GT.cells (α := THost) b pb]⟩) (.cons (Q_call fun w hw => c_impl_SameMem w a.mem pa.mem (rd_of (RHost.mem (d := a) (S.arg ha)) hw) b.mem pb.mem (rd_of (RHost.mem (d := b) (S.arg hb)) hw)) .nil) (by kernel_rfl) ?_
  clear S; intro ac w β S
  rcases Bool.eq_false_or_eq_true (decide (a.mem = b.mem)) with h1 | h1 <;> rw [h1] at S
  · have g2 := of_decide_eq_true h1
    refine S.quiet (k := 7) (keep := [2, 3, 17]) (m := 2) (σ' := ⟨[(2, .p 0 0), (3, .p 1 0), (17, .v (B (decide (a.mons = b.mons))))], [GT.cells (α := THost) a pa, GT.cells (α := THost) b pb]⟩) (.cons (Q_call fun w hw => c_slices_EqualFunc___impl_Mon___impl_Mon_impl_Mon_impl_Mon_ w a.mons pa.mons (rd_of (RHost.mons (d := a) (S.arg ha)) hw) b.mons pb.mons (rd_of (RHost.mons (d := b) (S.arg hb)) hw)) .nil) (by kernel_rfl) ?_
    clear S; intro ac w β S
    rcases Bool.eq_false_or_eq_true (decide (a.mons = b.mons)) with h3 | h3 <;> rw [h3] at S
    · have g4 := of_decide_eq_true h3
      refine S.quiet (k := 7) (keep := [2, 3, 24]) (m := 2) (σ' := ⟨[(2, .p 0 0), (3, .p 1 0), (24, .v (B (decide (a.buf = b.buf))))], [GT.cells (α := THost) a pa, GT.cells (α := THost) b pb]⟩) (.cons (Q_call fun w hw => c_slices_Equal___impl_Entry_impl_Entry_ w a.buf pa.buf (rd_of (RHost.buf (d := a) (S.arg ha)) hw) b.buf pb.buf (rd_of (RHost.buf (d := b) (S.arg hb)) hw)) .nil) (by kernel_rfl) ?_
      clear S; intro ac w β S
      rcases Bool.eq_false_or_eq_true (decide (a.buf = b.buf)) with h5 | h5 <;> rw [h5] at S
      · have g6 := of_decide_eq_true h5
        refine S.quiet (k := 7) (keep := [4]) (m := 0) (σ' := ⟨[(4, .v (B (decide (a.iobuf = b.iobuf))))], []⟩) (.cons (Q_call fun w hw => c_slices_Equal___impl_Entry_impl_Entry_ w a.iobuf pa.iobuf (rd_of (RHost.iobuf (d := a) (S.arg ha)) hw) b.iobuf pb.iobuf (rd_of (RHost.iobuf (d := b) (S.arg hb)) hw)) .nil) (by kernel_rfl) ?_
        clear S; intro ac w β S
        refine RG.done rfl (nx_then ?_)
        refine wp_ret ?_
        refine S.ret (vs := [B (decide (a.iobuf = b.iobuf))]) (by kernel_rfl) ?_
        exact ⟨retB (show (decide (a.iobuf = b.iobuf)) = decide (a = b) by clear S; (first | (symm; refine decide_eq_false ?_; intro e; subst e; simp_all; done) | (symm; refine decide_eq_true ?_; rw [THost.ext_iff]; simp_all; done) | (rw [Bool.eq_iff_iff]; simp only [decide_eq_true_eq, THost.ext_iff, beq_iff_eq, Bool.and_eq_true]; simp_all; done))), S.chg⟩
      · have g7 := of_decide_eq_false h5
        refine S.quiet (k := 7) (keep := [4]) (m := 0) (σ' := ⟨[(4, .v (B false))], []⟩) .nil (by kernel_rfl) ?_
        clear S; intro ac w β S
        refine RG.done rfl (nx_then ?_)
        refine wp_ret ?_
        refine S.ret (vs := [B false]) (by kernel_rfl) ?_
        exact ⟨retB (show false = decide (a = b) by clear S; (first | (symm; refine decide_eq_false ?_; intro e; subst e; simp_all; done) | (symm; refine decide_eq_true ?_; rw [THost.ext_iff]; simp_all; done) | (rw [Bool.eq_iff_iff]; simp only [decide_eq_true_eq, THost.ext_iff, beq_iff_eq, Bool.and_eq_true]; simp_all; done))), S.chg⟩
    · have g8 := of_decide_eq_false h3
      refine S.quiet (k := 14) (keep := [4]) (m := 0) (σ' := ⟨[(4, .v (B false))], []⟩) .nil (by kernel_rfl) ?_
      clear S; intro ac w β S
      refine RG.done rfl (nx_then ?_)
      refine wp_ret ?_
      refine S.ret (vs := [B false]) (by kernel_rfl) ?_
      exact ⟨retB (show false = decide (a = b) by clear S; (first | (symm; refine decide_eq_false ?_; intro e; subst e; simp_all; done) | (symm; refine decide_eq_true ?_; rw [THost.ext_iff]; simp_all; done) | (rw [Bool.eq_iff_iff]; simp only [decide_eq_true_eq, THost.ext_iff, beq_iff_eq, Bool.and_eq_true]; simp_all; done))), S.chg⟩
  · have g9 := of_decide_eq_false h1
    refine S.quiet (k := 21) (keep := [4]) (m := 0) (σ' := ⟨[(4, .v (B false))], []⟩) .nil (by kernel_rfl) ?_
    clear S; intro ac w β S
    refine RG.done rfl (nx_then ?_)
    refine wp_ret ?_
    refine S.ret (vs := [B false]) (by kernel_rfl) ?_
    exact ⟨retB (show false = decide (a = b) by clear S; (first | (symm; refine decide_eq_false ?_; intro e; subst e; simp_all; done) | (symm; refine decide_eq_true ?_; rw [THost.ext_iff]; simp_all; done) | (rw [Bool.eq_iff_iff]; simp only [decide_eq_true_eq, THost.ext_iff, beq_iff_eq, Bool.and_eq_true]; simp_all; done))), S.chg⟩

set_option maxRecDepth 100000 in
theorem c_laws_eqIntS (w0 : World) (a : List Int) (pa : LP Int) (ha : GT.rd KK (Lt w0.heap.size) w0 a pa) (b : List Int) (pb : LP Int) (hb : GT.rd KK (Lt w0.heap.size) w0 b pb) : Calls Go.Proofs.Try.prog 18 [slv (a).length pa.1, slv (b).length pb.1].toArray w0 (fun e w' => e = .returned (B (decide (a = b))) ∧ Chg NoB w0 w') := by
  refine Calls.walk (args := [slv (a).length pa.1, slv (b).length pb.1]) NoB Go.Proofs.Try.func18 rfl rfl ?_
  intro ac β S
  have hlea : a.length ≤ 4194304 := LRd.le ha
  have hleb : b.length ≤ 4194304 := LRd.le hb
  refine wp_seq ?_
  refine RG.start ?_
  refine S.quiet (k := 1) (keep := [0, 1]) (m := 0) (σ' := ⟨[(0, .v (slv (a).length pa.1)), (1, .v (slv (b).length pb.1))], []⟩) .nil (by kernel_rfl) ?_
  clear S; intro ac w β S
  refine RG.done rfl (nx_then ?_)
  refine wp_seq ?_
  refine wp_seq ?_
  refine RG.start ?_
  refine S.quiet (k := 5) (keep := [0, 1, 10]) (m := 0) (σ' := ⟨[(0, .v (slv (a).length pa.1)), (1, .v (slv (b).length pb.1)), (10, .v (B (((a).length : Int) != ((b).length : Int))))], []⟩) .nil (by kernel_rfl) ?_
  clear S; intro ac w β S
  refine RG.done rfl (nx_then ?_)
  refine S.cond (e := (((a).length : Int) != ((b).length : Int))) (by kernel_rfl) (fun h1 => ?_) (fun h1 => ?_)
  · have g2 : ¬ (((a).length : Int) = ((b).length : Int)) := bne_iff_ne.1 h1
    refine wp_seq ?_
    refine RG.start ?_
    refine S.quiet (k := 1) (keep := [4]) (m := 0) (σ' := ⟨[(4, .v (B false))], []⟩) .nil (by kernel_rfl) ?_
    clear S; intro ac w β S
    refine RG.done rfl (nx_then ?_)
    refine wp_ret (rt_then ?_)
    refine S.ret (vs := [B false]) (by kernel_rfl) ?_
    exact ⟨retB (show false = decide (a = b) by clear S; first | (simp; intro e; subst e; simp_all; done) | (simp; rw [take_all (by omega), take_all (by omega)] at he; exact he) | (simp; exact take_ne (by simp_all))), S.chg⟩
  · have g3 : ((a).length : Int) = ((b).length : Int) := ne_f h1
    refine wp_skip (nx_then ?_)
    refine wp_seq ?_
    refine wp_seq ?_
    refine RG.start ?_
    refine S.quiet (k := 1) (keep := [0, 1, 5]) (m := 0) (σ' := ⟨[(0, .v (slv (a).length pa.1)), (1, .v (slv (b).length pb.1)), (5, .v (I 0))], []⟩) .nil (by kernel_rfl) ?_
    clear S; intro ac w β S
    refine RG.done rfl (nx_then ?_)
    refine wp_block ?_
    replace S := S.prune (keep := [0, 1, 5]) (m := 0) (σ' := ⟨[(0, .v (slv (a).length pa.1)), (1, .v (slv (b).length pb.1)), (5, .v (I 0))], []⟩) (by kernel_rfl)
    refine wp_loop_down (fun mm ac w => ∃ (k : Nat)  (u : World) (N : Bl) (β : Nat → Nat), mm = a.length - k ∧ (k ≤ a.length) ∧ (a.length = b.length) ∧ (a.take k = b.take k) ∧ St Go.Proofs.Try.prog Go.Proofs.Try.f18.ntmps w0 NoB u N β ⟨[(0, .v (slv (a).length pa.1)), (1, .v (slv (b).length pb.1)), (5, .v (I (k : Int)))], []⟩ ac w) _ ⟨0, _, _, _, rfl, (by first | omega | (simp; done) | (simp; omega)), (by first | omega | (simp; done) | (simp; omega)), (by simp), S.cast (by kernel_rfl)⟩ ?_
    clear S
    rintro mm ac w ⟨k, u, N, β, rfl, hk, hab, he, S⟩
    refine wp_seq ?_
    refine wp_seq ?_
    refine RG.start ?_
    refine S.quiet (k := 4) (keep := [0, 1, 5, 14]) (m := 0) (σ' := ⟨[(0, .v (slv (a).length pa.1)), (1, .v (slv (b).length pb.1)), (5, .v (I (k : Int))), (14, .v (B (decide ((k : Int) < ((a).length : Int)))))], []⟩) .nil (by kernel_rfl) ?_
    clear S; intro ac w β S
    refine RG.done rfl (nx_then ?_)
    refine S.cond (e := (decide ((k : Int) < ((a).length : Int)))) (by kernel_rfl) (fun h4 => ?_) (fun h4 => ?_)
    · have g5 : (k : Int) < ((a).length : Int) := of_decide_eq_true h4
      refine wp_skip (nx_then ?_)
      refine wp_seq ?_
      refine wp_block ?_
      refine wp_seq ?_
      refine S.drawn (keep := [0, 1, 5, 25]) (m := 0) (σ' := ⟨[(0, .v (slv (a).length pa.1)), (1, .v (slv (b).length pb.1)), (5, .v (I (k : Int))), (25, .v (B ((el a k) != (el b k))))], []⟩) (.cons (Q_idx (S.arg ha) (l := (a).length) (k := k) (i := (k : Int)) rfl rfl (by omega) Go.Proofs.Try.underlying37 (by kernel_rfl)) (.cons (Q_el1 (S.arg ha) (t := 3) (k := k) (by omega) rfl (by kernel_rfl)) (.cons (Q_idx (S.arg hb) (l := (b).length) (k := k) (i := (k : Int)) rfl rfl (by omega) Go.Proofs.Try.underlying37 (by kernel_rfl)) (.cons (Q_el1 (S.arg hb) (t := 3) (k := k) (by omega) rfl (by kernel_rfl)) .nil)))) rfl (by kernel_rfl) (by kernel_rfl) ?_
      clear S; intro ac w S
      refine id (nx_then ?_)
      refine S.cond (e := ((el a k) != (el b k))) (by kernel_rfl) (fun h6 => ?_) (fun h6 => ?_)
      · have g7 : ¬ ((el a k) = (el b k)) := bne_iff_ne.1 h6
        refine wp_seq ?_
        refine RG.start ?_
        refine S.quiet (k := 1) (keep := [4]) (m := 0) (σ' := ⟨[(4, .v (B false))], []⟩) .nil (by kernel_rfl) ?_
        clear S; intro ac w β S
        refine RG.done rfl (nx_then ?_)
        refine wp_ret (rt_block (rt_then (rt_then (rt_block (rt_then ?_)))))
        refine S.ret (vs := [B false]) (by kernel_rfl) ?_
        exact ⟨retB (show false = decide (a = b) by clear S; first | (simp; intro e; subst e; simp_all; done) | (simp; rw [take_all (by omega), take_all (by omega)] at he; exact he) | (simp; exact take_ne (by simp_all))), S.chg⟩
      · have g8 : (el a k) = (el b k) := ne_f h6
        refine wp_skip (nx_block (nx_then ?_))
        refine RG.start ?_
        refine S.quiet (k := 3) (keep := [0, 1, 5]) (m := 0) (σ' := ⟨[(0, .v (slv (a).length pa.1)), (1, .v (slv (b).length pb.1)), (5, .v (I ((k : Int) + 1)))], []⟩) (.cons (Q_add (x := (k : Int)) (y := 1) ⟨by omega, by omega⟩) .nil) (by kernel_rfl) ?_
        clear S; intro ac w β S
        refine RG.done rfl (nx_then ?_)
        replace S := S.prune (keep := [0, 1, 5]) (m := 0) (σ' := ⟨[(0, .v (slv (a).length pa.1)), (1, .v (slv (b).length pb.1)), (5, .v (I ((k : Int) + 1)))], []⟩) (by kernel_rfl)
        refine ⟨a.length - (k + 1), by omega, k + 1, _, _, _, rfl, ?_, ?_, ?_, S.cast (by kernel_rfl)⟩
        · clear S; first | omega | (simp [*]; done) | (simp [*]; omega)
        · clear S; first | omega | (simp [*]; done) | (simp [*]; omega)
        · clear S; exact take_eq_step (by omega) (by omega) he (by simp_all)
    · have g9 : ¬ ((k : Int) < ((a).length : Int)) := of_decide_eq_false h4
      refine wp_exit (ex_then (ex_then (ex_hit (nx_then ?_))))
      refine wp_seq ?_
      refine RG.start ?_
      refine S.quiet (k := 1) (keep := [4]) (m := 0) (σ' := ⟨[(4, .v (B true))], []⟩) .nil (by kernel_rfl) ?_
      clear S; intro ac w β S
      refine RG.done rfl (nx_then ?_)
      refine wp_ret ?_
      refine S.ret (vs := [B true]) (by kernel_rfl) ?_
      exact ⟨retB (show true = decide (a = b) by clear S; first | (simp; intro e; subst e; simp_all; done) | (simp; rw [take_all (by omega), take_all (by omega)] at he; exact he) | (simp; exact take_ne (by simp_all))), S.chg⟩

set_option maxRecDepth 100000 in
theorem c_laws_eqIntSS (w0 : World) (a : List (List Int)) (pa : LP (List Int)) (ha : GT.rd KK (Lt w0.heap.size) w0 a pa) (b : List (List Int)) (pb : LP (List Int)) (hb : GT.rd KK (Lt w0.heap.size) w0 b pb) : Calls Go.Proofs.Try.prog 53 [slv (a).length pa.1, slv (b).length pb.1].toArray w0 (fun e w' => e = .returned (B (decide (a = b))) ∧ Chg NoB w0 w') := by
  refine Calls.walk (args := [slv (a).length pa.1, slv (b).length pb.1]) NoB Go.Proofs.Try.func53 rfl rfl ?_
  intro ac β S
  have hlea : a.length ≤ 4194304 := LRd.le ha
  have hleb : b.length ≤ 4194304 := LRd.le hb
  refine wp_seq ?_
  refine RG.start ?_
  refine S.quiet (k := 1) (keep := [0, 1]) (m := 0) (σ' := ⟨[(0, .v (slv (a).length pa.1)), (1, .v (slv (b).length pb.1))], []⟩) .nil (by kernel_rfl) ?_
  clear S; intro ac w β S
  refine RG.done rfl (nx_then ?_)
  refine wp_seq ?_
  refine wp_seq ?_
  refine RG.start ?_
  refine S.quiet (k := 5) (keep := [0, 1, 10]) (m := 0) (σ' := ⟨[(0, .v (slv (a).length pa.1)), (1, .v (slv (b).length pb.1)), (10, .v (B (((a).length : Int) != ((b).length : Int))))], []⟩) .nil (by kernel_rfl) ?_
  clear S; intro ac w β S
  refine RG.done rfl (nx_then ?_)
  refine S.cond (e := (((a).length : Int) != ((b).length : Int))) (by kernel_rfl) (fun h1 => ?_) (fun h1 => ?_)
  · have g2 : ¬ (((a).length : Int) = ((b).length : Int)) := bne_iff_ne.1 h1
    refine wp_seq ?_
    refine RG.start ?_
    refine S.quiet (k := 1) (keep := [4]) (m := 0) (σ' := ⟨[(4, .v (B false))], []⟩) .nil (by kernel_rfl) ?_
    clear S; intro ac w β S
    refine RG.done rfl (nx_then ?_)
    refine wp_ret (rt_then ?_)
    refine S.ret (vs := [B false]) (by kernel_rfl) ?_
    exact ⟨retB (show false = decide (a = b) by clear S; first | (simp; intro e; subst e; simp_all; done) | (simp; rw [take_all (by omega), take_all (by omega)] at he; exact he) | (simp; exact take_ne (by simp_all))), S.chg⟩
  · have g3 : ((a).length : Int) = ((b).length : Int) := ne_f h1
    refine wp_skip (nx_then ?_)
    refine wp_seq ?_
    refine wp_seq ?_
    refine RG.start ?_
    refine S.quiet (k := 1) (keep := [0, 1, 5]) (m := 0) (σ' := ⟨[(0, .v (slv (a).length pa.1)), (1, .v (slv (b).length pb.1)), (5, .v (I 0))], []⟩) .nil (by kernel_rfl) ?_
    clear S; intro ac w β S
    refine RG.done rfl (nx_then ?_)
    refine wp_block ?_
    replace S := S.prune (keep := [0, 1, 5]) (m := 0) (σ' := ⟨[(0, .v (slv (a).length pa.1)), (1, .v (slv (b).length pb.1)), (5, .v (I 0))], []⟩) (by kernel_rfl)
    refine wp_loop_down (fun mm ac w => ∃ (k : Nat)  (u : World) (N : Bl) (β : Nat → Nat), mm = a.length - k ∧ (k ≤ a.length) ∧ (a.length = b.length) ∧ (a.take k = b.take k) ∧ St Go.Proofs.Try.prog Go.Proofs.Try.f53.ntmps w0 NoB u N β ⟨[(0, .v (slv (a).length pa.1)), (1, .v (slv (b).length pb.1)), (5, .v (I (k : Int)))], []⟩ ac w) _ ⟨0, _, _, _, rfl, (by first | omega | (simp; done) | (simp; omega)), (by first | omega | (simp; done) | (simp; omega)), (by simp), S.cast (by kernel_rfl)⟩ ?_
    clear S
    rintro mm ac w ⟨k, u, N, β, rfl, hk, hab, he, S⟩
    refine wp_seq ?_
    refine wp_seq ?_
    refine RG.start ?_
    refine S.quiet (k := 4) (keep := [0, 1, 5, 14]) (m := 0) (σ' := ⟨[(0, .v (slv (a).length pa.1)), (1, .v (slv (b).length pb.1)), (5, .v (I (k : Int))), (14, .v (B (decide ((k : Int) < ((a).length : Int)))))], []⟩) .nil (by kernel_rfl) ?_
    clear S; intro ac w β S
    refine RG.done rfl (nx_then ?_)
    refine S.cond (e := (decide ((k : Int) < ((a).length : Int)))) (by kernel_rfl) (fun h4 => ?_) (fun h4 => ?_)
    · have g5 : (k : Int) < ((a).length : Int) := of_decide_eq_true h4
      refine wp_skip (nx_then ?_)
      refine wp_seq ?_
      refine wp_block ?_
      refine wp_seq ?_
      refine S.drawn (keep := [0, 1, 5, 26]) (m := 0) (σ' := ⟨[(0, .v (slv (a).length pa.1)), (1, .v (slv (b).length pb.1)), (5, .v (I (k : Int))), (26, .v (B (!(decide ((el a k) = (el b k))))))], []⟩) (.cons (Q_idx (S.arg ha) (l := (a).length) (k := k) (i := (k : Int)) rfl rfl (by omega) Go.Proofs.Try.underlying22 (by kernel_rfl)) (.cons (Q_el1 (S.arg ha) (t := 37) (k := k) (by omega) rfl (by kernel_rfl)) (.cons (Q_idx (S.arg hb) (l := (b).length) (k := k) (i := (k : Int)) rfl rfl (by omega) Go.Proofs.Try.underlying22 (by kernel_rfl)) (.cons (Q_el1 (S.arg hb) (t := 37) (k := k) (by omega) rfl (by kernel_rfl)) (.cons (Q_call fun w hw => c_laws_eqIntS w (el a k) (pa.2 k) (rd_of (LRd.el (S.arg ha) k (by omega)) hw) (el b k) (pb.2 k) (rd_of (LRd.el (S.arg hb) k (by omega)) hw)) .nil))))) rfl (by kernel_rfl) (by kernel_rfl) ?_
      clear S; intro ac w S
      refine id (nx_then ?_)
      refine S.cond (e := (!(decide ((el a k) = (el b k))))) (by kernel_rfl) (fun h6 => ?_) (fun h6 => ?_)
      · have h7 : (decide ((el a k) = (el b k))) = false := not_t h6
        have g8 := of_decide_eq_false h7
        refine wp_seq ?_
        refine RG.start ?_
        refine S.quiet (k := 1) (keep := [4]) (m := 0) (σ' := ⟨[(4, .v (B false))], []⟩) .nil (by kernel_rfl) ?_
        clear S; intro ac w β S
        refine RG.done rfl (nx_then ?_)
        refine wp_ret (rt_block (rt_then (rt_then (rt_block (rt_then ?_)))))
        refine S.ret (vs := [B false]) (by kernel_rfl) ?_
        exact ⟨retB (show false = decide (a = b) by clear S; first | (simp; intro e; subst e; simp_all; done) | (simp; rw [take_all (by omega), take_all (by omega)] at he; exact he) | (simp; exact take_ne (by simp_all))), S.chg⟩
      · have h9 : (decide ((el a k) = (el b k))) = true := not_f h6
        have g10 := of_decide_eq_true h9
        refine wp_skip (nx_block (nx_then ?_))
        refine RG.start ?_
        refine S.quiet (k := 3) (keep := [0, 1, 5]) (m := 0) (σ' := ⟨[(0, .v (slv (a).length pa.1)), (1, .v (slv (b).length pb.1)), (5, .v (I ((k : Int) + 1)))], []⟩) (.cons (Q_add (x := (k : Int)) (y := 1) ⟨by omega, by omega⟩) .nil) (by kernel_rfl) ?_
        clear S; intro ac w β S
        refine RG.done rfl (nx_then ?_)
        replace S := S.prune (keep := [0, 1, 5]) (m := 0) (σ' := ⟨[(0, .v (slv (a).length pa.1)), (1, .v (slv (b).length pb.1)), (5, .v (I ((k : Int) + 1)))], []⟩) (by kernel_rfl)
        refine ⟨a.length - (k + 1), by omega, k + 1, _, _, _, rfl, ?_, ?_, ?_, S.cast (by kernel_rfl)⟩
        · clear S; first | omega | (simp [*]; done) | (simp [*]; omega)
        · clear S; first | omega | (simp [*]; done) | (simp [*]; omega)
        · clear S; exact take_eq_step (by omega) (by omega) he (by simp_all)
    · have g11 : ¬ ((k : Int) < ((a).length : Int)) := of_decide_eq_false h4
      refine wp_exit (ex_then (ex_then (ex_hit (nx_then ?_))))
      refine wp_seq ?_
      refine RG.start ?_
      refine S.quiet (k := 1) (keep := [4]) (m := 0) (σ' := ⟨[(4, .v (B true))], []⟩) .nil (by kernel_rfl) ?_
      clear S; intro ac w β S
      refine RG.done rfl (nx_then ?_)
      refine wp_ret ?_
      refine S.ret (vs := [B true]) (by kernel_rfl) ?_
      exact ⟨retB (show true = decide (a = b) by clear S; first | (simp; intro e; subst e; simp_all; done) | (simp; rw [take_all (by omega), take_all (by omega)] at he; exact he) | (simp; exact take_ne (by simp_all))), S.chg⟩

set_option maxRecDepth 100000 in
theorem c_laws_eqSlot (w0 : World) (a : TSlot) (b : TSlot) : Calls Go.Proofs.Try.prog 139 [GT.val (α := TSlot) a (), GT.val (α := TSlot) b ()].toArray w0 (fun e w' => e = .returned (B (decide (a = b))) ∧ Chg NoB w0 w') := by
  refine Calls.walk (args := [GT.val (α := TSlot) a (), GT.val (α := TSlot) b ()]) NoB Go.Proofs.Try.func139 rfl rfl ?_
  intro ac β S
  refine wp_seq ?_
  refine RG.start ?_
  refine S.quiet (k := 3) (keep := [2, 3]) (m := 2) (σ' := ⟨[(2, .p 0 0), (3, .p 1 0)], [GT.cells (α := TSlot) a (), GT.cells (α := TSlot) b ()]⟩) .nil (by kernel_rfl) ?_
  clear S; intro ac w β S
  refine RG.done rfl (nx_then ?_)
  refine wp_seq ?_
  refine wp_seq ?_
  refine RG.start ?_
  refine S.quiet (k := 5) (keep := [2, 3, 9]) (m := 2) (σ' := ⟨[(2, .p 0 0), (3, .p 1 0), (9, .v (B (a.page != b.page)))], [GT.cells (α := TSlot) a (), GT.cells (α := TSlot) b ()]⟩) .nil (by kernel_rfl) ?_
  clear S; intro ac w β S
  refine RG.done rfl (nx_then ?_)
  refine S.cond (e := (a.page != b.page)) (by kernel_rfl) (fun h1 => ?_) (fun h1 => ?_)
  · have g2 : ¬ (a.page = b.page) := bne_iff_ne.1 h1
    refine wp_seq ?_
    refine RG.start ?_
    refine S.quiet (k := 1) (keep := [4]) (m := 0) (σ' := ⟨[(4, .v (B false))], []⟩) .nil (by kernel_rfl) ?_
    clear S; intro ac w β S
    refine RG.done rfl (nx_then ?_)
    refine wp_ret (rt_then ?_)
    refine S.ret (vs := [B false]) (by kernel_rfl) ?_
    exact ⟨retB (show false = decide (a = b) by clear S; first | (simp [TSlot.ext_iff, *]; done) | (simp_all [TSlot.ext_iff]; done)), S.chg⟩
  · have g3 : a.page = b.page := ne_f h1
    refine wp_skip (nx_then ?_)
    refine wp_seq ?_
    refine wp_seq ?_
    refine RG.start ?_
    refine S.quiet (k := 5) (keep := [14]) (m := 0) (σ' := ⟨[(14, .v (B (a.rights != b.rights)))], []⟩) .nil (by kernel_rfl) ?_
    clear S; intro ac w β S
    refine RG.done rfl (nx_then ?_)
    refine S.cond (e := (a.rights != b.rights)) (by kernel_rfl) (fun h4 => ?_) (fun h4 => ?_)
    · have g5 : ¬ (a.rights = b.rights) := bne_iff_ne.1 h4
      refine wp_seq ?_
      refine RG.start ?_
      refine S.quiet (k := 1) (keep := [4]) (m := 0) (σ' := ⟨[(4, .v (B false))], []⟩) .nil (by kernel_rfl) ?_
      clear S; intro ac w β S
      refine RG.done rfl (nx_then ?_)
      refine wp_ret (rt_then ?_)
      refine S.ret (vs := [B false]) (by kernel_rfl) ?_
      exact ⟨retB (show false = decide (a = b) by clear S; first | (simp [TSlot.ext_iff, *]; done) | (simp_all [TSlot.ext_iff]; done)), S.chg⟩
    · have g6 : a.rights = b.rights := ne_f h4
      refine wp_skip (nx_then ?_)
      refine wp_seq ?_
      refine RG.start ?_
      refine S.quiet (k := 1) (keep := [4]) (m := 0) (σ' := ⟨[(4, .v (B true))], []⟩) .nil (by kernel_rfl) ?_
      clear S; intro ac w β S
      refine RG.done rfl (nx_then ?_)
      refine wp_ret ?_
      refine S.ret (vs := [B true]) (by kernel_rfl) ?_
      exact ⟨retB (show true = decide (a = b) by clear S; first | (simp [TSlot.ext_iff, *]; done) | (simp_all [TSlot.ext_iff]; done)), S.chg⟩

set_option maxRecDepth 100000 in
theorem c_laws_eqSlotS (w0 : World) (a : List TSlot) (pa : LP TSlot) (ha : GT.rd KK (Lt w0.heap.size) w0 a pa) (b : List TSlot) (pb : LP TSlot) (hb : GT.rd KK (Lt w0.heap.size) w0 b pb) : Calls Go.Proofs.Try.prog 82 [slv (a).length pa.1, slv (b).length pb.1].toArray w0 (fun e w' => e = .returned (B (decide (a = b))) ∧ Chg NoB w0 w') := by
  refine Calls.walk (args := [slv (a).length pa.1, slv (b).length pb.1]) NoB Go.Proofs.Try.func82 rfl rfl ?_
  intro ac β S
  have hlea : a.length ≤ 4194304 := LRd.le ha
  have hleb : b.length ≤ 4194304 := LRd.le hb
  refine wp_seq ?_
  refine RG.start ?_
  refine S.quiet (k := 1) (keep := [0, 1]) (m := 0) (σ' := ⟨[(0, .v (slv (a).length pa.1)), (1, .v (slv (b).length pb.1))], []⟩) .nil (by kernel_rfl) ?_
  clear S; intro ac w β S
  refine RG.done rfl (nx_then ?_)
  refine wp_seq ?_
  refine wp_seq ?_
  refine RG.start ?_
  refine S.quiet (k := 5) (keep := [0, 1, 10]) (m := 0) (σ' := ⟨[(0, .v (slv (a).length pa.1)), (1, .v (slv (b).length pb.1)), (10, .v (B (((a).length : Int) != ((b).length : Int))))], []⟩) .nil (by kernel_rfl) ?_
  clear S; intro ac w β S
  refine RG.done rfl (nx_then ?_)
  refine S.cond (e := (((a).length : Int) != ((b).length : Int))) (by kernel_rfl) (fun h1 => ?_) (fun h1 => ?_)
  · have g2 : ¬ (((a).length : Int) = ((b).length : Int)) := bne_iff_ne.1 h1
    refine wp_seq ?_
    refine RG.start ?_
    refine S.quiet (k := 1) (keep := [4]) (m := 0) (σ' := ⟨[(4, .v (B false))], []⟩) .nil (by kernel_rfl) ?_
    clear S; intro ac w β S
    refine RG.done rfl (nx_then ?_)
    refine wp_ret (rt_then ?_)
    refine S.ret (vs := [B false]) (by kernel_rfl) ?_
    exact ⟨retB (show false = decide (a = b) by clear S; first | (simp; intro e; subst e; simp_all; done) | (simp; rw [take_all (by omega), take_all (by omega)] at he; exact he) | (simp; exact take_ne (by simp_all))), S.chg⟩
  · have g3 : ((a).length : Int) = ((b).length : Int) := ne_f h1
    refine wp_skip (nx_then ?_)
    refine wp_seq ?_
    refine wp_seq ?_
    refine RG.start ?_
    refine S.quiet (k := 1) (keep := [0, 1, 5]) (m := 0) (σ' := ⟨[(0, .v (slv (a).length pa.1)), (1, .v (slv (b).length pb.1)), (5, .v (I 0))], []⟩) .nil (by kernel_rfl) ?_
    clear S; intro ac w β S
    refine RG.done rfl (nx_then ?_)
    refine wp_block ?_
    replace S := S.prune (keep := [0, 1, 5]) (m := 0) (σ' := ⟨[(0, .v (slv (a).length pa.1)), (1, .v (slv (b).length pb.1)), (5, .v (I 0))], []⟩) (by kernel_rfl)
    refine wp_loop_down (fun mm ac w => ∃ (k : Nat)  (u : World) (N : Bl) (β : Nat → Nat), mm = a.length - k ∧ (k ≤ a.length) ∧ (a.length = b.length) ∧ (a.take k = b.take k) ∧ St Go.Proofs.Try.prog Go.Proofs.Try.f82.ntmps w0 NoB u N β ⟨[(0, .v (slv (a).length pa.1)), (1, .v (slv (b).length pb.1)), (5, .v (I (k : Int)))], []⟩ ac w) _ ⟨0, _, _, _, rfl, (by first | omega | (simp; done) | (simp; omega)), (by first | omega | (simp; done) | (simp; omega)), (by simp), S.cast (by kernel_rfl)⟩ ?_
    clear S
    rintro mm ac w ⟨k, u, N, β, rfl, hk, hab, he, S⟩
    refine wp_seq ?_
    refine wp_seq ?_
    refine RG.start ?_
    refine S.quiet (k := 4) (keep := [0, 1, 5, 14]) (m := 0) (σ' := ⟨[(0, .v (slv (a).length pa.1)), (1, .v (slv (b).length pb.1)), (5, .v (I (k : Int))), (14, .v (B (decide ((k : Int) < ((a).length : Int)))))], []⟩) .nil (by kernel_rfl) ?_
    clear S; intro ac w β S
    refine RG.done rfl (nx_then ?_)
    refine S.cond (e := (decide ((k : Int) < ((a).length : Int)))) (by kernel_rfl) (fun h4 => ?_) (fun h4 => ?_)
    · have g5 : (k : Int) < ((a).length : Int) := of_decide_eq_true h4
      refine wp_skip (nx_then ?_)
      refine wp_seq ?_
      refine wp_block ?_
      refine wp_seq ?_
      refine S.drawn (keep := [0, 1, 5, 26]) (m := 0) (σ' := ⟨[(0, .v (slv (a).length pa.1)), (1, .v (slv (b).length pb.1)), (5, .v (I (k : Int))), (26, .v (B (!(decide ((el a k) = (el b k))))))], []⟩) (.cons (Q_idx (S.arg ha) (l := (a).length) (k := k) (i := (k : Int)) rfl rfl (by omega) Go.Proofs.Try.underlying45 (by kernel_rfl)) (.cons (Q_el (S.arg ha) (t := 87) (k := k) (by omega) rfl (by kernel_rfl) (by kernel_rfl)) (.cons (Q_idx (S.arg hb) (l := (b).length) (k := k) (i := (k : Int)) rfl rfl (by omega) Go.Proofs.Try.underlying45 (by kernel_rfl)) (.cons (Q_el (S.arg hb) (t := 87) (k := k) (by omega) rfl (by kernel_rfl) (by kernel_rfl)) (.cons (Q_call fun w hw => c_laws_eqSlot w (el a k) (el b k)) .nil))))) rfl (by kernel_rfl) (by kernel_rfl) ?_
      clear S; intro ac w S
      refine id (nx_then ?_)
      refine S.cond (e := (!(decide ((el a k) = (el b k))))) (by kernel_rfl) (fun h6 => ?_) (fun h6 => ?_)
      · have h7 : (decide ((el a k) = (el b k))) = false := not_t h6
        have g8 := of_decide_eq_false h7
        refine wp_seq ?_
        refine RG.start ?_
        refine S.quiet (k := 1) (keep := [4]) (m := 0) (σ' := ⟨[(4, .v (B false))], []⟩) .nil (by kernel_rfl) ?_
        clear S; intro ac w β S
        refine RG.done rfl (nx_then ?_)
        refine wp_ret (rt_block (rt_then (rt_then (rt_block (rt_then ?_)))))
        refine S.ret (vs := [B false]) (by kernel_rfl) ?_
        exact ⟨retB (show false = decide (a = b) by clear S; first | (simp; intro e; subst e; simp_all; done) | (simp; rw [take_all (by omega), take_all (by omega)] at he; exact he) | (simp; exact take_ne (by simp_all))), S.chg⟩
      · have h9 : (decide ((el a k) = (el b k))) = true := not_f h6
        have g10 := of_decide_eq_true h9
        refine wp_skip (nx_block (nx_then ?_))
        refine RG.start ?_
        refine S.quiet (k := 3) (keep := [0, 1, 5]) (m := 0) (σ' := ⟨[(0, .v (slv (a).length pa.1)), (1, .v (slv (b).length pb.1)), (5, .v (I ((k : Int) + 1)))], []⟩) (.cons (Q_add (x := (k : Int)) (y := 1) ⟨by omega, by omega⟩) .nil) (by kernel_rfl) ?_
        clear S; intro ac w β S
        refine RG.done rfl (nx_then ?_)
        replace S := S.prune (keep := [0, 1, 5]) (m := 0) (σ' := ⟨[(0, .v (slv (a).length pa.1)), (1, .v (slv (b).length pb.1)), (5, .v (I ((k : Int) + 1)))], []⟩) (by kernel_rfl)
        refine ⟨a.length - (k + 1), by omega, k + 1, _, _, _, rfl, ?_, ?_, ?_, S.cast (by kernel_rfl)⟩
        · clear S; first | omega | (simp [*]; done) | (simp [*]; omega)
        · clear S; first | omega | (simp [*]; done) | (simp [*]; omega)
        · clear S; exact take_eq_step (by omega) (by omega) he (by simp_all)
    · have g11 : ¬ ((k : Int) < ((a).length : Int)) := of_decide_eq_false h4
      refine wp_exit (ex_then (ex_then (ex_hit (nx_then ?_))))
      refine wp_seq ?_
      refine RG.start ?_
      refine S.quiet (k := 1) (keep := [4]) (m := 0) (σ' := ⟨[(4, .v (B true))], []⟩) .nil (by kernel_rfl) ?_
      clear S; intro ac w β S
      refine RG.done rfl (nx_then ?_)
      refine wp_ret ?_
      refine S.ret (vs := [B true]) (by kernel_rfl) ?_
      exact ⟨retB (show true = decide (a = b) by clear S; first | (simp; intro e; subst e; simp_all; done) | (simp; rw [take_all (by omega), take_all (by omega)] at he; exact he) | (simp; exact take_ne (by simp_all))), S.chg⟩

set_option maxRecDepth 100000 in
theorem c_laws_eqBoolS (w0 : World) (a : List Bool) (pa : LP Bool) (ha : GT.rd KK (Lt w0.heap.size) w0 a pa) (b : List Bool) (pb : LP Bool) (hb : GT.rd KK (Lt w0.heap.size) w0 b pb) : Calls Go.Proofs.Try.prog 83 [slv (a).length pa.1, slv (b).length pb.1].toArray w0 (fun e w' => e = .returned (B (decide (a = b))) ∧ Chg NoB w0 w') := by
  refine Calls.walk (args := [slv (a).length pa.1, slv (b).length pb.1]) NoB Go.Proofs.Try.func83 rfl rfl ?_
  intro ac β S
  have hlea : a.length ≤ 4194304 := LRd.le ha
  have hleb : b.length ≤ 4194304 := LRd.le hb
  refine wp_seq ?_
  refine RG.start ?_
  refine S.quiet (k := 1) (keep := [0, 1]) (m := 0) (σ' := ⟨[(0, .v (slv (a).length pa.1)), (1, .v (slv (b).length pb.1))], []⟩) .nil (by kernel_rfl) ?_
  clear S; intro ac w β S
  refine RG.done rfl (nx_then ?_)
  refine wp_seq ?_
  refine wp_seq ?_
  refine RG.start ?_
  refine S.quiet (k := 5) (keep := [0, 1, 10]) (m := 0) (σ' := ⟨[(0, .v (slv (a).length pa.1)), (1, .v (slv (b).length pb.1)), (10, .v (B (((a).length : Int) != ((b).length : Int))))], []⟩) .nil (by kernel_rfl) ?_
  clear S; intro ac w β S
  refine RG.done rfl (nx_then ?_)
  refine S.cond (e := (((a).length : Int) != ((b).length : Int))) (by kernel_rfl) (fun h1 => ?_) (fun h1 => ?_)
  · have g2 : ¬ (((a).length : Int) = ((b).length : Int)) := bne_iff_ne.1 h1
    refine wp_seq ?_
    refine RG.start ?_
    refine S.quiet (k := 1) (keep := [4]) (m := 0) (σ' := ⟨[(4, .v (B false))], []⟩) .nil (by kernel_rfl) ?_
    clear S; intro ac w β S
    refine RG.done rfl (nx_then ?_)
    refine wp_ret (rt_then ?_)
    refine S.ret (vs := [B false]) (by kernel_rfl) ?_
    exact ⟨retB (show false = decide (a = b) by clear S; first | (simp; intro e; subst e; simp_all; done) | (simp; rw [take_all (by omega), take_all (by omega)] at he; exact he) | (simp; exact take_ne (by simp_all))), S.chg⟩
  · have g3 : ((a).length : Int) = ((b).length : Int) := ne_f h1
    refine wp_skip (nx_then ?_)
    refine wp_seq ?_
    refine wp_seq ?_
    refine RG.start ?_
    refine S.quiet (k := 1) (keep := [0, 1, 5]) (m := 0) (σ' := ⟨[(0, .v (slv (a).length pa.1)), (1, .v (slv (b).length pb.1)), (5, .v (I 0))], []⟩) .nil (by kernel_rfl) ?_
    clear S; intro ac w β S
    refine RG.done rfl (nx_then ?_)
    refine wp_block ?_
    replace S := S.prune (keep := [0, 1, 5]) (m := 0) (σ' := ⟨[(0, .v (slv (a).length pa.1)), (1, .v (slv (b).length pb.1)), (5, .v (I 0))], []⟩) (by kernel_rfl)
    refine wp_loop_down (fun mm ac w => ∃ (k : Nat)  (u : World) (N : Bl) (β : Nat → Nat), mm = a.length - k ∧ (k ≤ a.length) ∧ (a.length = b.length) ∧ (a.take k = b.take k) ∧ St Go.Proofs.Try.prog Go.Proofs.Try.f83.ntmps w0 NoB u N β ⟨[(0, .v (slv (a).length pa.1)), (1, .v (slv (b).length pb.1)), (5, .v (I (k : Int)))], []⟩ ac w) _ ⟨0, _, _, _, rfl, (by first | omega | (simp; done) | (simp; omega)), (by first | omega | (simp; done) | (simp; omega)), (by simp), S.cast (by kernel_rfl)⟩ ?_
    clear S
    rintro mm ac w ⟨k, u, N, β, rfl, hk, hab, he, S⟩
    refine wp_seq ?_
    refine wp_seq ?_
    refine RG.start ?_
    refine S.quiet (k := 4) (keep := [0, 1, 5, 14]) (m := 0) (σ' := ⟨[(0, .v (slv (a).length pa.1)), (1, .v (slv (b).length pb.1)), (5, .v (I (k : Int))), (14, .v (B (decide ((k : Int) < ((a).length : Int)))))], []⟩) .nil (by kernel_rfl) ?_
    clear S; intro ac w β S
    refine RG.done rfl (nx_then ?_)
    refine S.cond (e := (decide ((k : Int) < ((a).length : Int)))) (by kernel_rfl) (fun h4 => ?_) (fun h4 => ?_)
    · have g5 : (k : Int) < ((a).length : Int) := of_decide_eq_true h4
      refine wp_skip (nx_then ?_)
      refine wp_seq ?_
      refine wp_block ?_
      refine wp_seq ?_
      refine S.drawn (keep := [0, 1, 5, 25]) (m := 0) (σ' := ⟨[(0, .v (slv (a).length pa.1)), (1, .v (slv (b).length pb.1)), (5, .v (I (k : Int))), (25, .v (B (!((el a k) == (el b k)))))], []⟩) (.cons (Q_idx (S.arg ha) (l := (a).length) (k := k) (i := (k : Int)) rfl rfl (by omega) Go.Proofs.Try.underlying46 (by kernel_rfl)) (.cons (Q_el1 (S.arg ha) (t := 4) (k := k) (by omega) rfl (by kernel_rfl)) (.cons (Q_idx (S.arg hb) (l := (b).length) (k := k) (i := (k : Int)) rfl rfl (by omega) Go.Proofs.Try.underlying46 (by kernel_rfl)) (.cons (Q_el1 (S.arg hb) (t := 4) (k := k) (by omega) rfl (by kernel_rfl)) .nil)))) rfl (by kernel_rfl) (by kernel_rfl) ?_
      clear S; intro ac w S
      refine id (nx_then ?_)
      refine S.cond (e := (!((el a k) == (el b k)))) (by kernel_rfl) (fun h6 => ?_) (fun h6 => ?_)
      · have h7 : ((el a k) == (el b k)) = false := not_t h6
        have g8 : ¬ ((el a k) = (el b k)) := ne_of_beq_false h7
        refine wp_seq ?_
        refine RG.start ?_
        refine S.quiet (k := 1) (keep := [4]) (m := 0) (σ' := ⟨[(4, .v (B false))], []⟩) .nil (by kernel_rfl) ?_
        clear S; intro ac w β S
        refine RG.done rfl (nx_then ?_)
        refine wp_ret (rt_block (rt_then (rt_then (rt_block (rt_then ?_)))))
        refine S.ret (vs := [B false]) (by kernel_rfl) ?_
        exact ⟨retB (show false = decide (a = b) by clear S; first | (simp; intro e; subst e; simp_all; done) | (simp; rw [take_all (by omega), take_all (by omega)] at he; exact he) | (simp; exact take_ne (by simp_all))), S.chg⟩
      · have h9 : ((el a k) == (el b k)) = true := not_f h6
        have g10 : (el a k) = (el b k) := eq_of_beq h9
        refine wp_skip (nx_block (nx_then ?_))
        refine RG.start ?_
        refine S.quiet (k := 3) (keep := [0, 1, 5]) (m := 0) (σ' := ⟨[(0, .v (slv (a).length pa.1)), (1, .v (slv (b).length pb.1)), (5, .v (I ((k : Int) + 1)))], []⟩) (.cons (Q_add (x := (k : Int)) (y := 1) ⟨by omega, by omega⟩) .nil) (by kernel_rfl) ?_
        clear S; intro ac w β S
        refine RG.done rfl (nx_then ?_)
        replace S := S.prune (keep := [0, 1, 5]) (m := 0) (σ' := ⟨[(0, .v (slv (a).length pa.1)), (1, .v (slv (b).length pb.1)), (5, .v (I ((k : Int) + 1)))], []⟩) (by kernel_rfl)
        refine ⟨a.length - (k + 1), by omega, k + 1, _, _, _, rfl, ?_, ?_, ?_, S.cast (by kernel_rfl)⟩
        · clear S; first | omega | (simp [*]; done) | (simp [*]; omega)
        · clear S; first | omega | (simp [*]; done) | (simp [*]; omega)
        · clear S; exact take_eq_step (by omega) (by omega) he (by simp_all)
    · have g11 : ¬ ((k : Int) < ((a).length : Int)) := of_decide_eq_false h4
      refine wp_exit (ex_then (ex_then (ex_hit (nx_then ?_))))
      refine wp_seq ?_
      refine RG.start ?_
      refine S.quiet (k := 1) (keep := [4]) (m := 0) (σ' := ⟨[(4, .v (B true))], []⟩) .nil (by kernel_rfl) ?_
      clear S; intro ac w β S
      refine RG.done rfl (nx_then ?_)
      refine wp_ret ?_
      refine S.ret (vs := [B true]) (by kernel_rfl) ?_
      exact ⟨retB (show true = decide (a = b) by clear S; first | (simp; intro e; subst e; simp_all; done) | (simp; rw [take_all (by omega), take_all (by omega)] at he; exact he) | (simp; exact take_ne (by simp_all))), S.chg⟩

set_option maxRecDepth 100000 in
theorem c_laws_eqIns (w0 : World) (a : TIns) (b : TIns) : Calls Go.Proofs.Try.prog 142 [GT.val (α := TIns) a (), GT.val (α := TIns) b ()].toArray w0 (fun e w' => e = .returned (B (decide (a = b))) ∧ Chg NoB w0 w') := by
  refine Calls.walk (args := [GT.val (α := TIns) a (), GT.val (α := TIns) b ()]) NoB Go.Proofs.Try.func142 rfl rfl ?_
  intro ac β S
  refine wp_seq ?_
  refine RG.start ?_
  refine S.quiet (k := 3) (keep := [2, 3]) (m := 2) (σ' := ⟨[(2, .p 0 0), (3, .p 1 0)], [GT.cells (α := TIns) a (), GT.cells (α := TIns) b ()]⟩) .nil (by kernel_rfl) ?_
  clear S; intro ac w β S
  refine RG.done rfl (nx_then ?_)
  refine wp_seq ?_
  refine wp_seq ?_
  refine RG.start ?_
  refine S.quiet (k := 5) (keep := [2, 3, 9]) (m := 2) (σ' := ⟨[(2, .p 0 0), (3, .p 1 0), (9, .v (B (a.opc != b.opc)))], [GT.cells (α := TIns) a (), GT.cells (α := TIns) b ()]⟩) .nil (by kernel_rfl) ?_
  clear S; intro ac w β S
  refine RG.done rfl (nx_then ?_)
  refine S.cond (e := (a.opc != b.opc)) (by kernel_rfl) (fun h1 => ?_) (fun h1 => ?_)
  · have g2 : ¬ (a.opc = b.opc) := bne_iff_ne.1 h1
    refine wp_seq ?_
    refine RG.start ?_
    refine S.quiet (k := 1) (keep := [4]) (m := 0) (σ' := ⟨[(4, .v (B false))], []⟩) .nil (by kernel_rfl) ?_
    clear S; intro ac w β S
    refine RG.done rfl (nx_then ?_)
    refine wp_ret (rt_then ?_)
    refine S.ret (vs := [B false]) (by kernel_rfl) ?_
    exact ⟨retB (show false = decide (a = b) by clear S; first | (simp [TIns.ext_iff, *]; done) | (simp_all [TIns.ext_iff]; done)), S.chg⟩
  · have g3 : a.opc = b.opc := ne_f h1
    refine wp_skip (nx_then ?_)
    refine wp_seq ?_
    refine wp_seq ?_
    refine RG.start ?_
    refine S.quiet (k := 5) (keep := [14]) (m := 0) (σ' := ⟨[(14, .v (B (a.x != b.x)))], []⟩) .nil (by kernel_rfl) ?_
    clear S; intro ac w β S
    refine RG.done rfl (nx_then ?_)
    refine S.cond (e := (a.x != b.x)) (by kernel_rfl) (fun h4 => ?_) (fun h4 => ?_)
    · have g5 : ¬ (a.x = b.x) := bne_iff_ne.1 h4
      refine wp_seq ?_
      refine RG.start ?_
      refine S.quiet (k := 1) (keep := [4]) (m := 0) (σ' := ⟨[(4, .v (B false))], []⟩) .nil (by kernel_rfl) ?_
      clear S; intro ac w β S
      refine RG.done rfl (nx_then ?_)
      refine wp_ret (rt_then ?_)
      refine S.ret (vs := [B false]) (by kernel_rfl) ?_
      exact ⟨retB (show false = decide (a = b) by clear S; first | (simp [TIns.ext_iff, *]; done) | (simp_all [TIns.ext_iff]; done)), S.chg⟩
    · have g6 : a.x = b.x := ne_f h4
      refine wp_skip (nx_then ?_)
      refine wp_seq ?_
      refine RG.start ?_
      refine S.quiet (k := 1) (keep := [4]) (m := 0) (σ' := ⟨[(4, .v (B true))], []⟩) .nil (by kernel_rfl) ?_
      clear S; intro ac w β S
      refine RG.done rfl (nx_then ?_)
      refine wp_ret ?_
      refine S.ret (vs := [B true]) (by kernel_rfl) ?_
      exact ⟨retB (show true = decide (a = b) by clear S; first | (simp [TIns.ext_iff, *]; done) | (simp_all [TIns.ext_iff]; done)), S.chg⟩

end Go.Proofs.Ytcoabfmpdnlfdaa
