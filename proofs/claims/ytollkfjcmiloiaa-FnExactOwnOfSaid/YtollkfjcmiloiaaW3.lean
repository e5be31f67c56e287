/- The walks: what each function that the laws reach computes (part 3). -/
import Derived.Test.YtollkfjcmiloiaaW2
import Derived.Test.YtollkfjcmiloiaaProg
import Derived.KernelRfl
namespace Go.Proofs.Ytollkfjcmiloiaa
open Go
set_option linter.unusedVariables false
set_option linter.unusedSimpArgs false

set_option maxRecDepth 100000 in
theorem c_laws_eqMonS (w0 : World) (a : List TMon) (pa : LP TMon) (ha : GT.rd KK (Lt w0.heap.size) w0 a pa) (b : List TMon) (pb : LP TMon) (hb : GT.rd KK (Lt w0.heap.size) w0 b pb) : Calls Go.Proofs.Try.prog 40 [slv (a).length pa.1, slv (b).length pb.1].toArray w0 (fun e w' => e = .returned (B (decide (a = b))) ∧ Chg NoB w0 w') := by
  refine Calls.walk (args := [slv (a).length pa.1, slv (b).length pb.1]) NoB Go.Proofs.Try.func40 rfl rfl ?_
  intro ac β S
  have hlea : a.length ≤ 4194304 := LRd.le ha
  have hleb : b.length ≤ 4194304 := LRd.le hb
  refine wp_seq ?_
  refine RG.start ?_
  refine S.quiet (k := 1) (keep := [0, 1]) (m := 0) (σ' := ⟨[(0, .v (slv (a).length pa.1)), (1, .v (slv (b).length pb.1))], []⟩) .nil (by kernel_rfl) ?_
  clear S; intro ac w β S
  refine RG.done rfl (nx_then ?_)
  refine wp_seq ?_
  refine wp_seq ?_
  refine RG.start ?_
  refine S.quiet (k := 5) (keep := [0, 1, 10]) (m := 0) (σ' := ⟨[(0, .v (slv (a).length pa.1)), (1, .v (slv (b).length pb.1)), (10, .v (B (((a).length : Int) != ((b).length : Int))))], []⟩) .nil (by kernel_rfl) ?_
  clear S; intro ac w β S
  refine RG.done rfl (nx_then ?_)
  refine S.cond (e := (((a).length : Int) != ((b).length : Int))) (by kernel_rfl) (fun h1 => ?_) (fun h1 => ?_)
  · have g2 : ¬ (((a).length : Int) = ((b).length : Int)) := bne_iff_ne.1 h1
    refine wp_seq ?_
    refine RG.start ?_
    refine S.quiet (k := 1) (keep := [4]) (m := 0) (σ' := ⟨[(4, .v (B false))], []⟩) .nil (by kernel_rfl) ?_
    clear S; intro ac w β S
    refine RG.done rfl (nx_then ?_)
    refine wp_ret (rt_then ?_)
    refine S.ret (vs := [B false]) (by kernel_rfl) ?_
    exact ⟨retB (show false = decide (a = b) by clear S; first | (simp; intro e; subst e; simp_all; done) | (simp; rw [take_all (by omega), take_all (by omega)] at he; exact he) | (simp; exact take_ne (by simp_all))), S.chg⟩
  · have g3 : ((a).length : Int) = ((b).length : Int) := ne_f h1
    refine wp_skip (nx_then ?_)
    refine wp_seq ?_
    refine wp_seq ?_
    refine RG.start ?_
    refine S.quiet (k := 1) (keep := [0, 1, 5]) (m := 0) (σ' := ⟨[(0, .v (slv (a).length pa.1)), (1, .v (slv (b).length pb.1)), (5, .v (I 0))], []⟩) .nil (by kernel_rfl) ?_
    clear S; intro ac w β S
    refine RG.done rfl (nx_then ?_)
    refine wp_block ?_
    replace S := S.prune (keep := [0, 1, 5]) (m := 0) (σ' := ⟨[(0, .v (slv (a).length pa.1)), (1, .v (slv (b).length pb.1)), (5, .v (I 0))], []⟩) (by kernel_rfl)
    refine wp_loop_down (fun mm ac w => ∃ (k : Nat)  (u : World) (N : Bl) (β : Nat → Nat), mm = a.length - k ∧ (k ≤ a.length) ∧ (a.length = b.length) ∧ (a.take k = b.take k) ∧ St Go.Proofs.Try.prog Go.Proofs.Try.f40.ntmps w0 NoB u N β ⟨[(0, .v (slv (a).length pa.1)), (1, .v (slv (b).length pb.1)), (5, .v (I (k : Int)))], []⟩ ac w) _ ⟨0, _, _, _, rfl, (by first | omega | (simp; done) | (simp; omega)), (by first | omega | (simp; done) | (simp; omega)), (by simp), S.cast (by kernel_rfl)⟩ ?_
    clear S
    rintro mm ac w ⟨k, u, N, β, rfl, hk, hab, he, S⟩
    refine wp_seq ?_
    refine wp_seq ?_
    refine RG.start ?_
    refine S.quiet (k := 4) (keep := [0, 1, 5, 14]) (m := 0) (σ' := ⟨[(0, .v (slv (a).length pa.1)), (1, .v (slv (b).length pb.1)), (5, .v (I (k : Int))), (14, .v (B (decide ((k : Int) < ((a).length : Int)))))], []⟩) .nil (by kernel_rfl) ?_
    clear S; intro ac w β S
    refine RG.done rfl (nx_then ?_)
    refine S.cond (e := (decide ((k : Int) < ((a).length : Int)))) (by kernel_rfl) (fun h4 => ?_) (fun h4 => ?_)
    · have g5 : (k : Int) < ((a).length : Int) := of_decide_eq_true h4
      refine wp_skip (nx_then ?_)
      refine wp_seq ?_
      refine wp_block ?_
      refine wp_seq ?_
      refine S.drawn (keep := [0, 1, 5, 26]) (m := 0) (σ' := ⟨[(0, .v (slv (a).length pa.1)), (1, .v (slv (b).length pb.1)), (5, .v (I (k : Int))), (26, .v (B (!(decide ((el a k) = (el b k))))))], []⟩) (.cons (Q_idx (S.arg ha) (l := (a).length) (k := k) (i := (k : Int)) rfl rfl (by omega) Go.Proofs.Try.underlying30 (by kernel_rfl)) (.cons (Q_el (S.arg ha) (t := 52) (k := k) (by omega) rfl (by kernel_rfl) (by kernel_rfl)) (.cons (Q_idx (S.arg hb) (l := (b).length) (k := k) (i := (k : Int)) rfl rfl (by omega) Go.Proofs.Try.underlying30 (by kernel_rfl)) (.cons (Q_el (S.arg hb) (t := 52) (k := k) (by omega) rfl (by kernel_rfl) (by kernel_rfl)) (.cons (Q_call fun w hw => c_laws_eqMon w (el a k) (pa.2 k) (rd_of (LRd.el (S.arg ha) k (by omega)) hw) (el b k) (pb.2 k) (rd_of (LRd.el (S.arg hb) k (by omega)) hw)) .nil))))) rfl (by kernel_rfl) (by kernel_rfl) ?_
      clear S; intro ac w S
      refine id (nx_then ?_)
      refine S.cond (e := (!(decide ((el a k) = (el b k))))) (by kernel_rfl) (fun h6 => ?_) (fun h6 => ?_)
      · have h7 : (decide ((el a k) = (el b k))) = false := not_t h6
        have g8 := of_decide_eq_false h7
        refine wp_seq ?_
        refine RG.start ?_
        refine S.quiet (k := 1) (keep := [4]) (m := 0) (σ' := ⟨[(4, .v (B false))], []⟩) .nil (by kernel_rfl) ?_
        clear S; intro ac w β S
        refine RG.done rfl (nx_then ?_)
        refine wp_ret (rt_block (rt_then (rt_then (rt_block (rt_then ?_)))))
        refine S.ret (vs := [B false]) (by kernel_rfl) ?_
        exact ⟨retB (show false = decide (a = b) by clear S; first | (simp; intro e; subst e; simp_all; done) | (simp; rw [take_all (by omega), take_all (by omega)] at he; exact he) | (simp; exact take_ne (by simp_all))), S.chg⟩
      · have h9 : (decide ((el a k) = (el b k))) = true := not_f h6
        have g10 := of_decide_eq_true h9
        refine wp_skip (nx_block (nx_then ?_))
        refine RG.start ?_
        refine S.quiet (k := 3) (keep := [0, 1, 5]) (m := 0) (σ' := ⟨[(0, .v (slv (a).length pa.1)), (1, .v (slv (b).length pb.1)), (5, .v (I ((k : Int) + 1)))], []⟩) (.cons (Q_add (x := (k : Int)) (y := 1) ⟨by omega, by omega⟩) .nil) (by kernel_rfl) ?_
        clear S; intro ac w β S
        refine RG.done rfl (nx_then ?_)
        replace S := S.prune (keep := [0, 1, 5]) (m := 0) (σ' := ⟨[(0, .v (slv (a).length pa.1)), (1, .v (slv (b).length pb.1)), (5, .v (I ((k : Int) + 1)))], []⟩) (by kernel_rfl)
        refine ⟨a.length - (k + 1), by omega, k + 1, _, _, _, rfl, ?_, ?_, ?_, S.cast (by kernel_rfl)⟩
        · clear S; first | omega | (simp [*]; done) | (simp [*]; omega)
        · clear S; first | omega | (simp [*]; done) | (simp [*]; omega)
        · clear S; exact take_eq_step (by omega) (by omega) he (by simp_all)
    · have g11 : ¬ ((k : Int) < ((a).length : Int)) := of_decide_eq_false h4
      refine wp_exit (ex_then (ex_then (ex_hit (nx_then ?_))))
      refine wp_seq ?_
      refine RG.start ?_
      refine S.quiet (k := 1) (keep := [4]) (m := 0) (σ' := ⟨[(4, .v (B true))], []⟩) .nil (by kernel_rfl) ?_
      clear S; intro ac w β S
      refine RG.done rfl (nx_then ?_)
      refine wp_ret ?_
      refine S.ret (vs := [B true]) (by kernel_rfl) ?_
      exact ⟨retB (show true = decide (a = b) by clear S; first | (simp; intro e; subst e; simp_all; done) | (simp; rw [take_all (by omega), take_all (by omega)] at he; exact he) | (simp; exact take_ne (by simp_all))), S.chg⟩

set_option maxRecDepth 100000 in
theorem c_laws_eqEntry (w0 : World) (a : TEntry) (b : TEntry) : Calls Go.Proofs.Try.prog 79 [GT.val (α := TEntry) a (), GT.val (α := TEntry) b ()].toArray w0 (fun e w' => e = .returned (B (decide (a = b))) ∧ Chg NoB w0 w') := by
  refine Calls.walk (args := [GT.val (α := TEntry) a (), GT.val (α := TEntry) b ()]) NoB Go.Proofs.Try.func79 rfl rfl ?_
  intro ac β S
  refine wp_seq ?_
  refine RG.start ?_
  refine S.quiet (k := 3) (keep := [2, 3]) (m := 2) (σ' := ⟨[(2, .p 0 0), (3, .p 1 0)], [GT.cells (α := TEntry) a (), GT.cells (α := TEntry) b ()]⟩) .nil (by kernel_rfl) ?_
  clear S; intro ac w β S
  refine RG.done rfl (nx_then ?_)
  refine wp_seq ?_
  refine wp_seq ?_
  refine RG.start ?_
  refine S.quiet (k := 5) (keep := [2, 3, 9]) (m := 2) (σ' := ⟨[(2, .p 0 0), (3, .p 1 0), (9, .v (B (a.tag != b.tag)))], [GT.cells (α := TEntry) a (), GT.cells (α := TEntry) b ()]⟩) .nil (by kernel_rfl) ?_
  clear S; intro ac w β S
  refine RG.done rfl (nx_then ?_)
  refine S.cond (e := (a.tag != b.tag)) (by kernel_rfl) (fun h1 => ?_) (fun h1 => ?_)
  · have g2 : ¬ (a.tag = b.tag) := bne_iff_ne.1 h1
    refine wp_seq ?_
    refine RG.start ?_
    refine S.quiet (k := 1) (keep := [4]) (m := 0) (σ' := ⟨[(4, .v (B false))], []⟩) .nil (by kernel_rfl) ?_
    clear S; intro ac w β S
    refine RG.done rfl (nx_then ?_)
    refine wp_ret (rt_then ?_)
    refine S.ret (vs := [B false]) (by kernel_rfl) ?_
    exact ⟨retB (show false = decide (a = b) by clear S; first | (simp [TEntry.ext_iff, *]; done) | (simp_all [TEntry.ext_iff]; done)), S.chg⟩
  · have g3 : a.tag = b.tag := ne_f h1
    refine wp_skip (nx_then ?_)
    refine wp_seq ?_
    refine wp_seq ?_
    refine RG.start ?_
    refine S.quiet (k := 5) (keep := [2, 3, 14]) (m := 2) (σ' := ⟨[(2, .p 0 0), (3, .p 1 0), (14, .v (B (a.page != b.page)))], [GT.cells (α := TEntry) a (), GT.cells (α := TEntry) b ()]⟩) .nil (by kernel_rfl) ?_
    clear S; intro ac w β S
    refine RG.done rfl (nx_then ?_)
    refine S.cond (e := (a.page != b.page)) (by kernel_rfl) (fun h4 => ?_) (fun h4 => ?_)
    · have g5 : ¬ (a.page = b.page) := bne_iff_ne.1 h4
      refine wp_seq ?_
      refine RG.start ?_
      refine S.quiet (k := 1) (keep := [4]) (m := 0) (σ' := ⟨[(4, .v (B false))], []⟩) .nil (by kernel_rfl) ?_
      clear S; intro ac w β S
      refine RG.done rfl (nx_then ?_)
      refine wp_ret (rt_then ?_)
      refine S.ret (vs := [B false]) (by kernel_rfl) ?_
      exact ⟨retB (show false = decide (a = b) by clear S; first | (simp [TEntry.ext_iff, *]; done) | (simp_all [TEntry.ext_iff]; done)), S.chg⟩
    · have g6 : a.page = b.page := ne_f h4
      refine wp_skip (nx_then ?_)
      refine wp_seq ?_
      refine wp_seq ?_
      refine RG.start ?_
      refine S.quiet (k := 5) (keep := [2, 3, 19]) (m := 2) (σ' := ⟨[(2, .p 0 0), (3, .p 1 0), (19, .v (B (a.host != b.host)))], [GT.cells (α := TEntry) a (), GT.cells (α := TEntry) b ()]⟩) .nil (by kernel_rfl) ?_
      clear S; intro ac w β S
      refine RG.done rfl (nx_then ?_)
      refine S.cond (e := (a.host != b.host)) (by kernel_rfl) (fun h7 => ?_) (fun h7 => ?_)
      · have g8 : ¬ (a.host = b.host) := bne_iff_ne.1 h7
        refine wp_seq ?_
        refine RG.start ?_
        refine S.quiet (k := 1) (keep := [4]) (m := 0) (σ' := ⟨[(4, .v (B false))], []⟩) .nil (by kernel_rfl) ?_
        clear S; intro ac w β S
        refine RG.done rfl (nx_then ?_)
        refine wp_ret (rt_then ?_)
        refine S.ret (vs := [B false]) (by kernel_rfl) ?_
        exact ⟨retB (show false = decide (a = b) by clear S; first | (simp [TEntry.ext_iff, *]; done) | (simp_all [TEntry.ext_iff]; done)), S.chg⟩
      · have g9 : a.host = b.host := ne_f h7
        refine wp_skip (nx_then ?_)
        refine wp_seq ?_
        refine wp_seq ?_
        refine RG.start ?_
        refine S.quiet (k := 5) (keep := [24]) (m := 0) (σ' := ⟨[(24, .v (B (a.rights != b.rights)))], []⟩) .nil (by kernel_rfl) ?_
        clear S; intro ac w β S
        refine RG.done rfl (nx_then ?_)
        refine S.cond (e := (a.rights != b.rights)) (by kernel_rfl) (fun h10 => ?_) (fun h10 => ?_)
        · have g11 : ¬ (a.rights = b.rights) := bne_iff_ne.1 h10
          refine wp_seq ?_
          refine RG.start ?_
          refine S.quiet (k := 1) (keep := [4]) (m := 0) (σ' := ⟨[(4, .v (B false))], []⟩) .nil (by kernel_rfl) ?_
          clear S; intro ac w β S
          refine RG.done rfl (nx_then ?_)
          refine wp_ret (rt_then ?_)
          refine S.ret (vs := [B false]) (by kernel_rfl) ?_
          exact ⟨retB (show false = decide (a = b) by clear S; first | (simp [TEntry.ext_iff, *]; done) | (simp_all [TEntry.ext_iff]; done)), S.chg⟩
        · have g12 : a.rights = b.rights := ne_f h10
          refine wp_skip (nx_then ?_)
          refine wp_seq ?_
          refine RG.start ?_
          refine S.quiet (k := 1) (keep := [4]) (m := 0) (σ' := ⟨[(4, .v (B true))], []⟩) .nil (by kernel_rfl) ?_
          clear S; intro ac w β S
          refine RG.done rfl (nx_then ?_)
          refine wp_ret ?_
          refine S.ret (vs := [B true]) (by kernel_rfl) ?_
          exact ⟨retB (show true = decide (a = b) by clear S; first | (simp [TEntry.ext_iff, *]; done) | (simp_all [TEntry.ext_iff]; done)), S.chg⟩

set_option maxRecDepth 100000 in
theorem c_laws_eqEntryS (w0 : World) (a : List TEntry) (pa : LP TEntry) (ha : GT.rd KK (Lt w0.heap.size) w0 a pa) (b : List TEntry) (pb : LP TEntry) (hb : GT.rd KK (Lt w0.heap.size) w0 b pb) : Calls Go.Proofs.Try.prog 41 [slv (a).length pa.1, slv (b).length pb.1].toArray w0 (fun e w' => e = .returned (B (decide (a = b))) ∧ Chg NoB w0 w') := by
  refine Calls.walk (args := [slv (a).length pa.1, slv (b).length pb.1]) NoB Go.Proofs.Try.func41 rfl rfl ?_
  intro ac β S
  have hlea : a.length ≤ 4194304 := LRd.le ha
  have hleb : b.length ≤ 4194304 := LRd.le hb
  refine wp_seq ?_
  refine RG.start ?_
  refine S.quiet (k := 1) (keep := [0, 1]) (m := 0) (σ' := ⟨[(0, .v (slv (a).length pa.1)), (1, .v (slv (b).length pb.1))], []⟩) .nil (by kernel_rfl) ?_
  clear S; intro ac w β S
  refine RG.done rfl (nx_then ?_)
  refine wp_seq ?_
  refine wp_seq ?_
  refine RG.start ?_
  refine S.quiet (k := 5) (keep := [0, 1, 10]) (m := 0) (σ' := ⟨[(0, .v (slv (a).length pa.1)), (1, .v (slv (b).length pb.1)), (10, .v (B (((a).length : Int) != ((b).length : Int))))], []⟩) .nil (by kernel_rfl) ?_
  clear S; intro ac w β S
  refine RG.done rfl (nx_then ?_)
  refine S.cond (e := (((a).length : Int) != ((b).length : Int))) (by kernel_rfl) (fun h1 => ?_) (fun h1 => ?_)
  · have g2 : ¬ (((a).length : Int) = ((b).length : Int)) := bne_iff_ne.1 h1
    refine wp_seq ?_
    refine RG.start ?_
    refine S.quiet (k := 1) (keep := [4]) (m := 0) (σ' := ⟨[(4, .v (B false))], []⟩) .nil (by kernel_rfl) ?_
    clear S; intro ac w β S
    refine RG.done rfl (nx_then ?_)
    refine wp_ret (rt_then ?_)
    refine S.ret (vs := [B false]) (by kernel_rfl) ?_
    exact ⟨retB (show false = decide (a = b) by clear S; first | (simp; intro e; subst e; simp_all; done) | (simp; rw [take_all (by omega), take_all (by omega)] at he; exact he) | (simp; exact take_ne (by simp_all))), S.chg⟩
  · have g3 : ((a).length : Int) = ((b).length : Int) := ne_f h1
    refine wp_skip (nx_then ?_)
    refine wp_seq ?_
    refine wp_seq ?_
    refine RG.start ?_
    refine S.quiet (k := 1) (keep := [0, 1, 5]) (m := 0) (σ' := ⟨[(0, .v (slv (a).length pa.1)), (1, .v (slv (b).length pb.1)), (5, .v (I 0))], []⟩) .nil (by kernel_rfl) ?_
    clear S; intro ac w β S
    refine RG.done rfl (nx_then ?_)
    refine wp_block ?_
    replace S := S.prune (keep := [0, 1, 5]) (m := 0) (σ' := ⟨[(0, .v (slv (a).length pa.1)), (1, .v (slv (b).length pb.1)), (5, .v (I 0))], []⟩) (by kernel_rfl)
    refine wp_loop_down (fun mm ac w => ∃ (k : Nat)  (u : World) (N : Bl) (β : Nat → Nat), mm = a.length - k ∧ (k ≤ a.length) ∧ (a.length = b.length) ∧ (a.take k = b.take k) ∧ St Go.Proofs.Try.prog Go.Proofs.Try.f41.ntmps w0 NoB u N β ⟨[(0, .v (slv (a).length pa.1)), (1, .v (slv (b).length pb.1)), (5, .v (I (k : Int)))], []⟩ ac w) _ ⟨0, _, _, _, rfl, (by first | omega | (simp; done) | (simp; omega)), (by first | omega | (simp; done) | (simp; omega)), (by simp), S.cast (by kernel_rfl)⟩ ?_
    clear S
    rintro mm ac w ⟨k, u, N, β, rfl, hk, hab, he, S⟩
    refine wp_seq ?_
    refine wp_seq ?_
    refine RG.start ?_
    refine S.quiet (k := 4) (keep := [0, 1, 5, 14]) (m := 0) (σ' := ⟨[(0, .v (slv (a).length pa.1)), (1, .v (slv (b).length pb.1)), (5, .v (I (k : Int))), (14, .v (B (decide ((k : Int) < ((a).length : Int)))))], []⟩) .nil (by kernel_rfl) ?_
    clear S; intro ac w β S
    refine RG.done rfl (nx_then ?_)
    refine S.cond (e := (decide ((k : Int) < ((a).length : Int)))) (by kernel_rfl) (fun h4 => ?_) (fun h4 => ?_)
    · have g5 : (k : Int) < ((a).length : Int) := of_decide_eq_true h4
      refine wp_skip (nx_then ?_)
      refine wp_seq ?_
      refine wp_block ?_
      refine wp_seq ?_
      refine S.drawn (keep := [0, 1, 5, 26]) (m := 0) (σ' := ⟨[(0, .v (slv (a).length pa.1)), (1, .v (slv (b).length pb.1)), (5, .v (I (k : Int))), (26, .v (B (!(decide ((el a k) = (el b k))))))], []⟩) (.cons (Q_idx (S.arg ha) (l := (a).length) (k := k) (i := (k : Int)) rfl rfl (by omega) Go.Proofs.Try.underlying31 (by kernel_rfl)) (.cons (Q_el (S.arg ha) (t := 111) (k := k) (by omega) rfl (by kernel_rfl) (by kernel_rfl)) (.cons (Q_idx (S.arg hb) (l := (b).length) (k := k) (i := (k : Int)) rfl rfl (by omega) Go.Proofs.Try.underlying31 (by kernel_rfl)) (.cons (Q_el (S.arg hb) (t := 111) (k := k) (by omega) rfl (by kernel_rfl) (by kernel_rfl)) (.cons (Q_call fun w hw => c_laws_eqEntry w (el a k) (el b k)) .nil))))) rfl (by kernel_rfl) (by kernel_rfl) ?_
      clear S; intro ac w S
      refine id (nx_then ?_)
      refine S.cond (e := (!(decide ((el a k) = (el b k))))) (by kernel_rfl) (fun h6 => ?_) (fun h6 => ?_)
      · have h7 : (decide ((el a k) = (el b k))) = false := not_t h6
        have g8 := of_decide_eq_false h7
        refine wp_seq ?_
        refine RG.start ?_
        refine S.quiet (k := 1) (keep := [4]) (m := 0) (σ' := ⟨[(4, .v (B false))], []⟩) .nil (by kernel_rfl) ?_
        clear S; intro ac w β S
        refine RG.done rfl (nx_then ?_)
        refine wp_ret (rt_block (rt_then (rt_then (rt_block (rt_then ?_)))))
        refine S.ret (vs := [B false]) (by kernel_rfl) ?_
        exact ⟨retB (show false = decide (a = b) by clear S; first | (simp; intro e; subst e; simp_all; done) | (simp; rw [take_all (by omega), take_all (by omega)] at he; exact he) | (simp; exact take_ne (by simp_all))), S.chg⟩
      · have h9 : (decide ((el a k) = (el b k))) = true := not_f h6
        have g10 := of_decide_eq_true h9
        refine wp_skip (nx_block (nx_then ?_))
        refine RG.start ?_
        refine S.quiet (k := 3) (keep := [0, 1, 5]) (m := 0) (σ' := ⟨[(0, .v (slv (a).length pa.1)), (1, .v (slv (b).length pb.1)), (5, .v (I ((k : Int) + 1)))], []⟩) (.cons (Q_add (x := (k : Int)) (y := 1) ⟨by omega, by omega⟩) .nil) (by kernel_rfl) ?_
        clear S; intro ac w β S
        refine RG.done rfl (nx_then ?_)
        replace S := S.prune (keep := [0, 1, 5]) (m := 0) (σ' := ⟨[(0, .v (slv (a).length pa.1)), (1, .v (slv (b).length pb.1)), (5, .v (I ((k : Int) + 1)))], []⟩) (by kernel_rfl)
        refine ⟨a.length - (k + 1), by omega, k + 1, _, _, _, rfl, ?_, ?_, ?_, S.cast (by kernel_rfl)⟩
        · clear S; first | omega | (simp [*]; done) | (simp [*]; omega)
        · clear S; first | omega | (simp [*]; done) | (simp [*]; omega)
        · clear S; exact take_eq_step (by omega) (by omega) he (by simp_all)
    · have g11 : ¬ ((k : Int) < ((a).length : Int)) := of_decide_eq_false h4
      refine wp_exit (ex_then (ex_then (ex_hit (nx_then ?_))))
      refine wp_seq ?_
      refine RG.start ?_
      refine S.quiet (k := 1) (keep := [4]) (m := 0) (σ' := ⟨[(4, .v (B true))], []⟩) .nil (by kernel_rfl) ?_
      clear S; intro ac w β S
      refine RG.done rfl (nx_then ?_)
      refine wp_ret ?_
      refine S.ret (vs := [B true]) (by kernel_rfl) ?_
      exact ⟨retB (show true = decide (a = b) by clear S; first | (simp; intro e; subst e; simp_all; done) | (simp; rw [take_all (by omega), take_all (by omega)] at he; exact he) | (simp; exact take_ne (by simp_all))), S.chg⟩

set_option maxRecDepth 100000 in
theorem c_laws_eqHost (w0 : World) (a : THost) (pa : PHost) (ha : GT.rd KK (Lt w0.heap.size) w0 a pa) (b : THost) (pb : PHost) (hb : GT.rd KK (Lt w0.heap.size) w0 b pb) : Calls Go.Proofs.Try.prog 13 [GT.val (α := THost) a pa, GT.val (α := THost) b pb].toArray w0 (fun e w' => e = .returned (B (decide (a = b))) ∧ Chg NoB w0 w') := by
  refine Calls.walk (args := [GT.val (α := THost) a pa, GT.val (α := THost) b pb]) NoB Go.Proofs.Try.func13 rfl rfl ?_
  intro ac β S
  have hlea_mem : a.mem.length ≤ 4194304 := LRd.le (RHost.mem (d := a) ha)
  have hlea_mons : a.mons.length ≤ 4194304 := LRd.le (RHost.mons (d := a) ha)
  have hlea_buf : a.buf.length ≤ 4194304 := LRd.le (RHost.buf (d := a) ha)
  have hlea_iobuf : a.iobuf.length ≤ 4194304 := LRd.le (RHost.iobuf (d := a) ha)
  have hleb_mem : b.mem.length ≤ 4194304 := LRd.le (RHost.mem (d := b) hb)
  have hleb_mons : b.mons.length ≤ 4194304 := LRd.le (RHost.mons (d := b) hb)
  have hleb_buf : b.buf.length ≤ 4194304 := LRd.le (RHost.buf (d := b) hb)
  have hleb_iobuf : b.iobuf.length ≤ 4194304 := LRd.le (RHost.iobuf (d := b) hb)
  refine wp_seq ?_
  refine RG.start ?_
  refine S.quiet (k := 3) (keep := [2, 3]) (m := 2) (σ' := ⟨[(2, .p 0 0), (3, .p 1 0)], [GT.cells (α := THost) a pa, GT.cells (α := THost) b pb]⟩) .nil (by kernel_rfl) ?_
  clear S; intro ac w β S
  refine RG.done rfl (nx_then ?_)
  refine wp_seq ?_
  refine wp_seq ?_
  refine RG.start ?_
  refine S.quiet (k := 6) (keep := [2, 3, 10]) (m := 2) (σ' := ⟨[(2, .p 0 0), (3, .p 1 0), (10, .v (B (!(decide (a.mem = b.mem)))))], [GT.cells (α := THost) a pa, GT.cells (α := THost) b pb]⟩) (.cons (Q_call fun w hw => c_laws_eqIntSS w a.mem pa.mem (rd_of (RHost.mem (d := a) (S.arg ha)) hw) b.mem pb.mem (rd_of (RHost.mem (d := b) (S.arg hb)) hw)) .nil) (by kernel_rfl) ?_
  clear S; intro ac w β S
  refine RG.done rfl (nx_then ?_)
  refine S.cond (e := (!(decide (a.mem = b.mem)))) (by kernel_rfl) (fun h1 => ?_) (fun h1 => ?_)
  · have h2 : (decide (a.mem = b.mem)) = false := not_t h1
    have g3 := of_decide_eq_false h2
    refine wp_seq ?_
    refine RG.start ?_
    refine S.quiet (k := 1) (keep := [4]) (m := 0) (σ' := ⟨[(4, .v (B false))], []⟩) .nil (by kernel_rfl) ?_
    clear S; intro ac w β S
    refine RG.done rfl (nx_then ?_)
    refine wp_ret (rt_then ?_)
    refine S.ret (vs := [B false]) (by kernel_rfl) ?_
    exact ⟨retB (show false = decide (a = b) by clear S; first | (simp [THost.ext_iff, *]; done) | (simp_all [THost.ext_iff]; done)), S.chg⟩
  · have h4 : (decide (a.mem = b.mem)) = true := not_f h1
    have g5 := of_decide_eq_true h4
    refine wp_skip (nx_then ?_)
    refine wp_seq ?_
    refine wp_seq ?_
    refine RG.start ?_
    refine S.quiet (k := 6) (keep := [2, 3, 16]) (m := 2) (σ' := ⟨[(2, .p 0 0), (3, .p 1 0), (16, .v (B (!(decide (a.mons = b.mons)))))], [GT.cells (α := THost) a pa, GT.cells (α := THost) b pb]⟩) (.cons (Q_call fun w hw => c_laws_eqMonS w a.mons pa.mons (rd_of (RHost.mons (d := a) (S.arg ha)) hw) b.mons pb.mons (rd_of (RHost.mons (d := b) (S.arg hb)) hw)) .nil) (by kernel_rfl) ?_
    clear S; intro ac w β S
    refine RG.done rfl (nx_then ?_)
    refine S.cond (e := (!(decide (a.mons = b.mons)))) (by kernel_rfl) (fun h6 => ?_) (fun h6 => ?_)
    · have h7 : (decide (a.mons = b.mons)) = false := not_t h6
      have g8 := of_decide_eq_false h7
      refine wp_seq ?_
      refine RG.start ?_
      refine S.quiet (k := 1) (keep := [4]) (m := 0) (σ' := ⟨[(4, .v (B false))], []⟩) .nil (by kernel_rfl) ?_
      clear S; intro ac w β S
      refine RG.done rfl (nx_then ?_)
      refine wp_ret (rt_then ?_)
      refine S.ret (vs := [B false]) (by kernel_rfl) ?_
      exact ⟨retB (show false = decide (a = b) by clear S; first | (simp [THost.ext_iff, *]; done) | (simp_all [THost.ext_iff]; done)), S.chg⟩
    · have h9 : (decide (a.mons = b.mons)) = true := not_f h6
      have g10 := of_decide_eq_true h9
      refine wp_skip (nx_then ?_)
      refine wp_seq ?_
      refine wp_seq ?_
      refine RG.start ?_
      refine S.quiet (k := 6) (keep := [2, 3, 22]) (m := 2) (σ' := ⟨[(2, .p 0 0), (3, .p 1 0), (22, .v (B (!(decide (a.buf = b.buf)))))], [GT.cells (α := THost) a pa, GT.cells (α := THost) b pb]⟩) (.cons (Q_call fun w hw => c_laws_eqEntryS w a.buf pa.buf (rd_of (RHost.buf (d := a) (S.arg ha)) hw) b.buf pb.buf (rd_of (RHost.buf (d := b) (S.arg hb)) hw)) .nil) (by kernel_rfl) ?_
      clear S; intro ac w β S
      refine RG.done rfl (nx_then ?_)
      refine S.cond (e := (!(decide (a.buf = b.buf)))) (by kernel_rfl) (fun h11 => ?_) (fun h11 => ?_)
      · have h12 : (decide (a.buf = b.buf)) = false := not_t h11
        have g13 := of_decide_eq_false h12
        refine wp_seq ?_
        refine RG.start ?_
        refine S.quiet (k := 1) (keep := [4]) (m := 0) (σ' := ⟨[(4, .v (B false))], []⟩) .nil (by kernel_rfl) ?_
        clear S; intro ac w β S
        refine RG.done rfl (nx_then ?_)
        refine wp_ret (rt_then ?_)
        refine S.ret (vs := [B false]) (by kernel_rfl) ?_
        exact ⟨retB (show false = decide (a = b) by clear S; first | (simp [THost.ext_iff, *]; done) | (simp_all [THost.ext_iff]; done)), S.chg⟩
      · have h14 : (decide (a.buf = b.buf)) = true := not_f h11
        have g15 := of_decide_eq_true h14
        refine wp_skip (nx_then ?_)
        refine wp_seq ?_
        refine wp_seq ?_
        refine RG.start ?_
        refine S.quiet (k := 6) (keep := [28]) (m := 0) (σ' := ⟨[(28, .v (B (!(decide (a.iobuf = b.iobuf)))))], []⟩) (.cons (Q_call fun w hw => c_laws_eqEntryS w a.iobuf pa.iobuf (rd_of (RHost.iobuf (d := a) (S.arg ha)) hw) b.iobuf pb.iobuf (rd_of (RHost.iobuf (d := b) (S.arg hb)) hw)) .nil) (by kernel_rfl) ?_
        clear S; intro ac w β S
        refine RG.done rfl (nx_then ?_)
        refine S.cond (e := (!(decide (a.iobuf = b.iobuf)))) (by kernel_rfl) (fun h16 => ?_) (fun h16 => ?_)
        · have h17 : (decide (a.iobuf = b.iobuf)) = false := not_t h16
          have g18 := of_decide_eq_false h17
          refine wp_seq ?_
          refine RG.start ?_
          refine S.quiet (k := 1) (keep := [4]) (m := 0) (σ' := ⟨[(4, .v (B false))], []⟩) .nil (by kernel_rfl) ?_
          clear S; intro ac w β S
          refine RG.done rfl (nx_then ?_)
          refine wp_ret (rt_then ?_)
          refine S.ret (vs := [B false]) (by kernel_rfl) ?_
          exact ⟨retB (show false = decide (a = b) by clear S; first | (simp [THost.ext_iff, *]; done) | (simp_all [THost.ext_iff]; done)), S.chg⟩
        · have h19 : (decide (a.iobuf = b.iobuf)) = true := not_f h16
          have g20 := of_decide_eq_true h19
          refine wp_skip (nx_then ?_)
          refine wp_seq ?_
          refine RG.start ?_
          refine S.quiet (k := 1) (keep := [4]) (m := 0) (σ' := ⟨[(4, .v (B true))], []⟩) .nil (by kernel_rfl) ?_
          clear S; intro ac w β S
          refine RG.done rfl (nx_then ?_)
          refine wp_ret ?_
          refine S.ret (vs := [B true]) (by kernel_rfl) ?_
          exact ⟨retB (show true = decide (a = b) by clear S; first | (simp [THost.ext_iff, *]; done) | (simp_all [THost.ext_iff]; done)), S.chg⟩

set_option maxRecDepth 100000 in
theorem c_laws_FnExactOwnOf (w0 : World) (aH : THost) (paH : PHost) (haH : GT.rd KR (Lt w0.heap.size) w0 aH paH) (aM : Int) : Calls Go.Proofs.Try.prog 6 [GT.val (α := THost) aH paH, I aM].toArray w0 (fun e w' => e = .returned (B true) ∧ Chg NoB w0 w') := by
  refine Calls.walk (args := [GT.val (α := THost) aH paH, I aM]) NoB Go.Proofs.Try.func6 rfl rfl ?_
  intro ac β S
  refine wp_seq ?_
  refine RG.start ?_
  refine S.quiet (k := 2) (keep := [1, 2]) (m := 1) (σ' := ⟨[(1, .v (I aM)), (2, .p 0 0)], [GT.cells (α := THost) aH paH]⟩) .nil (by kernel_rfl) ?_
  clear S; intro ac w β S
  refine RG.done rfl (nx_then ?_)
  refine wp_seq ?_
  refine RG.start ?_
  refine S.quiet (k := 1) (keep := [1, 2, 5]) (m := 1) (σ' := ⟨[(1, .v (I aM)), (2, .p 0 0), (5, .v (I 1048576))], [GT.cells (α := THost) aH paH]⟩) .nil (by kernel_rfl) ?_
  clear S; intro ac w β S
  refine RG.done rfl (nx_then ?_)
  refine wp_seq ?_
  refine RG.start ?_
  have b1 := f_sz_cs (SZ.sz aH) 1048576
  refine S.quiet (k := 4) (keep := [1, 2, 5]) (m := 1) (σ' := ⟨[(1, .v (I aM)), (2, .p 0 0), (5, .v (I (f_sz (SZ.sz aH) 1048576)))], [GT.cells (α := THost) aH paH]⟩) (.cons (Q_call fun w hw => c_laws_szHost w aH paH (rd_of (S.arg haH) hw) 1048576 (by omega) (by omega)) .nil) (by kernel_rfl) ?_
  clear S; intro ac w β S
  refine RG.done rfl (nx_then ?_)
  refine wp_seq ?_
  refine wp_seq ?_
  refine RG.start ?_
  refine S.quiet (k := 2) (keep := [1, 2, 13]) (m := 1) (σ' := ⟨[(1, .v (I aM)), (2, .p 0 0), (13, .v (B (decide ((f_sz (SZ.sz aH) 1048576) < 0))))], [GT.cells (α := THost) aH paH]⟩) .nil (by kernel_rfl) ?_
  clear S; intro ac w β S
  refine RG.done rfl (nx_then ?_)
  refine S.cond (e := (decide ((f_sz (SZ.sz aH) 1048576) < 0))) (by kernel_rfl) (fun h2 => ?_) (fun h2 => ?_)
  · have g3 : (f_sz (SZ.sz aH) 1048576) < 0 := of_decide_eq_true h2
    refine wp_seq ?_
    refine RG.start ?_
    refine S.quiet (k := 1) (keep := [4]) (m := 0) (σ' := ⟨[(4, .v (B true))], []⟩) .nil (by kernel_rfl) ?_
    clear S; intro ac w β S
    refine RG.done rfl (nx_then ?_)
    refine wp_ret (rt_then ?_)
    refine S.ret (vs := [B true]) (by kernel_rfl) ?_
    exact ⟨retB (show true = true by clear S; first | rfl | (exfalso; omega) | (exfalso; simp_all; done) | (exfalso; simp_all; omega)), S.chg⟩
  · have g4 : ¬ ((f_sz (SZ.sz aH) 1048576) < 0) := of_decide_eq_false h2
    have hkaH : GT.rd KK (Lt w0.heap.size) w0 aH paH := SZ.cut haH (show SZ.sz aH ≤ 4194304 by omega)
    have hcaH : SZ.sz aH ≤ 1048576 := by omega
    refine wp_skip (nx_then ?_)
    refine wp_seq ?_
    refine RG.start ?_
    refine S.quiet (k := 1) (keep := [1, 2, 14]) (m := 1) (σ' := ⟨[(1, .v (I aM)), (2, .p 0 0), (14, .v (GT.val (α := THost) aH paH))], [GT.cells (α := THost) aH paH]⟩) .nil (by kernel_rfl) ?_
    clear S; intro ac w β S
    refine RG.op rfl (S.call1 (r := aH) (d := 15) (c_laws_toHost w aH paH (S.rd (S.arg hkaH))) (by kernel_rfl) rfl ?_)
    clear S; intro ac w N q5 F6 S up o7 d8
    clear up d8
    obtain ⟨F9, F12, F15, F18, o10, o13, o16, o19, s11, s14, s17, s20, d21, d22, d23, d24, d25, d26⟩ := sp_Host o7
    refine S.quiet (k := 3) (keep := [1, 2, 6]) (m := 1) (σ' := ⟨[(1, .v (I aM)), (2, .p 0 0), (6, .v (I (f_ownOf aH aM)))], [GT.cells (α := THost) aH paH]⟩) (.cons (Q_call fun w hw => c_spec_OwnOf w aH q5 (rd_of (show GT.rd KK _ _ aH q5 from ⟨o10.rn, o13.rn, o16.rn, o19.rn⟩) hw) aM) .nil) (by kernel_rfl) ?_
    clear S; intro ac w β S
    refine RG.done rfl (nx_then ?_)
    refine wp_seq ?_
    refine RG.start ?_
    refine S.quiet (k := 1) (keep := [1, 2, 6, 18]) (m := 1) (σ' := ⟨[(1, .v (I aM)), (2, .p 0 0), (6, .v (I (f_ownOf aH aM))), (18, .v (GT.val (α := THost) aH paH))], [GT.cells (α := THost) aH paH]⟩) .nil (by kernel_rfl) ?_
    clear S; intro ac w β S
    refine RG.op rfl (S.call1 (r := aH) (d := 19) (c_laws_toHost w aH paH (S.rd (S.arg hkaH))) (by kernel_rfl) rfl ?_)
    clear S; intro ac w N q27 F28 S up o29 d30
    clear up d30
    obtain ⟨F31, F34, F37, F40, o32, o35, o38, o41, s33, s36, s39, s42, d43, d44, d45, d46, d47, d48⟩ := sp_Host o29
    refine S.quiet (k := 2) (keep := [1, 2, 6, 7]) (m := 2) (σ' := ⟨[(1, .v (I aM)), (2, .p 0 0), (6, .v (I (f_ownOf aH aM))), (7, .p 1 0)], [GT.cells (α := THost) aH paH, [slv (aH.mem).length q27.mem.1, slv (aH.mons).length q27.mons.1, slv (aH.buf).length q27.buf.1, slv (aH.iobuf).length q27.iobuf.1]]⟩) .nil (by kernel_rfl) ?_
    clear S; intro ac w β S
    refine RG.done rfl (nx_then ?_)
    refine wp_seq ?_
    refine RG.start ?_
    refine S.quiet (k := 4) (keep := [2, 6, 7, 8]) (m := 2) (σ' := ⟨[(2, .p 0 0), (6, .v (I (f_ownOf aH aM))), (7, .p 1 0), (8, .v (I (f_ownOf aH aM)))], [GT.cells (α := THost) aH paH, [slv (aH.mem).length q27.mem.1, slv (aH.mons).length q27.mons.1, slv (aH.buf).length q27.buf.1, slv (aH.iobuf).length q27.iobuf.1]]⟩) (.cons (Q_call fun w hw => c_impl_OwnOf w aH q27 (rd_of (show GT.rd KK _ _ aH q27 from ⟨o32.rn, o35.rn, o38.rn, o41.rn⟩) hw) aM) .nil) (by kernel_rfl) ?_
    clear S; intro ac w β S
    refine RG.done rfl (nx_then ?_)
    refine wp_seq ?_
    refine wp_seq ?_
    refine RG.start ?_
    refine S.quiet (k := 3) (keep := [2, 7, 25]) (m := 2) (σ' := ⟨[(2, .p 0 0), (7, .p 1 0), (25, .v (B ((f_ownOf aH aM) != (f_ownOf aH aM))))], [GT.cells (α := THost) aH paH, [slv (aH.mem).length q27.mem.1, slv (aH.mons).length q27.mons.1, slv (aH.buf).length q27.buf.1, slv (aH.iobuf).length q27.iobuf.1]]⟩) .nil (by kernel_rfl) ?_
    clear S; intro ac w β S
    refine RG.done rfl (nx_then ?_)
    refine S.cond (e := ((f_ownOf aH aM) != (f_ownOf aH aM))) (by kernel_rfl) (fun h49 => ?_) (fun h49 => ?_)
    · have g50 : ¬ ((f_ownOf aH aM) = (f_ownOf aH aM)) := bne_iff_ne.1 h49
      refine wp_seq ?_
      refine RG.start ?_
      refine S.quiet (k := 1) (keep := [4]) (m := 0) (σ' := ⟨[(4, .v (B false))], []⟩) .nil (by kernel_rfl) ?_
      clear S; intro ac w β S
      refine RG.done rfl (nx_then ?_)
      refine wp_ret (rt_then ?_)
      refine S.ret (vs := [B false]) (by kernel_rfl) ?_
      exact ⟨retB (show false = true by clear S; first | rfl | (exfalso; omega) | (exfalso; simp_all; done) | (exfalso; simp_all; omega)), S.chg⟩
    · have g51 : (f_ownOf aH aM) = (f_ownOf aH aM) := ne_f h49
      refine wp_skip (nx_then ?_)
      refine wp_seq ?_
      refine wp_seq ?_
      refine S.draw0 (f := 5) 5 rfl rfl ?_
      clear S; intro w S
      refine S.hoist (i := 0) (path := []) (keep := [2, 26]) (m := 2) (σ' := ⟨[(2, .p 0 0), (26, .v (GT.val (α := THost) aH q27))], [GT.cells (α := THost) aH paH, [slv (aH.mem).length q27.mem.1, slv (aH.mons).length q27.mons.1, slv (aH.buf).length q27.buf.1, slv (aH.iobuf).length q27.iobuf.1]]⟩) (by kernel_rfl) (by kernel_rfl) .nil (by kernel_rfl) ?_
      clear S; intro ac S
      refine S.hoist (i := 1) (path := []) (keep := [26, 27]) (m := 2) (σ' := ⟨[(26, .v (GT.val (α := THost) aH q27)), (27, .v (GT.val (α := THost) aH paH))], [GT.cells (α := THost) aH paH, [slv (aH.mem).length q27.mem.1, slv (aH.mons).length q27.mons.1, slv (aH.buf).length q27.buf.1, slv (aH.iobuf).length q27.iobuf.1]]⟩) (by kernel_rfl) (by kernel_rfl) .nil (by kernel_rfl) ?_
      clear S; intro ac S
      refine WD.one (i := 2) (by kernel_rfl) ?_
      refine id (S.call1 (r := aH) (d := 28) (c_laws_toHost w aH paH (S.rd (S.arg hkaH))) (by kernel_rfl) rfl ?_)
      clear S; intro ac w N q52 F53 S up o54 d55
      refine WD.next S up rfl ?_
      have d56 : Disj F31 F53 := fun b x y => d55 b (o32.sub b x) y
      have d57 : Disj F34 F53 := fun b x y => d55 b (o35.sub b x) y
      have d58 : Disj F37 F53 := fun b x y => d55 b (o38.sub b x) y
      have d59 : Disj F40 F53 := fun b x y => d55 b (o41.sub b x) y
      replace o32 := o32.up up
      replace o35 := o35.up up
      replace o38 := o38.up up
      replace o41 := o41.up up
      clear up d55
      obtain ⟨F60, F63, F66, F69, o61, o64, o67, o70, s62, s65, s68, s71, d72, d73, d74, d75, d76, d77⟩ := sp_Host o54
      refine WD.one (i := 3) (by kernel_rfl) ?_
      refine S.stepq (i := 3) (keep := [29]) (m := 2) (σ' := ⟨[(29, .v (B (decide (aH = aH))))], [GT.cells (α := THost) aH paH, [slv (aH.mem).length q27.mem.1, slv (aH.mons).length q27.mons.1, slv (aH.buf).length q27.buf.1, slv (aH.iobuf).length q27.iobuf.1]]⟩) (.cons (Q_call fun w hw => c_laws_eqHost w aH q27 (rd_of (show GT.rd KK _ _ aH q27 from ⟨o32.rn, o35.rn, o38.rn, o41.rn⟩) hw) aH q52 (rd_of (show GT.rd KK _ _ aH q52 from ⟨o61.rn, o64.rn, o67.rn, o70.rn⟩) hw)) .nil) (by kernel_rfl) ?_
      clear S; intro ac w β S hβ
      refine WD.stay S hβ (fun _ _ h => h) ?_
      clear hβ
      refine S.hoist (i := 4) (path := []) (keep := [30]) (m := 2) (σ' := ⟨[(30, .v (B (!(decide (aH = aH)))))], [GT.cells (α := THost) aH paH, [slv (aH.mem).length q27.mem.1, slv (aH.mons).length q27.mons.1, slv (aH.buf).length q27.buf.1, slv (aH.iobuf).length q27.iobuf.1]]⟩) (by kernel_rfl) (by kernel_rfl) .nil (by kernel_rfl) ?_
      clear S; intro ac S
      refine WD.done (by kernel_rfl) ?_ _
      replace S := S.prune (keep := [30]) (m := 0) (σ' := ⟨[(30, .v (B (!(decide (aH = aH)))))], []⟩) (by kernel_rfl)
      refine id (nx_then ?_)
      refine S.cond (e := (!(decide (aH = aH)))) (by kernel_rfl) (fun h78 => ?_) (fun h78 => ?_)
      · have h79 : (decide (aH = aH)) = false := not_t h78
        have g80 := of_decide_eq_false h79
        refine wp_seq ?_
        refine RG.start ?_
        refine S.quiet (k := 1) (keep := [4]) (m := 0) (σ' := ⟨[(4, .v (B false))], []⟩) .nil (by kernel_rfl) ?_
        clear S; intro ac w β S
        refine RG.done rfl (nx_then ?_)
        refine wp_ret (rt_then ?_)
        refine S.ret (vs := [B false]) (by kernel_rfl) ?_
        exact ⟨retB (show false = true by clear S; first | rfl | (exfalso; omega) | (exfalso; simp_all; done) | (exfalso; simp_all; omega)), S.chg⟩
      · have h81 : (decide (aH = aH)) = true := not_f h78
        have g82 := of_decide_eq_true h81
        refine wp_skip (nx_then ?_)
        refine wp_seq ?_
        refine RG.start ?_
        refine S.quiet (k := 1) (keep := [4]) (m := 0) (σ' := ⟨[(4, .v (B true))], []⟩) .nil (by kernel_rfl) ?_
        clear S; intro ac w β S
        refine RG.done rfl (nx_then ?_)
        refine wp_ret ?_
        refine S.ret (vs := [B true]) (by kernel_rfl) ?_
        exact ⟨retB (show true = true by clear S; first | rfl | (exfalso; omega) | (exfalso; simp_all; done) | (exfalso; simp_all; omega)), S.chg⟩

end Go.Proofs.Ytollkfjcmiloiaa
