/- The walks: what each function that the laws reach computes (part 4). -/
import Derived.Test.YtacgkoohinlhjaaW3
import Derived.Test.YtacgkoohinlhjaaProg
import Derived.KernelRfl
namespace Go.Proofs.Ytacgkoohinlhjaa
open Go
set_option linter.unusedVariables false
set_option linter.unusedSimpArgs false

set_option maxRecDepth 100000 in
theorem c_laws_markEntryS (w0 : World) (a : List TEntry) (pa : LP TEntry) (F : Bl) (ha : GT.own KK F w0 a pa) (hF : ∀ b, F b → b < w0.heap.size) (k : Int) (pre0 : 0 ≤ k) (pre1 : k + 16 * (SZ.sz a : Int) ≤ 4611686018427387904) : Calls Go.Proofs.Try.prog 62 [slv (a).length pa.1, I k].toArray w0 (RetX hdl F w0 pa a k) := by
  refine Calls.walk (args := [slv (a).length pa.1, I k]) F Go.Proofs.Try.func62 rfl rfl ?_
  intro ac β S
  have oa : Ow w0 F w0 (Lt w0.heap.size) F a pa := ⟨ha, hF, fun b hb => .inr hb⟩
  have hz := szl_TEntry a
  have hlea : a.length ≤ 4194304 := LOwn.le ha
  refine wp_seq ?_
  refine RG.start ?_
  refine S.quiet (k := 1) (keep := [0, 1]) (m := 0) (σ' := ⟨[(0, .v (slv (a).length pa.1)), (1, .v (I k))], []⟩) .nil (by kernel_rfl) ?_
  clear S; intro ac w β S
  refine RG.done rfl (nx_then ?_)
  refine wp_seq ?_
  refine wp_seq ?_
  refine RG.start ?_
  refine S.quiet (k := 1) (keep := [0, 1, 5]) (m := 0) (σ' := ⟨[(0, .v (slv (a).length pa.1)), (1, .v (I k)), (5, .v (I 0))], []⟩) .nil (by kernel_rfl) ?_
  clear S; intro ac w β S
  refine RG.done rfl (nx_then ?_)
  refine wp_block ?_
  replace S := S.prune (keep := [0, 1, 5]) (m := 0) (σ' := ⟨[(0, .v (slv (a).length pa.1)), (1, .v (I k)), (5, .v (I 0))], []⟩) (by kernel_rfl)
  refine wp_loop_down (fun mm ac w => ∃ (i : Nat) (acc : List TEntry) (j : Int) (q1 : GT.Ptr (List TEntry)) (F2 : Bl) (u : World) (N : Bl) (β : Nat → Nat), mm = a.length - i ∧ (i ≤ a.length) ∧ (acc = f_marksEntry i k ++ a.drop i) ∧ (j = k + 4 * (i : Int)) ∧ St Go.Proofs.Try.prog Go.Proofs.Try.f62.ntmps w0 F u N β ⟨[(0, .v (slv a.length q1.1)), (1, .v (I j)), (5, .v (I (i : Int)))], []⟩ ac w ∧ Ow w0 F u N F2 acc q1 ∧ q1.1 = pa.1 ∧ (∀ b, F2 b → F b)) _ ⟨0, a, k, pa, F, _, _, _, rfl, (by first | omega | (simp; done) | (simp; omega)), (by simp [f_marksEntry]), (by simp), S.cast (by kernel_rfl), oa, rfl, (fun _ h => h)⟩ ?_
  clear S oa
  rintro mm ac w ⟨i, acc, j, q1, F2, u, N, β, rfl, hi, hacc, hj, S, o3, hq, hs⟩
  have hlacc : acc.length = a.length := by rw [hacc]; simp [f_marksEntry]; omega
  refine wp_seq ?_
  refine wp_seq ?_
  refine RG.start ?_
  refine S.quiet (k := 4) (keep := [0, 1, 5, 9]) (m := 0) (σ' := ⟨[(0, .v (slv a.length q1.1)), (1, .v (I j)), (5, .v (I (i : Int))), (9, .v (B (decide ((i : Int) < (a.length : Int)))))], []⟩) .nil (by kernel_rfl) ?_
  clear S; intro ac w β S
  refine RG.done rfl (nx_then ?_)
  refine S.cond (e := (decide ((i : Int) < (a.length : Int)))) (by kernel_rfl) (fun h4 => ?_) (fun h4 => ?_)
  · have g5 : (i : Int) < (a.length : Int) := of_decide_eq_true h4
    refine wp_skip (nx_then ?_)
    refine wp_seq ?_
    refine wp_block ?_
    refine wp_seq ?_
    refine RG.start ?_
    refine S.quiet (k := 5) (keep := [0, 1, 5, 14, 16]) (m := 0) (σ' := ⟨[(0, .v (slv a.length q1.1)), (1, .v (I j)), (5, .v (I (i : Int))), (14, .v (I j)), (16, .v (pt q1.1.b (q1.1.off + i * 4)))], []⟩) (.cons (Q_idx o3.rn (l := a.length) (k := i) (i := (i : Int)) (by rw [hacc]; simp [f_marksEntry]; omega) rfl (by omega) Go.Proofs.Try.underlying37 (by kernel_rfl)) .nil) (by kernel_rfl) ?_
    clear S; intro ac w β S
    have e6 : REntry (el acc i) := (LRd.el o3.rn i (by omega))
    refine RG.op rfl (S.setEl (α := TEntry) o3 (t := 3) (v := I j) (k := i) (j := 0) (off := q1.1.off + i * 4) (y := (⟨j, (el acc i).page, (el acc i).host, (el acc i).rights⟩ : TEntry)) (q := ()) (Fy := NoB) (by kernel_rfl) (by kernel_rfl) (by omega) (by kernel_rfl) (by kernel_rfl) (Nat.le_of_ble_eq_true (by kernel_rfl)) (by kernel_rfl) (fun _ _ _ => ⟨NoB, (show REntry (⟨j, (el acc i).page, (el acc i).host, (el acc i).rights⟩ : TEntry) from ⟨(show In64 j from ⟨by omega, by omega⟩), (REntry.page (d := (el acc i)) e6), (REntry.host (d := (el acc i)) e6), (REntry.rights (d := (el acc i)) e6)⟩), fun _ h => False.elim h⟩) (fun b _ h => False.elim h) (fun b h => False.elim h) (fun b h => False.elim h) ?_)
    clear S; intro w N F8 q9 S up o7 d10 s11
    have s12 : ∀ b, F8 b → F b := fun b h => (s11 b h).elim (hs b) (fun h => False.elim h)
    clear up d10 o3
    have l13 : (acc.set i (⟨j, (el acc i).page, (el acc i).host, (el acc i).rights⟩ : TEntry)).length = (acc).length := List.length_set
    replace S := S.prune (keep := [0, 1, 5]) (m := 0) (σ' := ⟨[(0, .v (slv a.length q1.1)), (1, .v (I j)), (5, .v (I (i : Int)))], []⟩) (by kernel_rfl)
    refine RG.done rfl (nx_then ?_)
    refine wp_seq ?_
    refine RG.start ?_
    refine S.quiet (k := 3) (keep := [0, 1, 5]) (m := 0) (σ' := ⟨[(0, .v (slv a.length q1.1)), (1, .v (I (j + 1))), (5, .v (I (i : Int)))], []⟩) (.cons (Q_add (x := j) (y := 1) ⟨by omega, by omega⟩) .nil) (by kernel_rfl) ?_
    clear S; intro ac w β S
    refine RG.done rfl (nx_then ?_)
    refine wp_seq ?_
    refine RG.start ?_
    refine S.quiet (k := 5) (keep := [0, 1, 5, 21, 23]) (m := 0) (σ' := ⟨[(0, .v (slv a.length q1.1)), (1, .v (I (j + 1))), (5, .v (I (i : Int))), (21, .v (I (j + 1))), (23, .v (pt q1.1.b (q1.1.off + i * 4 + 1)))], []⟩) (.cons (Q_idx o7.rn (l := a.length) (k := i) (i := (i : Int)) (by rw [List.length_set]; exact (by rw [hacc]; simp [f_marksEntry]; omega)) rfl (by omega) Go.Proofs.Try.underlying37 (by kernel_rfl)) .nil) (by kernel_rfl) ?_
    clear S; intro ac w β S
    refine RG.op rfl (S.setEl (α := TEntry) o7 (t := 3) (v := I (j + 1)) (k := i) (j := 1) (off := q1.1.off + i * 4 + 1) (y := (⟨j, (j + 1), (el acc i).host, (el acc i).rights⟩ : TEntry)) (q := ()) (Fy := NoB) (by kernel_rfl) (by kernel_rfl) (by omega) (by kernel_rfl) (by kernel_rfl) (Nat.le_of_ble_eq_true (by kernel_rfl)) (by rw [el_set_self (show i < (acc).length by omega)]; kernel_rfl) (fun _ _ _ => ⟨NoB, (show REntry (⟨j, (j + 1), (el acc i).host, (el acc i).rights⟩ : TEntry) from ⟨(show In64 j from ⟨by omega, by omega⟩), (show In64 (j + 1) from ⟨by omega, by omega⟩), (REntry.host (d := (el acc i)) e6), (REntry.rights (d := (el acc i)) e6)⟩), fun _ h => False.elim h⟩) (fun b _ h => False.elim h) (fun b h => False.elim h) (fun b h => False.elim h) ?_)
    clear S; intro w N F15 q16 S up o14 d17 s18
    have s19 : ∀ b, F15 b → F b := fun b h => (s18 b h).elim (s12 b) (fun h => False.elim h)
    clear up d17 o7
    rw [List.set_set] at o14
    have l20 : (acc.set i (⟨j, (j + 1), (el acc i).host, (el acc i).rights⟩ : TEntry)).length = (acc).length := List.length_set
    replace S := S.prune (keep := [0, 1, 5]) (m := 0) (σ' := ⟨[(0, .v (slv a.length q1.1)), (1, .v (I (j + 1))), (5, .v (I (i : Int)))], []⟩) (by kernel_rfl)
    refine RG.done rfl (nx_then ?_)
    refine wp_seq ?_
    refine RG.start ?_
    refine S.quiet (k := 3) (keep := [0, 1, 5]) (m := 0) (σ' := ⟨[(0, .v (slv a.length q1.1)), (1, .v (I ((j + 1) + 1))), (5, .v (I (i : Int)))], []⟩) (.cons (Q_add (x := (j + 1)) (y := 1) ⟨by omega, by omega⟩) .nil) (by kernel_rfl) ?_
    clear S; intro ac w β S
    refine RG.done rfl (nx_then ?_)
    refine wp_seq ?_
    refine RG.start ?_
    refine S.quiet (k := 5) (keep := [0, 1, 5, 28, 30]) (m := 0) (σ' := ⟨[(0, .v (slv a.length q1.1)), (1, .v (I ((j + 1) + 1))), (5, .v (I (i : Int))), (28, .v (I ((j + 1) + 1))), (30, .v (pt q1.1.b (q1.1.off + i * 4 + 2)))], []⟩) (.cons (Q_idx o14.rn (l := a.length) (k := i) (i := (i : Int)) (by rw [List.length_set]; exact (by rw [hacc]; simp [f_marksEntry]; omega)) rfl (by omega) Go.Proofs.Try.underlying37 (by kernel_rfl)) .nil) (by kernel_rfl) ?_
    clear S; intro ac w β S
    refine RG.op rfl (S.setEl (α := TEntry) o14 (t := 3) (v := I ((j + 1) + 1)) (k := i) (j := 2) (off := q1.1.off + i * 4 + 2) (y := (⟨j, (j + 1), ((j + 1) + 1), (el acc i).rights⟩ : TEntry)) (q := ()) (Fy := NoB) (by kernel_rfl) (by kernel_rfl) (by omega) (by kernel_rfl) (by kernel_rfl) (Nat.le_of_ble_eq_true (by kernel_rfl)) (by rw [el_set_self (show i < (acc).length by omega)]; kernel_rfl) (fun _ _ _ => ⟨NoB, (show REntry (⟨j, (j + 1), ((j + 1) + 1), (el acc i).rights⟩ : TEntry) from ⟨(show In64 j from ⟨by omega, by omega⟩), (show In64 (j + 1) from ⟨by omega, by omega⟩), (show In64 ((j + 1) + 1) from ⟨by omega, by omega⟩), (REntry.rights (d := (el acc i)) e6)⟩), fun _ h => False.elim h⟩) (fun b _ h => False.elim h) (fun b h => False.elim h) (fun b h => False.elim h) ?_)
    clear S; intro w N F22 q23 S up o21 d24 s25
    have s26 : ∀ b, F22 b → F b := fun b h => (s25 b h).elim (s19 b) (fun h => False.elim h)
    clear up d24 o14
    rw [List.set_set] at o21
    have l27 : (acc.set i (⟨j, (j + 1), ((j + 1) + 1), (el acc i).rights⟩ : TEntry)).length = (acc).length := List.length_set
    replace S := S.prune (keep := [0, 1, 5]) (m := 0) (σ' := ⟨[(0, .v (slv a.length q1.1)), (1, .v (I ((j + 1) + 1))), (5, .v (I (i : Int)))], []⟩) (by kernel_rfl)
    refine RG.done rfl (nx_then ?_)
    refine wp_seq ?_
    refine RG.start ?_
    refine S.quiet (k := 3) (keep := [0, 1, 5]) (m := 0) (σ' := ⟨[(0, .v (slv a.length q1.1)), (1, .v (I (((j + 1) + 1) + 1))), (5, .v (I (i : Int)))], []⟩) (.cons (Q_add (x := ((j + 1) + 1)) (y := 1) ⟨by omega, by omega⟩) .nil) (by kernel_rfl) ?_
    clear S; intro ac w β S
    refine RG.done rfl (nx_then ?_)
    refine wp_seq ?_
    refine RG.start ?_
    refine S.quiet (k := 5) (keep := [0, 1, 5, 35, 37]) (m := 0) (σ' := ⟨[(0, .v (slv a.length q1.1)), (1, .v (I (((j + 1) + 1) + 1))), (5, .v (I (i : Int))), (35, .v (I (((j + 1) + 1) + 1))), (37, .v (pt q1.1.b (q1.1.off + i * 4 + 3)))], []⟩) (.cons (Q_idx o21.rn (l := a.length) (k := i) (i := (i : Int)) (by rw [List.length_set]; exact (by rw [hacc]; simp [f_marksEntry]; omega)) rfl (by omega) Go.Proofs.Try.underlying37 (by kernel_rfl)) .nil) (by kernel_rfl) ?_
    clear S; intro ac w β S
    refine RG.op rfl (S.setEl (α := TEntry) o21 (t := 3) (v := I (((j + 1) + 1) + 1)) (k := i) (j := 3) (off := q1.1.off + i * 4 + 3) (y := (⟨j, (j + 1), ((j + 1) + 1), (((j + 1) + 1) + 1)⟩ : TEntry)) (q := ()) (Fy := NoB) (by kernel_rfl) (by kernel_rfl) (by omega) (by kernel_rfl) (by kernel_rfl) (Nat.le_of_ble_eq_true (by kernel_rfl)) (by rw [el_set_self (show i < (acc).length by omega)]; kernel_rfl) (fun _ _ _ => ⟨NoB, (show REntry (⟨j, (j + 1), ((j + 1) + 1), (((j + 1) + 1) + 1)⟩ : TEntry) from ⟨(show In64 j from ⟨by omega, by omega⟩), (show In64 (j + 1) from ⟨by omega, by omega⟩), (show In64 ((j + 1) + 1) from ⟨by omega, by omega⟩), (show In64 (((j + 1) + 1) + 1) from ⟨by omega, by omega⟩)⟩), fun _ h => False.elim h⟩) (fun b _ h => False.elim h) (fun b h => False.elim h) (fun b h => False.elim h) ?_)
    clear S; intro w N F29 q30 S up o28 d31 s32
    have s33 : ∀ b, F29 b → F b := fun b h => (s32 b h).elim (s26 b) (fun h => False.elim h)
    clear up d31 o21
    rw [List.set_set] at o28
    have l34 : (acc.set i (⟨j, (j + 1), ((j + 1) + 1), (((j + 1) + 1) + 1)⟩ : TEntry)).length = (acc).length := List.length_set
    replace S := S.prune (keep := [0, 1, 5]) (m := 0) (σ' := ⟨[(0, .v (slv a.length q1.1)), (1, .v (I (((j + 1) + 1) + 1))), (5, .v (I (i : Int)))], []⟩) (by kernel_rfl)
    refine RG.done rfl (nx_then ?_)
    refine RG.start ?_
    refine S.quiet (k := 3) (keep := [0, 1, 5]) (m := 0) (σ' := ⟨[(0, .v (slv a.length q1.1)), (1, .v (I ((((j + 1) + 1) + 1) + 1))), (5, .v (I (i : Int)))], []⟩) (.cons (Q_add (x := (((j + 1) + 1) + 1)) (y := 1) ⟨by omega, by omega⟩) .nil) (by kernel_rfl) ?_
    clear S; intro ac w β S
    refine RG.done rfl (nx_block (nx_then ?_))
    refine RG.start ?_
    refine S.quiet (k := 3) (keep := [0, 1, 5]) (m := 0) (σ' := ⟨[(0, .v (slv a.length q1.1)), (1, .v (I ((((j + 1) + 1) + 1) + 1))), (5, .v (I ((i : Int) + 1)))], []⟩) (.cons (Q_add (x := (i : Int)) (y := 1) ⟨by omega, by omega⟩) .nil) (by kernel_rfl) ?_
    clear S; intro ac w β S
    refine RG.done rfl (nx_then ?_)
    replace S := S.prune (keep := [0, 1, 5]) (m := 0) (σ' := ⟨[(0, .v (slv a.length q1.1)), (1, .v (I ((((j + 1) + 1) + 1) + 1))), (5, .v (I ((i : Int) + 1)))], []⟩) (by kernel_rfl)
    refine ⟨a.length - (i + 1), by omega, i + 1, (acc.set i (⟨j, (j + 1), ((j + 1) + 1), (((j + 1) + 1) + 1)⟩ : TEntry)), ((((j + 1) + 1) + 1) + 1), (q1.1, q30), F29, _, _, _, rfl, ?_, ?_, ?_, S.cast (by kernel_rfl), o28, hq, s33⟩
    · clear S; first | omega | (simp [*]; done) | (simp [*]; omega)
    · clear S; (have hlt : i < acc.length := (by omega)); rw [hacc, ← marksEntry_step (by omega) hj]; (first | rfl | (simp [g_markEntry, Int.add_assoc]; done))
    · clear S; omega
  · have g35 : ¬ ((i : Int) < (a.length : Int)) := of_decide_eq_false h4
    refine wp_exit (ex_then (ex_then (ex_hit (nx_then ?_))))
    refine wp_seq ?_
    refine RG.start ?_
    refine S.quiet (k := 2) (keep := [4]) (m := 0) (σ' := ⟨[(4, .v (I j))], []⟩) .nil (by kernel_rfl) ?_
    clear S; intro ac w β S
    refine RG.done rfl (nx_then ?_)
    refine wp_ret ?_
    refine S.ret (vs := [I j]) (by kernel_rfl) ?_
    have hyd : hdl acc k = j := by clear S; (have e : i = a.length := (by omega)); subst e; rw [hacc, List.drop_length, List.append_nil, hj]; exact hd_marksEntry k (by omega) _ (by omega) id
    have hyb : k ≤ j ∧ j ≤ k + 16 * ((SZ.sz a : Nat) : Int) := by clear S; skip; constructor <;> omega
    exact retX_of S hyd hyb.1 hyb.2 (by show [slv _ _] = [slv _ _]; rw [hlacc, hq]) o3 hs

set_option maxRecDepth 100000 in
theorem c_laws_markHost (w0 : World) (a : THost) (pa : PHost) (F : Bl) (ha : GT.own KK F w0 a pa) (hF : ∀ b, F b → b < w0.heap.size) (k : Int) (pre0 : 0 ≤ k) (pre1 : k + 16 * (SZ.sz a : Int) ≤ 4611686018427387904) : Calls Go.Proofs.Try.prog 15 [GT.val (α := THost) a pa, I k].toArray w0 (RetX hdT_Host F w0 pa a k) := by
  refine Calls.walk (args := [GT.val (α := THost) a pa, I k]) F Go.Proofs.Try.func15 rfl rfl ?_
  intro ac β S
  have oa : Ow w0 F w0 (Lt w0.heap.size) F a pa := ⟨ha, hF, fun b hb => .inr hb⟩
  obtain ⟨F1, F4, F7, F10, o2, o5, o8, o11, s3, s6, s9, s12, d13, d14, d15, d16, d17, d18⟩ := sp_Host oa
  have hz := sz_Host a
  refine wp_seq ?_
  refine RG.start ?_
  refine S.quiet (k := 2) (keep := [1, 2]) (m := 1) (σ' := ⟨[(1, .v (I k)), (2, .p 0 0)], [[slv (a.mem).length pa.mem.1, slv (a.mons).length pa.mons.1, slv (a.buf).length pa.buf.1, slv (a.iobuf).length pa.iobuf.1]]⟩) .nil (by kernel_rfl) ?_
  clear S; intro ac w β S
  refine RG.done rfl (nx_then ?_)
  refine wp_seq ?_
  refine RG.start ?_
  refine S.quiet (k := 3) (keep := [2, 6, 7]) (m := 1) (σ' := ⟨[(2, .p 0 0), (6, .v (slv (a.mem).length pa.mem.1)), (7, .v (I k))], [[slv (a.mem).length pa.mem.1, slv (a.mons).length pa.mons.1, slv (a.buf).length pa.buf.1, slv (a.iobuf).length pa.iobuf.1]]⟩) .nil (by kernel_rfl) ?_
  clear S; intro ac w β S
  refine RG.op rfl (S.callX (hd := hdl) (d := 8) o2 (c_laws_markIntSS w a.mem pa.mem F1 (S.ownw o2) (fun b hb => (S.sep b (o2.sub b hb)).1) k (by omega) (by omega)) (by kernel_rfl) rfl ?_)
  clear S; intro ac w N q19 y20 k21 S up o22 c23 x24 b25 b26
  replace o5 := o5.upF (Disj.symm d13) up
  replace o8 := o8.upF (Disj.symm d14) up
  replace o11 := o11.upF (Disj.symm d15) up
  clear up
  refine S.quiet (k := 1) (keep := [1, 2]) (m := 1) (σ' := ⟨[(1, .v (I k21)), (2, .p 0 0)], [[slv (a.mem).length pa.mem.1, slv (a.mons).length pa.mons.1, slv (a.buf).length pa.buf.1, slv (a.iobuf).length pa.iobuf.1]]⟩) .nil (by kernel_rfl) ?_
  clear S; intro ac w β S
  refine RG.done rfl (nx_then ?_)
  refine wp_seq ?_
  refine RG.start ?_
  refine S.quiet (k := 3) (keep := [2, 10, 11]) (m := 1) (σ' := ⟨[(2, .p 0 0), (10, .v (slv (a.mons).length pa.mons.1)), (11, .v (I k21))], [[slv (a.mem).length pa.mem.1, slv (a.mons).length pa.mons.1, slv (a.buf).length pa.buf.1, slv (a.iobuf).length pa.iobuf.1]]⟩) .nil (by kernel_rfl) ?_
  clear S; intro ac w β S
  refine RG.op rfl (S.callX (hd := hdl) (d := 12) o5 (c_laws_markMonS w a.mons pa.mons F4 (S.ownw o5) (fun b hb => (S.sep b (o5.sub b hb)).1) k21 (by omega) (by omega)) (by kernel_rfl) rfl ?_)
  clear S; intro ac w N q27 y28 k29 S up o30 c31 x32 b33 b34
  replace o8 := o8.upF (Disj.symm d16) up
  replace o11 := o11.upF (Disj.symm d17) up
  replace o22 := o22.upF (Disj.symm (Disj.symm d13)) up
  clear up
  refine S.quiet (k := 1) (keep := [1, 2]) (m := 1) (σ' := ⟨[(1, .v (I k29)), (2, .p 0 0)], [[slv (a.mem).length pa.mem.1, slv (a.mons).length pa.mons.1, slv (a.buf).length pa.buf.1, slv (a.iobuf).length pa.iobuf.1]]⟩) .nil (by kernel_rfl) ?_
  clear S; intro ac w β S
  refine RG.done rfl (nx_then ?_)
  refine wp_seq ?_
  refine RG.start ?_
  refine S.quiet (k := 3) (keep := [2, 14, 15]) (m := 1) (σ' := ⟨[(2, .p 0 0), (14, .v (slv (a.buf).length pa.buf.1)), (15, .v (I k29))], [[slv (a.mem).length pa.mem.1, slv (a.mons).length pa.mons.1, slv (a.buf).length pa.buf.1, slv (a.iobuf).length pa.iobuf.1]]⟩) .nil (by kernel_rfl) ?_
  clear S; intro ac w β S
  refine RG.op rfl (S.callX (hd := hdl) (d := 16) o8 (c_laws_markEntryS w a.buf pa.buf F7 (S.ownw o8) (fun b hb => (S.sep b (o8.sub b hb)).1) k29 (by omega) (by omega)) (by kernel_rfl) rfl ?_)
  clear S; intro ac w N q35 y36 k37 S up o38 c39 x40 b41 b42
  replace o11 := o11.upF (Disj.symm d18) up
  replace o22 := o22.upF (Disj.symm (Disj.symm d14)) up
  replace o30 := o30.upF (Disj.symm (Disj.symm d16)) up
  clear up
  refine S.quiet (k := 1) (keep := [1, 2]) (m := 1) (σ' := ⟨[(1, .v (I k37)), (2, .p 0 0)], [[slv (a.mem).length pa.mem.1, slv (a.mons).length pa.mons.1, slv (a.buf).length pa.buf.1, slv (a.iobuf).length pa.iobuf.1]]⟩) .nil (by kernel_rfl) ?_
  clear S; intro ac w β S
  refine RG.done rfl (nx_then ?_)
  refine wp_seq ?_
  refine RG.start ?_
  refine S.quiet (k := 3) (keep := [18, 19]) (m := 0) (σ' := ⟨[(18, .v (slv (a.iobuf).length pa.iobuf.1)), (19, .v (I k37))], []⟩) .nil (by kernel_rfl) ?_
  clear S; intro ac w β S
  refine RG.op rfl (S.callX (hd := hdl) (d := 20) o11 (c_laws_markEntryS w a.iobuf pa.iobuf F10 (S.ownw o11) (fun b hb => (S.sep b (o11.sub b hb)).1) k37 (by omega) (by omega)) (by kernel_rfl) rfl ?_)
  clear S; intro ac w N q43 y44 k45 S up o46 c47 x48 b49 b50
  replace o22 := o22.upF (Disj.symm (Disj.symm d15)) up
  replace o30 := o30.upF (Disj.symm (Disj.symm d17)) up
  replace o38 := o38.upF (Disj.symm (Disj.symm d18)) up
  clear up
  refine S.quiet (k := 1) (keep := [1]) (m := 0) (σ' := ⟨[(1, .v (I k45))], []⟩) .nil (by kernel_rfl) ?_
  clear S; intro ac w β S
  refine RG.done rfl (nx_then ?_)
  refine wp_seq ?_
  refine RG.start ?_
  refine S.quiet (k := 2) (keep := [4]) (m := 0) (σ' := ⟨[(4, .v (I k45))], []⟩) .nil (by kernel_rfl) ?_
  clear S; intro ac w β S
  refine RG.done rfl (nx_then ?_)
  refine wp_ret ?_
  refine S.ret (vs := [I k45]) (by kernel_rfl) ?_
  have o51 := ow_Host (x := (⟨y20, y28, y36, y44⟩ : THost)) (p := (⟨q19, q27, q35, q43⟩ : PHost)) o22 o30 o38 o46 (Disj.symm (Disj.symm d13)) (Disj.symm (Disj.symm d14)) (Disj.symm (Disj.symm d15)) (Disj.symm (Disj.symm d16)) (Disj.symm (Disj.symm d17)) (Disj.symm (Disj.symm d18)) 
  have hcc := cc_Host (x := (⟨y20, y28, y36, y44⟩ : THost)) (y := a) (p := (⟨q19, q27, q35, q43⟩ : PHost)) (q := pa) c23 c31 c39 c47 
  have hsz := sz_Host a
  have hyd : hdT_Host (⟨y20, y28, y36, y44⟩ : THost) k = k45 := by clear S; simp (disch := omega) only [hdT_Host, x24, x32, x40, x48, hdc_pos]
  have hyb : k ≤ k45 ∧ k45 ≤ k + 16 * ((SZ.sz a : Nat) : Int) := by clear S; constructor <;> omega
  exact retX_of S hyd hyb.1 hyb.2 hcc o51 (uni_all fun G hG => by simp only [List.mem_cons, List.not_mem_nil, or_false] at hG; rcases hG with rfl | rfl | rfl | rfl <;> assumption)

set_option maxRecDepth 100000 in
theorem c_laws_markBare (w0 : World) (a : TBare) (pa : PBare) (F : Bl) (ha : GT.own KK F w0 a pa) (hF : ∀ b, F b → b < w0.heap.size) (k : Int) (pre0 : 0 ≤ k) (pre1 : k + 16 * (SZ.sz a : Int) ≤ 4611686018427387904) : Calls Go.Proofs.Try.prog 21 [GT.val (α := TBare) a pa, I k].toArray w0 (RetX hdT_Bare F w0 pa a k) := by
  refine Calls.walk (args := [GT.val (α := TBare) a pa, I k]) F Go.Proofs.Try.func21 rfl rfl ?_
  intro ac β S
  have oa : Ow w0 F w0 (Lt w0.heap.size) F a pa := ⟨ha, hF, fun b hb => .inr hb⟩
  have i10 : In64 a.pend := RBare.pend (d := a) oa.rn
  obtain ⟨F1, F4, F7, o2, o5, o8, s3, s6, s9, d11, d12, d13⟩ := sp_Bare oa
  have hz := sz_Bare a
  refine wp_seq ?_
  refine RG.start ?_
  refine S.quiet (k := 2) (keep := [1, 2]) (m := 1) (σ' := ⟨[(1, .v (I k)), (2, .p 0 0)], [[slv (a.mem).length pa.mem.1, slv (a.guests).length pa.guests.1, slv (a.outs).length pa.outs.1, I a.pend]]⟩) .nil (by kernel_rfl) ?_
  clear S; intro ac w β S
  refine RG.done rfl (nx_then ?_)
  refine wp_seq ?_
  refine RG.start ?_
  refine S.quiet (k := 3) (keep := [2, 6, 7]) (m := 1) (σ' := ⟨[(2, .p 0 0), (6, .v (slv (a.mem).length pa.mem.1)), (7, .v (I k))], [[slv (a.mem).length pa.mem.1, slv (a.guests).length pa.guests.1, slv (a.outs).length pa.outs.1, I a.pend]]⟩) .nil (by kernel_rfl) ?_
  clear S; intro ac w β S
  refine RG.op rfl (S.callX (hd := hdl) (d := 8) o2 (c_laws_markIntSS w a.mem pa.mem F1 (S.ownw o2) (fun b hb => (S.sep b (o2.sub b hb)).1) k (by omega) (by omega)) (by kernel_rfl) rfl ?_)
  clear S; intro ac w N q14 y15 k16 S up o17 c18 x19 b20 b21
  replace o5 := o5.upF (Disj.symm d11) up
  replace o8 := o8.upF (Disj.symm d12) up
  clear up
  refine S.quiet (k := 1) (keep := [1, 2]) (m := 1) (σ' := ⟨[(1, .v (I k16)), (2, .p 0 0)], [[slv (a.mem).length pa.mem.1, slv (a.guests).length pa.guests.1, slv (a.outs).length pa.outs.1, I a.pend]]⟩) .nil (by kernel_rfl) ?_
  clear S; intro ac w β S
  refine RG.done rfl (nx_then ?_)
  refine wp_seq ?_
  refine RG.start ?_
  refine S.quiet (k := 3) (keep := [2, 10, 11]) (m := 1) (σ' := ⟨[(2, .p 0 0), (10, .v (slv (a.guests).length pa.guests.1)), (11, .v (I k16))], [[slv (a.mem).length pa.mem.1, slv (a.guests).length pa.guests.1, slv (a.outs).length pa.outs.1, I a.pend]]⟩) .nil (by kernel_rfl) ?_
  clear S; intro ac w β S
  refine RG.op rfl (S.callX (hd := hdl) (d := 12) o5 (c_laws_markGuestS w a.guests pa.guests F4 (S.ownw o5) (fun b hb => (S.sep b (o5.sub b hb)).1) k16 (by omega) (by omega)) (by kernel_rfl) rfl ?_)
  clear S; intro ac w N q22 y23 k24 S up o25 c26 x27 b28 b29
  replace o8 := o8.upF (Disj.symm d13) up
  replace o17 := o17.upF (Disj.symm (Disj.symm d11)) up
  clear up
  refine S.quiet (k := 1) (keep := [1, 2]) (m := 1) (σ' := ⟨[(1, .v (I k24)), (2, .p 0 0)], [[slv (a.mem).length pa.mem.1, slv (a.guests).length pa.guests.1, slv (a.outs).length pa.outs.1, I a.pend]]⟩) .nil (by kernel_rfl) ?_
  clear S; intro ac w β S
  refine RG.done rfl (nx_then ?_)
  refine wp_seq ?_
  refine RG.start ?_
  refine S.quiet (k := 3) (keep := [14, 15]) (m := 0) (σ' := ⟨[(14, .v (slv (a.outs).length pa.outs.1)), (15, .v (I k24))], []⟩) .nil (by kernel_rfl) ?_
  clear S; intro ac w β S
  refine RG.op rfl (S.callX (hd := hdl) (d := 16) o8 (c_laws_markIntS w a.outs pa.outs F7 (S.ownw o8) (fun b hb => (S.sep b (o8.sub b hb)).1) k24 (by omega) (by omega)) (by kernel_rfl) rfl ?_)
  clear S; intro ac w N q30 y31 k32 S up o33 c34 x35 b36 b37
  replace o17 := o17.upF (Disj.symm (Disj.symm d12)) up
  replace o25 := o25.upF (Disj.symm (Disj.symm d13)) up
  clear up
  refine S.quiet (k := 1) (keep := [1]) (m := 0) (σ' := ⟨[(1, .v (I k32))], []⟩) .nil (by kernel_rfl) ?_
  clear S; intro ac w β S
  refine RG.done rfl (nx_then ?_)
  refine wp_seq ?_
  refine RG.start ?_
  refine S.quiet (k := 2) (keep := [4]) (m := 0) (σ' := ⟨[(4, .v (I k32))], []⟩) .nil (by kernel_rfl) ?_
  clear S; intro ac w β S
  refine RG.done rfl (nx_then ?_)
  refine wp_ret ?_
  refine S.ret (vs := [I k32]) (by kernel_rfl) ?_
  have o38 := ow_Bare (x := (⟨y15, y23, y31, a.pend⟩ : TBare)) (p := (⟨q14, q22, q30⟩ : PBare)) o17 o25 o33 (Disj.symm (Disj.symm d11)) (Disj.symm (Disj.symm d12)) (Disj.symm (Disj.symm d13)) (i10)
  have hcc := cc_Bare (x := (⟨y15, y23, y31, a.pend⟩ : TBare)) (y := a) (p := (⟨q14, q22, q30⟩ : PBare)) (q := pa) c18 c26 c34 rfl
  have hsz := sz_Bare a
  have hyd : hdT_Bare (⟨y15, y23, y31, a.pend⟩ : TBare) k = k32 := by clear S; simp (disch := omega) only [hdT_Bare, x19, x27, x35, hdc_pos]
  have hyb : k ≤ k32 ∧ k32 ≤ k + 16 * ((SZ.sz a : Nat) : Int) := by clear S; constructor <;> omega
  exact retX_of S hyd hyb.1 hyb.2 hcc o38 (uni_all fun G hG => by simp only [List.mem_cons, List.not_mem_nil, or_false] at hG; rcases hG with rfl | rfl | rfl <;> assumption)

set_option maxRecDepth 100000 in
theorem c_laws_heldIntS (w0 : World) (a : List Int) (pa : LP Int) (ha : GT.rd KK (Lt w0.heap.size) w0 a pa) (k : Int) : Calls Go.Proofs.Try.prog 76 [slv (a).length pa.1, I k].toArray w0 (fun e w' => e = .returned (I (hdl a k)) ∧ Chg NoB w0 w') := by
  refine Calls.walk (args := [slv (a).length pa.1, I k]) NoB Go.Proofs.Try.func76 rfl rfl ?_
  intro ac β S
  have hlea : a.length ≤ 4194304 := LRd.le ha
  refine wp_seq ?_
  refine RG.start ?_
  refine S.quiet (k := 1) (keep := [0, 1]) (m := 0) (σ' := ⟨[(0, .v (slv (a).length pa.1)), (1, .v (I k))], []⟩) .nil (by kernel_rfl) ?_
  clear S; intro ac w β S
  refine RG.done rfl (nx_then ?_)
  refine wp_seq ?_
  refine wp_seq ?_
  refine RG.start ?_
  refine S.quiet (k := 1) (keep := [0, 1, 5]) (m := 0) (σ' := ⟨[(0, .v (slv (a).length pa.1)), (1, .v (I k)), (5, .v (I 0))], []⟩) .nil (by kernel_rfl) ?_
  clear S; intro ac w β S
  refine RG.done rfl (nx_then ?_)
  refine wp_block ?_
  replace S := S.prune (keep := [0, 1, 5]) (m := 0) (σ' := ⟨[(0, .v (slv (a).length pa.1)), (1, .v (I k)), (5, .v (I 0))], []⟩) (by kernel_rfl)
  refine wp_loop_down (fun mm ac w => ∃ (i : Nat) (j : Int)  (u : World) (N : Bl) (β : Nat → Nat), mm = a.length - i ∧ (i ≤ a.length) ∧ (hdl a k = hdlc (a.drop i) j id) ∧ St Go.Proofs.Try.prog Go.Proofs.Try.f76.ntmps w0 NoB u N β ⟨[(0, .v (slv (a).length pa.1)), (1, .v (I j)), (5, .v (I (i : Int)))], []⟩ ac w) _ ⟨0, k, _, _, _, rfl, (by first | omega | (simp; done) | (simp; omega)), (by rfl), S.cast (by kernel_rfl)⟩ ?_
  clear S
  rintro mm ac w ⟨i, j, u, N, β, rfl, hi, hr, S⟩
  refine wp_seq ?_
  refine wp_seq ?_
  refine RG.start ?_
  refine S.quiet (k := 4) (keep := [0, 1, 5, 9]) (m := 0) (σ' := ⟨[(0, .v (slv (a).length pa.1)), (1, .v (I j)), (5, .v (I (i : Int))), (9, .v (B (decide ((i : Int) < ((a).length : Int)))))], []⟩) .nil (by kernel_rfl) ?_
  clear S; intro ac w β S
  refine RG.done rfl (nx_then ?_)
  refine S.cond (e := (decide ((i : Int) < ((a).length : Int)))) (by kernel_rfl) (fun h1 => ?_) (fun h1 => ?_)
  · have g2 : (i : Int) < ((a).length : Int) := of_decide_eq_true h1
    refine wp_skip (nx_then ?_)
    refine wp_seq ?_
    refine wp_block ?_
    refine wp_seq ?_
    refine wp_seq ?_
    refine RG.start ?_
    refine S.quiet (k := 6) (keep := [0, 1, 5, 17]) (m := 0) (σ' := ⟨[(0, .v (slv (a).length pa.1)), (1, .v (I j)), (5, .v (I (i : Int))), (17, .v (B ((el a i) != j)))], []⟩) (.cons (Q_idx (S.arg ha) (l := (a).length) (k := i) (i := (i : Int)) rfl rfl (by omega) Go.Proofs.Try.underlying30 (by kernel_rfl)) (.cons (Q_el1 (S.arg ha) (t := 3) (k := i) (by omega) rfl (by kernel_rfl)) .nil)) (by kernel_rfl) ?_
    clear S; intro ac w β S
    refine RG.done rfl (nx_then ?_)
    refine S.cond (e := ((el a i) != j)) (by kernel_rfl) (fun h3 => ?_) (fun h3 => ?_)
    · have g4 : ¬ ((el a i) = j) := bne_iff_ne.1 h3
      refine wp_seq ?_
      refine RG.start ?_
      refine S.quiet (k := 1) (keep := [4]) (m := 0) (σ' := ⟨[(4, .v (I (-1)))], []⟩) .nil (by kernel_rfl) ?_
      clear S; intro ac w β S
      refine RG.done rfl (nx_then ?_)
      refine wp_ret (rt_then (rt_block (rt_then (rt_then (rt_block (rt_then ?_))))))
      refine S.ret (vs := [I (-1)]) (by kernel_rfl) ?_
      exact ⟨retI (show (-1) = hdl a k by clear S; (first | (rw [hr, hd_end (by omega)]; done) | (rw [hr, hd_step (by omega)]; simp [he_Int, hdi, hdb, hdc, *]; done) | (rw [hr, hd_step (by omega)]; simp_all [he_Int, hdi, hdb, hdc]; done))), S.chg⟩
    · have g5 : (el a i) = j := ne_f h3
      refine wp_skip (nx_then ?_)
      refine RG.start ?_
      refine S.quiet (k := 3) (keep := [0, 1, 5]) (m := 0) (σ' := ⟨[(0, .v (slv (a).length pa.1)), (1, .v (I (IntKind.i64.wrap (j + 1)))), (5, .v (I (i : Int)))], []⟩) (.cons (Q_addw (x := j) (y := 1)) .nil) (by kernel_rfl) ?_
      clear S; intro ac w β S
      refine RG.done rfl (nx_block (nx_then ?_))
      refine RG.start ?_
      refine S.quiet (k := 3) (keep := [0, 1, 5]) (m := 0) (σ' := ⟨[(0, .v (slv (a).length pa.1)), (1, .v (I (IntKind.i64.wrap (j + 1)))), (5, .v (I ((i : Int) + 1)))], []⟩) (.cons (Q_add (x := (i : Int)) (y := 1) ⟨by omega, by omega⟩) .nil) (by kernel_rfl) ?_
      clear S; intro ac w β S
      refine RG.done rfl (nx_then ?_)
      replace S := S.prune (keep := [0, 1, 5]) (m := 0) (σ' := ⟨[(0, .v (slv (a).length pa.1)), (1, .v (I (IntKind.i64.wrap (j + 1)))), (5, .v (I ((i : Int) + 1)))], []⟩) (by kernel_rfl)
      refine ⟨a.length - (i + 1), by omega, i + 1, (IntKind.i64.wrap (j + 1)), _, _, _, rfl, ?_, ?_, S.cast (by kernel_rfl)⟩
      · clear S; first | omega | (simp [*]; done) | (simp [*]; omega)
      · clear S; (rw [hr, hd_step (by omega)]; simp [he_Int, hdi, hdb, hdc, *])
  · have g6 : ¬ ((i : Int) < ((a).length : Int)) := of_decide_eq_false h1
    refine wp_exit (ex_then (ex_then (ex_hit (nx_then ?_))))
    refine wp_seq ?_
    refine RG.start ?_
    refine S.quiet (k := 2) (keep := [4]) (m := 0) (σ' := ⟨[(4, .v (I j))], []⟩) .nil (by kernel_rfl) ?_
    clear S; intro ac w β S
    refine RG.done rfl (nx_then ?_)
    refine wp_ret ?_
    refine S.ret (vs := [I j]) (by kernel_rfl) ?_
    exact ⟨retI (show j = hdl a k by clear S; (first | (rw [hr, hd_end (by omega)]; done) | (rw [hr, hd_step (by omega)]; simp [he_Int, hdi, hdb, hdc, *]; done) | (rw [hr, hd_step (by omega)]; simp_all [he_Int, hdi, hdb, hdc]; done))), S.chg⟩

set_option maxRecDepth 100000 in
theorem c_laws_heldIntSS (w0 : World) (a : List (List Int)) (pa : LP (List Int)) (ha : GT.rd KK (Lt w0.heap.size) w0 a pa) (k : Int) : Calls Go.Proofs.Try.prog 68 [slv (a).length pa.1, I k].toArray w0 (fun e w' => e = .returned (I (hdl a k)) ∧ Chg NoB w0 w') := by
  refine Calls.walk (args := [slv (a).length pa.1, I k]) NoB Go.Proofs.Try.func68 rfl rfl ?_
  intro ac β S
  have hlea : a.length ≤ 4194304 := LRd.le ha
  refine wp_seq ?_
  refine RG.start ?_
  refine S.quiet (k := 1) (keep := [0, 1]) (m := 0) (σ' := ⟨[(0, .v (slv (a).length pa.1)), (1, .v (I k))], []⟩) .nil (by kernel_rfl) ?_
  clear S; intro ac w β S
  refine RG.done rfl (nx_then ?_)
  refine wp_seq ?_
  refine wp_seq ?_
  refine RG.start ?_
  refine S.quiet (k := 1) (keep := [0, 1, 5]) (m := 0) (σ' := ⟨[(0, .v (slv (a).length pa.1)), (1, .v (I k)), (5, .v (I 0))], []⟩) .nil (by kernel_rfl) ?_
  clear S; intro ac w β S
  refine RG.done rfl (nx_then ?_)
  refine wp_block ?_
  replace S := S.prune (keep := [0, 1, 5]) (m := 0) (σ' := ⟨[(0, .v (slv (a).length pa.1)), (1, .v (I k)), (5, .v (I 0))], []⟩) (by kernel_rfl)
  refine wp_loop_down (fun mm ac w => ∃ (i : Nat) (j : Int)  (u : World) (N : Bl) (β : Nat → Nat), mm = a.length - i ∧ (i ≤ a.length) ∧ (hdl a k = hdlc (a.drop i) j id) ∧ St Go.Proofs.Try.prog Go.Proofs.Try.f68.ntmps w0 NoB u N β ⟨[(0, .v (slv (a).length pa.1)), (1, .v (I j)), (5, .v (I (i : Int)))], []⟩ ac w) _ ⟨0, k, _, _, _, rfl, (by first | omega | (simp; done) | (simp; omega)), (by rfl), S.cast (by kernel_rfl)⟩ ?_
  clear S
  rintro mm ac w ⟨i, j, u, N, β, rfl, hi, hr, S⟩
  refine wp_seq ?_
  refine wp_seq ?_
  refine RG.start ?_
  refine S.quiet (k := 4) (keep := [0, 1, 5, 9]) (m := 0) (σ' := ⟨[(0, .v (slv (a).length pa.1)), (1, .v (I j)), (5, .v (I (i : Int))), (9, .v (B (decide ((i : Int) < ((a).length : Int)))))], []⟩) .nil (by kernel_rfl) ?_
  clear S; intro ac w β S
  refine RG.done rfl (nx_then ?_)
  refine S.cond (e := (decide ((i : Int) < ((a).length : Int)))) (by kernel_rfl) (fun h1 => ?_) (fun h1 => ?_)
  · have g2 : (i : Int) < ((a).length : Int) := of_decide_eq_true h1
    refine wp_skip (nx_then ?_)
    refine wp_seq ?_
    refine wp_block ?_
    refine wp_seq ?_
    refine RG.start ?_
    refine S.quiet (k := 7) (keep := [0, 1, 5]) (m := 0) (σ' := ⟨[(0, .v (slv (a).length pa.1)), (1, .v (I (hdl (el a i) j))), (5, .v (I (i : Int)))], []⟩) (.cons (Q_idx (S.arg ha) (l := (a).length) (k := i) (i := (i : Int)) rfl rfl (by omega) Go.Proofs.Try.underlying22 (by kernel_rfl)) (.cons (Q_el1 (S.arg ha) (t := 30) (k := i) (by omega) rfl (by kernel_rfl)) (.cons (Q_call fun w hw => c_laws_heldIntS w (el a i) (pa.2 i) (rd_of (LRd.el (S.arg ha) i (by omega)) hw) j) .nil))) (by kernel_rfl) ?_
    clear S; intro ac w β S
    refine RG.done rfl (nx_then ?_)
    refine wp_seq ?_
    refine RG.start ?_
    refine S.quiet (k := 2) (keep := [0, 1, 5, 19]) (m := 0) (σ' := ⟨[(0, .v (slv (a).length pa.1)), (1, .v (I (hdl (el a i) j))), (5, .v (I (i : Int))), (19, .v (B (decide ((hdl (el a i) j) < 0))))], []⟩) .nil (by kernel_rfl) ?_
    clear S; intro ac w β S
    refine RG.done rfl (nx_then ?_)
    refine S.cond (e := (decide ((hdl (el a i) j) < 0))) (by kernel_rfl) (fun h3 => ?_) (fun h3 => ?_)
    · have g4 : (hdl (el a i) j) < 0 := of_decide_eq_true h3
      refine wp_seq ?_
      refine RG.start ?_
      refine S.quiet (k := 1) (keep := [4]) (m := 0) (σ' := ⟨[(4, .v (I (-1)))], []⟩) .nil (by kernel_rfl) ?_
      clear S; intro ac w β S
      refine RG.done rfl (nx_then ?_)
      refine wp_ret (rt_block (rt_then (rt_then (rt_block (rt_then ?_)))))
      refine S.ret (vs := [I (-1)]) (by kernel_rfl) ?_
      exact ⟨retI (show (-1) = hdl a k by clear S; (first | (rw [hr, hd_end (by omega)]; done) | (rw [hr, hd_step (by omega)]; simp [he_list, hdi, hdb, hdc, *]; done) | (rw [hr, hd_step (by omega)]; simp_all [he_list, hdi, hdb, hdc]; done))), S.chg⟩
    · have g5 : ¬ ((hdl (el a i) j) < 0) := of_decide_eq_false h3
      refine wp_skip (nx_block (nx_then ?_))
      refine RG.start ?_
      refine S.quiet (k := 3) (keep := [0, 1, 5]) (m := 0) (σ' := ⟨[(0, .v (slv (a).length pa.1)), (1, .v (I (hdl (el a i) j))), (5, .v (I ((i : Int) + 1)))], []⟩) (.cons (Q_add (x := (i : Int)) (y := 1) ⟨by omega, by omega⟩) .nil) (by kernel_rfl) ?_
      clear S; intro ac w β S
      refine RG.done rfl (nx_then ?_)
      replace S := S.prune (keep := [0, 1, 5]) (m := 0) (σ' := ⟨[(0, .v (slv (a).length pa.1)), (1, .v (I (hdl (el a i) j))), (5, .v (I ((i : Int) + 1)))], []⟩) (by kernel_rfl)
      refine ⟨a.length - (i + 1), by omega, i + 1, (hdl (el a i) j), _, _, _, rfl, ?_, ?_, S.cast (by kernel_rfl)⟩
      · clear S; first | omega | (simp [*]; done) | (simp [*]; omega)
      · clear S; (rw [hr, hd_step (by omega)]; simp [he_list, hdi, hdb, hdc, *])
  · have g6 : ¬ ((i : Int) < ((a).length : Int)) := of_decide_eq_false h1
    refine wp_exit (ex_then (ex_then (ex_hit (nx_then ?_))))
    refine wp_seq ?_
    refine RG.start ?_
    refine S.quiet (k := 2) (keep := [4]) (m := 0) (σ' := ⟨[(4, .v (I j))], []⟩) .nil (by kernel_rfl) ?_
    clear S; intro ac w β S
    refine RG.done rfl (nx_then ?_)
    refine wp_ret ?_
    refine S.ret (vs := [I j]) (by kernel_rfl) ?_
    exact ⟨retI (show j = hdl a k by clear S; (first | (rw [hr, hd_end (by omega)]; done) | (rw [hr, hd_step (by omega)]; simp [he_list, hdi, hdb, hdc, *]; done) | (rw [hr, hd_step (by omega)]; simp_all [he_list, hdi, hdb, hdc]; done))), S.chg⟩

set_option maxRecDepth 100000 in
theorem c_laws_heldInsS (w0 : World) (a : List TIns) (pa : LP TIns) (ha : GT.rd KK (Lt w0.heap.size) w0 a pa) (k : Int) : Calls Go.Proofs.Try.prog 105 [slv (a).length pa.1, I k].toArray w0 (fun e w' => e = .returned (I (hdl a k)) ∧ Chg NoB w0 w') := by
  refine Calls.walk (args := [slv (a).length pa.1, I k]) NoB Go.Proofs.Try.func105 rfl rfl ?_
  intro ac β S
  have hlea : a.length ≤ 4194304 := LRd.le ha
  refine wp_seq ?_
  refine RG.start ?_
  refine S.quiet (k := 1) (keep := [0, 1]) (m := 0) (σ' := ⟨[(0, .v (slv (a).length pa.1)), (1, .v (I k))], []⟩) .nil (by kernel_rfl) ?_
  clear S; intro ac w β S
  refine RG.done rfl (nx_then ?_)
  refine wp_seq ?_
  refine wp_seq ?_
  refine RG.start ?_
  refine S.quiet (k := 1) (keep := [0, 1, 5]) (m := 0) (σ' := ⟨[(0, .v (slv (a).length pa.1)), (1, .v (I k)), (5, .v (I 0))], []⟩) .nil (by kernel_rfl) ?_
  clear S; intro ac w β S
  refine RG.done rfl (nx_then ?_)
  refine wp_block ?_
  replace S := S.prune (keep := [0, 1, 5]) (m := 0) (σ' := ⟨[(0, .v (slv (a).length pa.1)), (1, .v (I k)), (5, .v (I 0))], []⟩) (by kernel_rfl)
  refine wp_loop_down (fun mm ac w => ∃ (i : Nat) (j : Int)  (u : World) (N : Bl) (β : Nat → Nat), mm = a.length - i ∧ (i ≤ a.length) ∧ (hdl a k = hdlc (a.drop i) j id) ∧ St Go.Proofs.Try.prog Go.Proofs.Try.f105.ntmps w0 NoB u N β ⟨[(0, .v (slv (a).length pa.1)), (1, .v (I j)), (5, .v (I (i : Int)))], []⟩ ac w) _ ⟨0, k, _, _, _, rfl, (by first | omega | (simp; done) | (simp; omega)), (by rfl), S.cast (by kernel_rfl)⟩ ?_
  clear S
  rintro mm ac w ⟨i, j, u, N, β, rfl, hi, hr, S⟩
  refine wp_seq ?_
  refine wp_seq ?_
  refine RG.start ?_
  refine S.quiet (k := 4) (keep := [0, 1, 5, 9]) (m := 0) (σ' := ⟨[(0, .v (slv (a).length pa.1)), (1, .v (I j)), (5, .v (I (i : Int))), (9, .v (B (decide ((i : Int) < ((a).length : Int)))))], []⟩) .nil (by kernel_rfl) ?_
  clear S; intro ac w β S
  refine RG.done rfl (nx_then ?_)
  refine S.cond (e := (decide ((i : Int) < ((a).length : Int)))) (by kernel_rfl) (fun h1 => ?_) (fun h1 => ?_)
  · have g2 : (i : Int) < ((a).length : Int) := of_decide_eq_true h1
    refine wp_skip (nx_then ?_)
    refine wp_seq ?_
    refine wp_block ?_
    refine wp_seq ?_
    refine wp_seq ?_
    refine RG.start ?_
    refine S.quiet (k := 7) (keep := [0, 1, 5, 18]) (m := 0) (σ' := ⟨[(0, .v (slv (a).length pa.1)), (1, .v (I j)), (5, .v (I (i : Int))), (18, .v (B ((el a i).opc != j)))], []⟩) (.cons (Q_idx (S.arg ha) (l := (a).length) (k := i) (i := (i : Int)) rfl rfl (by omega) Go.Proofs.Try.underlying123 (by kernel_rfl)) (.cons (Q_cell (S.arg ha) (t := 3) (k := i) (j := 0) (v := I ((el a i).opc)) (by omega) (by kernel_rfl) (by kernel_rfl)) .nil)) (by kernel_rfl) ?_
    clear S; intro ac w β S
    refine RG.done rfl (nx_then ?_)
    refine S.cond (e := ((el a i).opc != j)) (by kernel_rfl) (fun h3 => ?_) (fun h3 => ?_)
    · have g4 : ¬ ((el a i).opc = j) := bne_iff_ne.1 h3
      refine wp_seq ?_
      refine RG.start ?_
      refine S.quiet (k := 1) (keep := [4]) (m := 0) (σ' := ⟨[(4, .v (I (-1)))], []⟩) .nil (by kernel_rfl) ?_
      clear S; intro ac w β S
      refine RG.done rfl (nx_then ?_)
      refine wp_ret (rt_then (rt_block (rt_then (rt_then (rt_block (rt_then ?_))))))
      refine S.ret (vs := [I (-1)]) (by kernel_rfl) ?_
      exact ⟨retI (show (-1) = hdl a k by clear S; (first | (rw [hr, hd_end (by omega)]; done) | (rw [hr, hd_step (by omega)]; simp [he_Ins, hdi, hdb, hdc, *]; done) | (rw [hr, hd_step (by omega)]; simp_all [he_Ins, hdi, hdb, hdc]; done))), S.chg⟩
    · have g5 : (el a i).opc = j := ne_f h3
      refine wp_skip (nx_then ?_)
      refine wp_seq ?_
      refine RG.start ?_
      refine S.quiet (k := 3) (keep := [0, 1, 5]) (m := 0) (σ' := ⟨[(0, .v (slv (a).length pa.1)), (1, .v (I (IntKind.i64.wrap (j + 1)))), (5, .v (I (i : Int)))], []⟩) (.cons (Q_addw (x := j) (y := 1)) .nil) (by kernel_rfl) ?_
      clear S; intro ac w β S
      refine RG.done rfl (nx_then ?_)
      refine wp_seq ?_
      refine wp_seq ?_
      refine RG.start ?_
      refine S.quiet (k := 7) (keep := [0, 1, 5, 27]) (m := 0) (σ' := ⟨[(0, .v (slv (a).length pa.1)), (1, .v (I (IntKind.i64.wrap (j + 1)))), (5, .v (I (i : Int))), (27, .v (B ((el a i).x != (IntKind.i64.wrap (j + 1)))))], []⟩) (.cons (Q_idx (S.arg ha) (l := (a).length) (k := i) (i := (i : Int)) rfl rfl (by omega) Go.Proofs.Try.underlying123 (by kernel_rfl)) (.cons (Q_cell (S.arg ha) (t := 3) (k := i) (j := 1) (v := I ((el a i).x)) (by omega) (by kernel_rfl) (by kernel_rfl)) .nil)) (by kernel_rfl) ?_
      clear S; intro ac w β S
      refine RG.done rfl (nx_then ?_)
      refine S.cond (e := ((el a i).x != (IntKind.i64.wrap (j + 1)))) (by kernel_rfl) (fun h6 => ?_) (fun h6 => ?_)
      · have g7 : ¬ ((el a i).x = (IntKind.i64.wrap (j + 1))) := bne_iff_ne.1 h6
        refine wp_seq ?_
        refine RG.start ?_
        refine S.quiet (k := 1) (keep := [4]) (m := 0) (σ' := ⟨[(4, .v (I (-1)))], []⟩) .nil (by kernel_rfl) ?_
        clear S; intro ac w β S
        refine RG.done rfl (nx_then ?_)
        refine wp_ret (rt_then (rt_block (rt_then (rt_then (rt_block (rt_then ?_))))))
        refine S.ret (vs := [I (-1)]) (by kernel_rfl) ?_
        exact ⟨retI (show (-1) = hdl a k by clear S; (first | (rw [hr, hd_end (by omega)]; done) | (rw [hr, hd_step (by omega)]; simp [he_Ins, hdi, hdb, hdc, *]; done) | (rw [hr, hd_step (by omega)]; simp_all [he_Ins, hdi, hdb, hdc]; done))), S.chg⟩
      · have g8 : (el a i).x = (IntKind.i64.wrap (j + 1)) := ne_f h6
        refine wp_skip (nx_then ?_)
        refine RG.start ?_
        refine S.quiet (k := 3) (keep := [0, 1, 5]) (m := 0) (σ' := ⟨[(0, .v (slv (a).length pa.1)), (1, .v (I (IntKind.i64.wrap ((IntKind.i64.wrap (j + 1)) + 1)))), (5, .v (I (i : Int)))], []⟩) (.cons (Q_addw (x := (IntKind.i64.wrap (j + 1))) (y := 1)) .nil) (by kernel_rfl) ?_
        clear S; intro ac w β S
        refine RG.done rfl (nx_block (nx_then ?_))
        refine RG.start ?_
        refine S.quiet (k := 3) (keep := [0, 1, 5]) (m := 0) (σ' := ⟨[(0, .v (slv (a).length pa.1)), (1, .v (I (IntKind.i64.wrap ((IntKind.i64.wrap (j + 1)) + 1)))), (5, .v (I ((i : Int) + 1)))], []⟩) (.cons (Q_add (x := (i : Int)) (y := 1) ⟨by omega, by omega⟩) .nil) (by kernel_rfl) ?_
        clear S; intro ac w β S
        refine RG.done rfl (nx_then ?_)
        replace S := S.prune (keep := [0, 1, 5]) (m := 0) (σ' := ⟨[(0, .v (slv (a).length pa.1)), (1, .v (I (IntKind.i64.wrap ((IntKind.i64.wrap (j + 1)) + 1)))), (5, .v (I ((i : Int) + 1)))], []⟩) (by kernel_rfl)
        refine ⟨a.length - (i + 1), by omega, i + 1, (IntKind.i64.wrap ((IntKind.i64.wrap (j + 1)) + 1)), _, _, _, rfl, ?_, ?_, S.cast (by kernel_rfl)⟩
        · clear S; first | omega | (simp [*]; done) | (simp [*]; omega)
        · clear S; (rw [hr, hd_step (by omega)]; simp [he_Ins, hdi, hdb, hdc, *])
  · have g9 : ¬ ((i : Int) < ((a).length : Int)) := of_decide_eq_false h1
    refine wp_exit (ex_then (ex_then (ex_hit (nx_then ?_))))
    refine wp_seq ?_
    refine RG.start ?_
    refine S.quiet (k := 2) (keep := [4]) (m := 0) (σ' := ⟨[(4, .v (I j))], []⟩) .nil (by kernel_rfl) ?_
    clear S; intro ac w β S
    refine RG.done rfl (nx_then ?_)
    refine wp_ret ?_
    refine S.ret (vs := [I j]) (by kernel_rfl) ?_
    exact ⟨retI (show j = hdl a k by clear S; (first | (rw [hr, hd_end (by omega)]; done) | (rw [hr, hd_step (by omega)]; simp [he_Ins, hdi, hdb, hdc, *]; done) | (rw [hr, hd_step (by omega)]; simp_all [he_Ins, hdi, hdb, hdc]; done))), S.chg⟩

set_option maxRecDepth 100000 in
theorem c_laws_heldSlotS (w0 : World) (a : List TSlot) (pa : LP TSlot) (ha : GT.rd KK (Lt w0.heap.size) w0 a pa) (k : Int) : Calls Go.Proofs.Try.prog 98 [slv (a).length pa.1, I k].toArray w0 (fun e w' => e = .returned (I (hdl a k)) ∧ Chg NoB w0 w') := by
  refine Calls.walk (args := [slv (a).length pa.1, I k]) NoB Go.Proofs.Try.func98 rfl rfl ?_
  intro ac β S
  have hlea : a.length ≤ 4194304 := LRd.le ha
  refine wp_seq ?_
  refine RG.start ?_
  refine S.quiet (k := 1) (keep := [0, 1]) (m := 0) (σ' := ⟨[(0, .v (slv (a).length pa.1)), (1, .v (I k))], []⟩) .nil (by kernel_rfl) ?_
  clear S; intro ac w β S
  refine RG.done rfl (nx_then ?_)
  refine wp_seq ?_
  refine wp_seq ?_
  refine RG.start ?_
  refine S.quiet (k := 1) (keep := [0, 1, 5]) (m := 0) (σ' := ⟨[(0, .v (slv (a).length pa.1)), (1, .v (I k)), (5, .v (I 0))], []⟩) .nil (by kernel_rfl) ?_
  clear S; intro ac w β S
  refine RG.done rfl (nx_then ?_)
  refine wp_block ?_
  replace S := S.prune (keep := [0, 1, 5]) (m := 0) (σ' := ⟨[(0, .v (slv (a).length pa.1)), (1, .v (I k)), (5, .v (I 0))], []⟩) (by kernel_rfl)
  refine wp_loop_down (fun mm ac w => ∃ (i : Nat) (j : Int)  (u : World) (N : Bl) (β : Nat → Nat), mm = a.length - i ∧ (i ≤ a.length) ∧ (hdl a k = hdlc (a.drop i) j id) ∧ St Go.Proofs.Try.prog Go.Proofs.Try.f98.ntmps w0 NoB u N β ⟨[(0, .v (slv (a).length pa.1)), (1, .v (I j)), (5, .v (I (i : Int)))], []⟩ ac w) _ ⟨0, k, _, _, _, rfl, (by first | omega | (simp; done) | (simp; omega)), (by rfl), S.cast (by kernel_rfl)⟩ ?_
  clear S
  rintro mm ac w ⟨i, j, u, N, β, rfl, hi, hr, S⟩
  refine wp_seq ?_
  refine wp_seq ?_
  refine RG.start ?_
  refine S.quiet (k := 4) (keep := [0, 1, 5, 9]) (m := 0) (σ' := ⟨[(0, .v (slv (a).length pa.1)), (1, .v (I j)), (5, .v (I (i : Int))), (9, .v (B (decide ((i : Int) < ((a).length : Int)))))], []⟩) .nil (by kernel_rfl) ?_
  clear S; intro ac w β S
  refine RG.done rfl (nx_then ?_)
  refine S.cond (e := (decide ((i : Int) < ((a).length : Int)))) (by kernel_rfl) (fun h1 => ?_) (fun h1 => ?_)
  · have g2 : (i : Int) < ((a).length : Int) := of_decide_eq_true h1
    refine wp_skip (nx_then ?_)
    refine wp_seq ?_
    refine wp_block ?_
    refine wp_seq ?_
    refine wp_seq ?_
    refine RG.start ?_
    refine S.quiet (k := 7) (keep := [0, 1, 5, 18]) (m := 0) (σ' := ⟨[(0, .v (slv (a).length pa.1)), (1, .v (I j)), (5, .v (I (i : Int))), (18, .v (B ((el a i).page != j)))], []⟩) (.cons (Q_idx (S.arg ha) (l := (a).length) (k := i) (i := (i : Int)) rfl rfl (by omega) Go.Proofs.Try.underlying42 (by kernel_rfl)) (.cons (Q_cell (S.arg ha) (t := 3) (k := i) (j := 0) (v := I ((el a i).page)) (by omega) (by kernel_rfl) (by kernel_rfl)) .nil)) (by kernel_rfl) ?_
    clear S; intro ac w β S
    refine RG.done rfl (nx_then ?_)
    refine S.cond (e := ((el a i).page != j)) (by kernel_rfl) (fun h3 => ?_) (fun h3 => ?_)
    · have g4 : ¬ ((el a i).page = j) := bne_iff_ne.1 h3
      refine wp_seq ?_
      refine RG.start ?_
      refine S.quiet (k := 1) (keep := [4]) (m := 0) (σ' := ⟨[(4, .v (I (-1)))], []⟩) .nil (by kernel_rfl) ?_
      clear S; intro ac w β S
      refine RG.done rfl (nx_then ?_)
      refine wp_ret (rt_then (rt_block (rt_then (rt_then (rt_block (rt_then ?_))))))
      refine S.ret (vs := [I (-1)]) (by kernel_rfl) ?_
      exact ⟨retI (show (-1) = hdl a k by clear S; (first | (rw [hr, hd_end (by omega)]; done) | (rw [hr, hd_step (by omega)]; simp [he_Slot, hdi, hdb, hdc, *]; done) | (rw [hr, hd_step (by omega)]; simp_all [he_Slot, hdi, hdb, hdc]; done))), S.chg⟩
    · have g5 : (el a i).page = j := ne_f h3
      refine wp_skip (nx_then ?_)
      refine wp_seq ?_
      refine RG.start ?_
      refine S.quiet (k := 3) (keep := [0, 1, 5]) (m := 0) (σ' := ⟨[(0, .v (slv (a).length pa.1)), (1, .v (I (IntKind.i64.wrap (j + 1)))), (5, .v (I (i : Int)))], []⟩) (.cons (Q_addw (x := j) (y := 1)) .nil) (by kernel_rfl) ?_
      clear S; intro ac w β S
      refine RG.done rfl (nx_then ?_)
      refine wp_seq ?_
      refine wp_seq ?_
      refine RG.start ?_
      refine S.quiet (k := 7) (keep := [0, 1, 5, 27]) (m := 0) (σ' := ⟨[(0, .v (slv (a).length pa.1)), (1, .v (I (IntKind.i64.wrap (j + 1)))), (5, .v (I (i : Int))), (27, .v (B ((el a i).rights != (IntKind.i64.wrap (j + 1)))))], []⟩) (.cons (Q_idx (S.arg ha) (l := (a).length) (k := i) (i := (i : Int)) rfl rfl (by omega) Go.Proofs.Try.underlying42 (by kernel_rfl)) (.cons (Q_cell (S.arg ha) (t := 3) (k := i) (j := 1) (v := I ((el a i).rights)) (by omega) (by kernel_rfl) (by kernel_rfl)) .nil)) (by kernel_rfl) ?_
      clear S; intro ac w β S
      refine RG.done rfl (nx_then ?_)
      refine S.cond (e := ((el a i).rights != (IntKind.i64.wrap (j + 1)))) (by kernel_rfl) (fun h6 => ?_) (fun h6 => ?_)
      · have g7 : ¬ ((el a i).rights = (IntKind.i64.wrap (j + 1))) := bne_iff_ne.1 h6
        refine wp_seq ?_
        refine RG.start ?_
        refine S.quiet (k := 1) (keep := [4]) (m := 0) (σ' := ⟨[(4, .v (I (-1)))], []⟩) .nil (by kernel_rfl) ?_
        clear S; intro ac w β S
        refine RG.done rfl (nx_then ?_)
        refine wp_ret (rt_then (rt_block (rt_then (rt_then (rt_block (rt_then ?_))))))
        refine S.ret (vs := [I (-1)]) (by kernel_rfl) ?_
        exact ⟨retI (show (-1) = hdl a k by clear S; (first | (rw [hr, hd_end (by omega)]; done) | (rw [hr, hd_step (by omega)]; simp [he_Slot, hdi, hdb, hdc, *]; done) | (rw [hr, hd_step (by omega)]; simp_all [he_Slot, hdi, hdb, hdc]; done))), S.chg⟩
      · have g8 : (el a i).rights = (IntKind.i64.wrap (j + 1)) := ne_f h6
        refine wp_skip (nx_then ?_)
        refine RG.start ?_
        refine S.quiet (k := 3) (keep := [0, 1, 5]) (m := 0) (σ' := ⟨[(0, .v (slv (a).length pa.1)), (1, .v (I (IntKind.i64.wrap ((IntKind.i64.wrap (j + 1)) + 1)))), (5, .v (I (i : Int)))], []⟩) (.cons (Q_addw (x := (IntKind.i64.wrap (j + 1))) (y := 1)) .nil) (by kernel_rfl) ?_
        clear S; intro ac w β S
        refine RG.done rfl (nx_block (nx_then ?_))
        refine RG.start ?_
        refine S.quiet (k := 3) (keep := [0, 1, 5]) (m := 0) (σ' := ⟨[(0, .v (slv (a).length pa.1)), (1, .v (I (IntKind.i64.wrap ((IntKind.i64.wrap (j + 1)) + 1)))), (5, .v (I ((i : Int) + 1)))], []⟩) (.cons (Q_add (x := (i : Int)) (y := 1) ⟨by omega, by omega⟩) .nil) (by kernel_rfl) ?_
        clear S; intro ac w β S
        refine RG.done rfl (nx_then ?_)
        replace S := S.prune (keep := [0, 1, 5]) (m := 0) (σ' := ⟨[(0, .v (slv (a).length pa.1)), (1, .v (I (IntKind.i64.wrap ((IntKind.i64.wrap (j + 1)) + 1)))), (5, .v (I ((i : Int) + 1)))], []⟩) (by kernel_rfl)
        refine ⟨a.length - (i + 1), by omega, i + 1, (IntKind.i64.wrap ((IntKind.i64.wrap (j + 1)) + 1)), _, _, _, rfl, ?_, ?_, S.cast (by kernel_rfl)⟩
        · clear S; first | omega | (simp [*]; done) | (simp [*]; omega)
        · clear S; (rw [hr, hd_step (by omega)]; simp [he_Slot, hdi, hdb, hdc, *])
  · have g9 : ¬ ((i : Int) < ((a).length : Int)) := of_decide_eq_false h1
    refine wp_exit (ex_then (ex_then (ex_hit (nx_then ?_))))
    refine wp_seq ?_
    refine RG.start ?_
    refine S.quiet (k := 2) (keep := [4]) (m := 0) (σ' := ⟨[(4, .v (I j))], []⟩) .nil (by kernel_rfl) ?_
    clear S; intro ac w β S
    refine RG.done rfl (nx_then ?_)
    refine wp_ret ?_
    refine S.ret (vs := [I j]) (by kernel_rfl) ?_
    exact ⟨retI (show j = hdl a k by clear S; (first | (rw [hr, hd_end (by omega)]; done) | (rw [hr, hd_step (by omega)]; simp [he_Slot, hdi, hdb, hdc, *]; done) | (rw [hr, hd_step (by omega)]; simp_all [he_Slot, hdi, hdb, hdc]; done))), S.chg⟩

set_option maxRecDepth 100000 in
theorem c_laws_heldGuestS (w0 : World) (a : List TGuest) (pa : LP TGuest) (ha : GT.rd KK (Lt w0.heap.size) w0 a pa) (k : Int) : Calls Go.Proofs.Try.prog 75 [slv (a).length pa.1, I k].toArray w0 (fun e w' => e = .returned (I (hdl a k)) ∧ Chg NoB w0 w') := by
  refine Calls.walk (args := [slv (a).length pa.1, I k]) NoB Go.Proofs.Try.func75 rfl rfl ?_
  intro ac β S
  have hlea : a.length ≤ 4194304 := LRd.le ha
  refine wp_seq ?_
  refine RG.start ?_
  refine S.quiet (k := 1) (keep := [0, 1]) (m := 0) (σ' := ⟨[(0, .v (slv (a).length pa.1)), (1, .v (I k))], []⟩) .nil (by kernel_rfl) ?_
  clear S; intro ac w β S
  refine RG.done rfl (nx_then ?_)
  refine wp_seq ?_
  refine wp_seq ?_
  refine RG.start ?_
  refine S.quiet (k := 1) (keep := [0, 1, 5]) (m := 0) (σ' := ⟨[(0, .v (slv (a).length pa.1)), (1, .v (I k)), (5, .v (I 0))], []⟩) .nil (by kernel_rfl) ?_
  clear S; intro ac w β S
  refine RG.done rfl (nx_then ?_)
  refine wp_block ?_
  replace S := S.prune (keep := [0, 1, 5]) (m := 0) (σ' := ⟨[(0, .v (slv (a).length pa.1)), (1, .v (I k)), (5, .v (I 0))], []⟩) (by kernel_rfl)
  refine wp_loop_down (fun mm ac w => ∃ (i : Nat) (j : Int)  (u : World) (N : Bl) (β : Nat → Nat), mm = a.length - i ∧ (i ≤ a.length) ∧ (hdl a k = hdlc (a.drop i) j id) ∧ St Go.Proofs.Try.prog Go.Proofs.Try.f75.ntmps w0 NoB u N β ⟨[(0, .v (slv (a).length pa.1)), (1, .v (I j)), (5, .v (I (i : Int)))], []⟩ ac w) _ ⟨0, k, _, _, _, rfl, (by first | omega | (simp; done) | (simp; omega)), (by rfl), S.cast (by kernel_rfl)⟩ ?_
  clear S
  rintro mm ac w ⟨i, j, u, N, β, rfl, hi, hr, S⟩
  refine wp_seq ?_
  refine wp_seq ?_
  refine RG.start ?_
  refine S.quiet (k := 4) (keep := [0, 1, 5, 9]) (m := 0) (σ' := ⟨[(0, .v (slv (a).length pa.1)), (1, .v (I j)), (5, .v (I (i : Int))), (9, .v (B (decide ((i : Int) < ((a).length : Int)))))], []⟩) .nil (by kernel_rfl) ?_
  clear S; intro ac w β S
  refine RG.done rfl (nx_then ?_)
  refine S.cond (e := (decide ((i : Int) < ((a).length : Int)))) (by kernel_rfl) (fun h1 => ?_) (fun h1 => ?_)
  · have g2 : (i : Int) < ((a).length : Int) := of_decide_eq_true h1
    refine wp_skip (nx_then ?_)
    refine wp_seq ?_
    refine wp_block ?_
    refine wp_seq ?_
    refine RG.start ?_
    refine S.quiet (k := 8) (keep := [0, 1, 5]) (m := 0) (σ' := ⟨[(0, .v (slv (a).length pa.1)), (1, .v (I (hdl ((el a i).prog) j))), (5, .v (I (i : Int)))], []⟩) (.cons (Q_idx (S.arg ha) (l := (a).length) (k := i) (i := (i : Int)) rfl rfl (by omega) Go.Proofs.Try.underlying43 (by kernel_rfl)) (.cons (Q_cell (S.arg ha) (t := 123) (k := i) (j := 0) (v := slv ((el a i).prog).length ((pa.2 i).prog).1) (by omega) (by kernel_rfl) (by kernel_rfl)) (.cons (Q_call fun w hw => c_laws_heldInsS w ((el a i).prog) ((pa.2 i).prog) (rd_of (RGuest.prog (d := (el a i)) (LRd.el (S.arg ha) i (by omega))) hw) j) .nil))) (by kernel_rfl) ?_
    clear S; intro ac w β S
    refine RG.done rfl (nx_then ?_)
    refine wp_seq ?_
    refine wp_seq ?_
    refine RG.start ?_
    refine S.quiet (k := 2) (keep := [0, 1, 5, 20]) (m := 0) (σ' := ⟨[(0, .v (slv (a).length pa.1)), (1, .v (I (hdl ((el a i).prog) j))), (5, .v (I (i : Int))), (20, .v (B (decide ((hdl ((el a i).prog) j) < 0))))], []⟩) .nil (by kernel_rfl) ?_
    clear S; intro ac w β S
    refine RG.done rfl (nx_then ?_)
    refine S.cond (e := (decide ((hdl ((el a i).prog) j) < 0))) (by kernel_rfl) (fun h3 => ?_) (fun h3 => ?_)
    · have g4 : (hdl ((el a i).prog) j) < 0 := of_decide_eq_true h3
      refine wp_seq ?_
      refine RG.start ?_
      refine S.quiet (k := 1) (keep := [4]) (m := 0) (σ' := ⟨[(4, .v (I (-1)))], []⟩) .nil (by kernel_rfl) ?_
      clear S; intro ac w β S
      refine RG.done rfl (nx_then ?_)
      refine wp_ret (rt_then (rt_block (rt_then (rt_then (rt_block (rt_then ?_))))))
      refine S.ret (vs := [I (-1)]) (by kernel_rfl) ?_
      exact ⟨retI (show (-1) = hdl a k by clear S; (first | (rw [hr, hd_end (by omega)]; done) | (rw [hr, hd_step (by omega)]; simp [he_Guest, hdi, hdb, hdc, *]; done) | (rw [hr, hd_step (by omega)]; simp_all [he_Guest, hdi, hdb, hdc]; done))), S.chg⟩
    · have g5 : ¬ ((hdl ((el a i).prog) j) < 0) := of_decide_eq_false h3
      refine wp_skip (nx_then ?_)
      refine wp_seq ?_
      refine wp_seq ?_
      refine RG.start ?_
      refine S.quiet (k := 7) (keep := [0, 1, 5, 27]) (m := 0) (σ' := ⟨[(0, .v (slv (a).length pa.1)), (1, .v (I (hdl ((el a i).prog) j))), (5, .v (I (i : Int))), (27, .v (B ((el a i).acc != (hdl ((el a i).prog) j))))], []⟩) (.cons (Q_idx (S.arg ha) (l := (a).length) (k := i) (i := (i : Int)) rfl rfl (by omega) Go.Proofs.Try.underlying43 (by kernel_rfl)) (.cons (Q_cell (S.arg ha) (t := 3) (k := i) (j := 1) (v := I ((el a i).acc)) (by omega) (by kernel_rfl) (by kernel_rfl)) .nil)) (by kernel_rfl) ?_
      clear S; intro ac w β S
      refine RG.done rfl (nx_then ?_)
      refine S.cond (e := ((el a i).acc != (hdl ((el a i).prog) j))) (by kernel_rfl) (fun h6 => ?_) (fun h6 => ?_)
      · have g7 : ¬ ((el a i).acc = (hdl ((el a i).prog) j)) := bne_iff_ne.1 h6
        refine wp_seq ?_
        refine RG.start ?_
        refine S.quiet (k := 1) (keep := [4]) (m := 0) (σ' := ⟨[(4, .v (I (-1)))], []⟩) .nil (by kernel_rfl) ?_
        clear S; intro ac w β S
        refine RG.done rfl (nx_then ?_)
        refine wp_ret (rt_then (rt_block (rt_then (rt_then (rt_block (rt_then ?_))))))
        refine S.ret (vs := [I (-1)]) (by kernel_rfl) ?_
        exact ⟨retI (show (-1) = hdl a k by clear S; (first | (rw [hr, hd_end (by omega)]; done) | (rw [hr, hd_step (by omega)]; simp [he_Guest, hdi, hdb, hdc, *]; done) | (rw [hr, hd_step (by omega)]; simp_all [he_Guest, hdi, hdb, hdc]; done))), S.chg⟩
      · have g8 : (el a i).acc = (hdl ((el a i).prog) j) := ne_f h6
        refine wp_skip (nx_then ?_)
        refine wp_seq ?_
        refine RG.start ?_
        refine S.quiet (k := 3) (keep := [0, 1, 5]) (m := 0) (σ' := ⟨[(0, .v (slv (a).length pa.1)), (1, .v (I (IntKind.i64.wrap ((hdl ((el a i).prog) j) + 1)))), (5, .v (I (i : Int)))], []⟩) (.cons (Q_addw (x := (hdl ((el a i).prog) j)) (y := 1)) .nil) (by kernel_rfl) ?_
        clear S; intro ac w β S
        refine RG.done rfl (nx_then ?_)
        refine wp_seq ?_
        refine wp_seq ?_
        refine RG.start ?_
        refine S.quiet (k := 7) (keep := [0, 1, 5, 36]) (m := 0) (σ' := ⟨[(0, .v (slv (a).length pa.1)), (1, .v (I (IntKind.i64.wrap ((hdl ((el a i).prog) j) + 1)))), (5, .v (I (i : Int))), (36, .v (B ((el a i).pc != (IntKind.i64.wrap ((hdl ((el a i).prog) j) + 1)))))], []⟩) (.cons (Q_idx (S.arg ha) (l := (a).length) (k := i) (i := (i : Int)) rfl rfl (by omega) Go.Proofs.Try.underlying43 (by kernel_rfl)) (.cons (Q_cell (S.arg ha) (t := 3) (k := i) (j := 2) (v := I ((el a i).pc)) (by omega) (by kernel_rfl) (by kernel_rfl)) .nil)) (by kernel_rfl) ?_
        clear S; intro ac w β S
        refine RG.done rfl (nx_then ?_)
        refine S.cond (e := ((el a i).pc != (IntKind.i64.wrap ((hdl ((el a i).prog) j) + 1)))) (by kernel_rfl) (fun h9 => ?_) (fun h9 => ?_)
        · have g10 : ¬ ((el a i).pc = (IntKind.i64.wrap ((hdl ((el a i).prog) j) + 1))) := bne_iff_ne.1 h9
          refine wp_seq ?_
          refine RG.start ?_
          refine S.quiet (k := 1) (keep := [4]) (m := 0) (σ' := ⟨[(4, .v (I (-1)))], []⟩) .nil (by kernel_rfl) ?_
          clear S; intro ac w β S
          refine RG.done rfl (nx_then ?_)
          refine wp_ret (rt_then (rt_block (rt_then (rt_then (rt_block (rt_then ?_))))))
          refine S.ret (vs := [I (-1)]) (by kernel_rfl) ?_
          exact ⟨retI (show (-1) = hdl a k by clear S; (first | (rw [hr, hd_end (by omega)]; done) | (rw [hr, hd_step (by omega)]; simp [he_Guest, hdi, hdb, hdc, *]; done) | (rw [hr, hd_step (by omega)]; simp_all [he_Guest, hdi, hdb, hdc]; done))), S.chg⟩
        · have g11 : (el a i).pc = (IntKind.i64.wrap ((hdl ((el a i).prog) j) + 1)) := ne_f h9
          refine wp_skip (nx_then ?_)
          refine wp_seq ?_
          refine RG.start ?_
          refine S.quiet (k := 3) (keep := [0, 1, 5]) (m := 0) (σ' := ⟨[(0, .v (slv (a).length pa.1)), (1, .v (I (IntKind.i64.wrap ((IntKind.i64.wrap ((hdl ((el a i).prog) j) + 1)) + 1)))), (5, .v (I (i : Int)))], []⟩) (.cons (Q_addw (x := (IntKind.i64.wrap ((hdl ((el a i).prog) j) + 1))) (y := 1)) .nil) (by kernel_rfl) ?_
          clear S; intro ac w β S
          refine RG.done rfl (nx_then ?_)
          refine wp_seq ?_
          refine RG.start ?_
          refine S.quiet (k := 8) (keep := [0, 1, 5]) (m := 0) (σ' := ⟨[(0, .v (slv (a).length pa.1)), (1, .v (I (hdl ((el a i).written) (IntKind.i64.wrap ((IntKind.i64.wrap ((hdl ((el a i).prog) j) + 1)) + 1))))), (5, .v (I (i : Int)))], []⟩) (.cons (Q_idx (S.arg ha) (l := (a).length) (k := i) (i := (i : Int)) rfl rfl (by omega) Go.Proofs.Try.underlying43 (by kernel_rfl)) (.cons (Q_cell (S.arg ha) (t := 42) (k := i) (j := 3) (v := slv ((el a i).written).length ((pa.2 i).written).1) (by omega) (by kernel_rfl) (by kernel_rfl)) (.cons (Q_call fun w hw => c_laws_heldSlotS w ((el a i).written) ((pa.2 i).written) (rd_of (RGuest.written (d := (el a i)) (LRd.el (S.arg ha) i (by omega))) hw) (IntKind.i64.wrap ((IntKind.i64.wrap ((hdl ((el a i).prog) j) + 1)) + 1))) .nil))) (by kernel_rfl) ?_
          clear S; intro ac w β S
          refine RG.done rfl (nx_then ?_)
          refine wp_seq ?_
          refine wp_seq ?_
          refine RG.start ?_
          refine S.quiet (k := 2) (keep := [0, 1, 5, 47]) (m := 0) (σ' := ⟨[(0, .v (slv (a).length pa.1)), (1, .v (I (hdl ((el a i).written) (IntKind.i64.wrap ((IntKind.i64.wrap ((hdl ((el a i).prog) j) + 1)) + 1))))), (5, .v (I (i : Int))), (47, .v (B (decide ((hdl ((el a i).written) (IntKind.i64.wrap ((IntKind.i64.wrap ((hdl ((el a i).prog) j) + 1)) + 1))) < 0))))], []⟩) .nil (by kernel_rfl) ?_
          clear S; intro ac w β S
          refine RG.done rfl (nx_then ?_)
          refine S.cond (e := (decide ((hdl ((el a i).written) (IntKind.i64.wrap ((IntKind.i64.wrap ((hdl ((el a i).prog) j) + 1)) + 1))) < 0))) (by kernel_rfl) (fun h12 => ?_) (fun h12 => ?_)
          · have g13 : (hdl ((el a i).written) (IntKind.i64.wrap ((IntKind.i64.wrap ((hdl ((el a i).prog) j) + 1)) + 1))) < 0 := of_decide_eq_true h12
            refine wp_seq ?_
            refine RG.start ?_
            refine S.quiet (k := 1) (keep := [4]) (m := 0) (σ' := ⟨[(4, .v (I (-1)))], []⟩) .nil (by kernel_rfl) ?_
            clear S; intro ac w β S
            refine RG.done rfl (nx_then ?_)
            refine wp_ret (rt_then (rt_block (rt_then (rt_then (rt_block (rt_then ?_))))))
            refine S.ret (vs := [I (-1)]) (by kernel_rfl) ?_
            exact ⟨retI (show (-1) = hdl a k by clear S; (first | (rw [hr, hd_end (by omega)]; done) | (rw [hr, hd_step (by omega)]; simp [he_Guest, hdi, hdb, hdc, *]; done) | (rw [hr, hd_step (by omega)]; simp_all [he_Guest, hdi, hdb, hdc]; done))), S.chg⟩
          · have g14 : ¬ ((hdl ((el a i).written) (IntKind.i64.wrap ((IntKind.i64.wrap ((hdl ((el a i).prog) j) + 1)) + 1))) < 0) := of_decide_eq_false h12
            refine wp_skip (nx_then ?_)
            refine wp_seq ?_
            refine RG.start ?_
            refine S.quiet (k := 8) (keep := [0, 1, 5]) (m := 0) (σ' := ⟨[(0, .v (slv (a).length pa.1)), (1, .v (I (hdl ((el a i).live) (hdl ((el a i).written) (IntKind.i64.wrap ((IntKind.i64.wrap ((hdl ((el a i).prog) j) + 1)) + 1)))))), (5, .v (I (i : Int)))], []⟩) (.cons (Q_idx (S.arg ha) (l := (a).length) (k := i) (i := (i : Int)) rfl rfl (by omega) Go.Proofs.Try.underlying43 (by kernel_rfl)) (.cons (Q_cell (S.arg ha) (t := 42) (k := i) (j := 4) (v := slv ((el a i).live).length ((pa.2 i).live).1) (by omega) (by kernel_rfl) (by kernel_rfl)) (.cons (Q_call fun w hw => c_laws_heldSlotS w ((el a i).live) ((pa.2 i).live) (rd_of (RGuest.live (d := (el a i)) (LRd.el (S.arg ha) i (by omega))) hw) (hdl ((el a i).written) (IntKind.i64.wrap ((IntKind.i64.wrap ((hdl ((el a i).prog) j) + 1)) + 1)))) .nil))) (by kernel_rfl) ?_
            clear S; intro ac w β S
            refine RG.done rfl (nx_then ?_)
            refine wp_seq ?_
            refine wp_seq ?_
            refine RG.start ?_
            refine S.quiet (k := 2) (keep := [0, 1, 5, 56]) (m := 0) (σ' := ⟨[(0, .v (slv (a).length pa.1)), (1, .v (I (hdl ((el a i).live) (hdl ((el a i).written) (IntKind.i64.wrap ((IntKind.i64.wrap ((hdl ((el a i).prog) j) + 1)) + 1)))))), (5, .v (I (i : Int))), (56, .v (B (decide ((hdl ((el a i).live) (hdl ((el a i).written) (IntKind.i64.wrap ((IntKind.i64.wrap ((hdl ((el a i).prog) j) + 1)) + 1)))) < 0))))], []⟩) .nil (by kernel_rfl) ?_
            clear S; intro ac w β S
            refine RG.done rfl (nx_then ?_)
            refine S.cond (e := (decide ((hdl ((el a i).live) (hdl ((el a i).written) (IntKind.i64.wrap ((IntKind.i64.wrap ((hdl ((el a i).prog) j) + 1)) + 1)))) < 0))) (by kernel_rfl) (fun h15 => ?_) (fun h15 => ?_)
            · have g16 : (hdl ((el a i).live) (hdl ((el a i).written) (IntKind.i64.wrap ((IntKind.i64.wrap ((hdl ((el a i).prog) j) + 1)) + 1)))) < 0 := of_decide_eq_true h15
              refine wp_seq ?_
              refine RG.start ?_
              refine S.quiet (k := 1) (keep := [4]) (m := 0) (σ' := ⟨[(4, .v (I (-1)))], []⟩) .nil (by kernel_rfl) ?_
              clear S; intro ac w β S
              refine RG.done rfl (nx_then ?_)
              refine wp_ret (rt_then (rt_block (rt_then (rt_then (rt_block (rt_then ?_))))))
              refine S.ret (vs := [I (-1)]) (by kernel_rfl) ?_
              exact ⟨retI (show (-1) = hdl a k by clear S; (first | (rw [hr, hd_end (by omega)]; done) | (rw [hr, hd_step (by omega)]; simp [he_Guest, hdi, hdb, hdc, *]; done) | (rw [hr, hd_step (by omega)]; simp_all [he_Guest, hdi, hdb, hdc]; done))), S.chg⟩
            · have g17 : ¬ ((hdl ((el a i).live) (hdl ((el a i).written) (IntKind.i64.wrap ((IntKind.i64.wrap ((hdl ((el a i).prog) j) + 1)) + 1)))) < 0) := of_decide_eq_false h15
              refine wp_skip (nx_then ?_)
              refine wp_seq ?_
              refine wp_seq ?_
              refine RG.start ?_
              refine S.quiet (k := 8) (keep := [0, 1, 5, 64]) (m := 0) (σ' := ⟨[(0, .v (slv (a).length pa.1)), (1, .v (I (hdl ((el a i).live) (hdl ((el a i).written) (IntKind.i64.wrap ((IntKind.i64.wrap ((hdl ((el a i).prog) j) + 1)) + 1)))))), (5, .v (I (i : Int))), (64, .v (B (((el a i).ctl).traps != (hdl ((el a i).live) (hdl ((el a i).written) (IntKind.i64.wrap ((IntKind.i64.wrap ((hdl ((el a i).prog) j) + 1)) + 1)))))))], []⟩) (.cons (Q_idx (S.arg ha) (l := (a).length) (k := i) (i := (i : Int)) rfl rfl (by omega) Go.Proofs.Try.underlying43 (by kernel_rfl)) (.cons (Q_cell (S.arg ha) (t := 3) (k := i) (j := 5) (v := I (((el a i).ctl).traps)) (by omega) (by kernel_rfl) (by kernel_rfl)) .nil)) (by kernel_rfl) ?_
              clear S; intro ac w β S
              refine RG.done rfl (nx_then ?_)
              refine S.cond (e := (((el a i).ctl).traps != (hdl ((el a i).live) (hdl ((el a i).written) (IntKind.i64.wrap ((IntKind.i64.wrap ((hdl ((el a i).prog) j) + 1)) + 1)))))) (by kernel_rfl) (fun h18 => ?_) (fun h18 => ?_)
              · have g19 : ¬ (((el a i).ctl).traps = (hdl ((el a i).live) (hdl ((el a i).written) (IntKind.i64.wrap ((IntKind.i64.wrap ((hdl ((el a i).prog) j) + 1)) + 1))))) := bne_iff_ne.1 h18
                refine wp_seq ?_
                refine RG.start ?_
                refine S.quiet (k := 1) (keep := [4]) (m := 0) (σ' := ⟨[(4, .v (I (-1)))], []⟩) .nil (by kernel_rfl) ?_
                clear S; intro ac w β S
                refine RG.done rfl (nx_then ?_)
                refine wp_ret (rt_then (rt_block (rt_then (rt_then (rt_block (rt_then ?_))))))
                refine S.ret (vs := [I (-1)]) (by kernel_rfl) ?_
                exact ⟨retI (show (-1) = hdl a k by clear S; (first | (rw [hr, hd_end (by omega)]; done) | (rw [hr, hd_step (by omega)]; simp [he_Guest, hdi, hdb, hdc, *]; done) | (rw [hr, hd_step (by omega)]; simp_all [he_Guest, hdi, hdb, hdc]; done))), S.chg⟩
              · have g20 : ((el a i).ctl).traps = (hdl ((el a i).live) (hdl ((el a i).written) (IntKind.i64.wrap ((IntKind.i64.wrap ((hdl ((el a i).prog) j) + 1)) + 1)))) := ne_f h18
                refine wp_skip (nx_then ?_)
                refine wp_seq ?_
                refine RG.start ?_
                refine S.quiet (k := 3) (keep := [0, 1, 5]) (m := 0) (σ' := ⟨[(0, .v (slv (a).length pa.1)), (1, .v (I (IntKind.i64.wrap ((hdl ((el a i).live) (hdl ((el a i).written) (IntKind.i64.wrap ((IntKind.i64.wrap ((hdl ((el a i).prog) j) + 1)) + 1)))) + 1)))), (5, .v (I (i : Int)))], []⟩) (.cons (Q_addw (x := (hdl ((el a i).live) (hdl ((el a i).written) (IntKind.i64.wrap ((IntKind.i64.wrap ((hdl ((el a i).prog) j) + 1)) + 1))))) (y := 1)) .nil) (by kernel_rfl) ?_
                clear S; intro ac w β S
                refine RG.done rfl (nx_then ?_)
                refine wp_seq ?_
                refine wp_seq ?_
                refine RG.start ?_
                refine S.quiet (k := 8) (keep := [0, 1, 5, 74]) (m := 0) (σ' := ⟨[(0, .v (slv (a).length pa.1)), (1, .v (I (IntKind.i64.wrap ((hdl ((el a i).live) (hdl ((el a i).written) (IntKind.i64.wrap ((IntKind.i64.wrap ((hdl ((el a i).prog) j) + 1)) + 1)))) + 1)))), (5, .v (I (i : Int))), (74, .v (B (((el a i).ctl).post != (IntKind.i64.wrap ((hdl ((el a i).live) (hdl ((el a i).written) (IntKind.i64.wrap ((IntKind.i64.wrap ((hdl ((el a i).prog) j) + 1)) + 1)))) + 1)))))], []⟩) (.cons (Q_idx (S.arg ha) (l := (a).length) (k := i) (i := (i : Int)) rfl rfl (by omega) Go.Proofs.Try.underlying43 (by kernel_rfl)) (.cons (Q_cell (S.arg ha) (t := 3) (k := i) (j := 6) (v := I (((el a i).ctl).post)) (by omega) (by kernel_rfl) (by kernel_rfl)) .nil)) (by kernel_rfl) ?_
                clear S; intro ac w β S
                refine RG.done rfl (nx_then ?_)
                refine S.cond (e := (((el a i).ctl).post != (IntKind.i64.wrap ((hdl ((el a i).live) (hdl ((el a i).written) (IntKind.i64.wrap ((IntKind.i64.wrap ((hdl ((el a i).prog) j) + 1)) + 1)))) + 1)))) (by kernel_rfl) (fun h21 => ?_) (fun h21 => ?_)
                · have g22 : ¬ (((el a i).ctl).post = (IntKind.i64.wrap ((hdl ((el a i).live) (hdl ((el a i).written) (IntKind.i64.wrap ((IntKind.i64.wrap ((hdl ((el a i).prog) j) + 1)) + 1)))) + 1))) := bne_iff_ne.1 h21
                  refine wp_seq ?_
                  refine RG.start ?_
                  refine S.quiet (k := 1) (keep := [4]) (m := 0) (σ' := ⟨[(4, .v (I (-1)))], []⟩) .nil (by kernel_rfl) ?_
                  clear S; intro ac w β S
                  refine RG.done rfl (nx_then ?_)
                  refine wp_ret (rt_then (rt_block (rt_then (rt_then (rt_block (rt_then ?_))))))
                  refine S.ret (vs := [I (-1)]) (by kernel_rfl) ?_
                  exact ⟨retI (show (-1) = hdl a k by clear S; (first | (rw [hr, hd_end (by omega)]; done) | (rw [hr, hd_step (by omega)]; simp [he_Guest, hdi, hdb, hdc, *]; done) | (rw [hr, hd_step (by omega)]; simp_all [he_Guest, hdi, hdb, hdc]; done))), S.chg⟩
                · have g23 : ((el a i).ctl).post = (IntKind.i64.wrap ((hdl ((el a i).live) (hdl ((el a i).written) (IntKind.i64.wrap ((IntKind.i64.wrap ((hdl ((el a i).prog) j) + 1)) + 1)))) + 1)) := ne_f h21
                  refine wp_skip (nx_then ?_)
                  refine wp_seq ?_
                  refine RG.start ?_
                  refine S.quiet (k := 3) (keep := [0, 1, 5]) (m := 0) (σ' := ⟨[(0, .v (slv (a).length pa.1)), (1, .v (I (IntKind.i64.wrap ((IntKind.i64.wrap ((hdl ((el a i).live) (hdl ((el a i).written) (IntKind.i64.wrap ((IntKind.i64.wrap ((hdl ((el a i).prog) j) + 1)) + 1)))) + 1)) + 1)))), (5, .v (I (i : Int)))], []⟩) (.cons (Q_addw (x := (IntKind.i64.wrap ((hdl ((el a i).live) (hdl ((el a i).written) (IntKind.i64.wrap ((IntKind.i64.wrap ((hdl ((el a i).prog) j) + 1)) + 1)))) + 1))) (y := 1)) .nil) (by kernel_rfl) ?_
                  clear S; intro ac w β S
                  refine RG.done rfl (nx_then ?_)
                  refine wp_seq ?_
                  refine wp_seq ?_
                  refine RG.start ?_
                  refine S.quiet (k := 10) (keep := [0, 1, 5, 86]) (m := 0) (σ' := ⟨[(0, .v (slv (a).length pa.1)), (1, .v (I (IntKind.i64.wrap ((IntKind.i64.wrap ((hdl ((el a i).live) (hdl ((el a i).written) (IntKind.i64.wrap ((IntKind.i64.wrap ((hdl ((el a i).prog) j) + 1)) + 1)))) + 1)) + 1)))), (5, .v (I (i : Int))), (86, .v (B (!(((el a i).ctl).opn == ((Int.tmod (IntKind.i64.wrap ((IntKind.i64.wrap ((hdl ((el a i).live) (hdl ((el a i).written) (IntKind.i64.wrap ((IntKind.i64.wrap ((hdl ((el a i).prog) j) + 1)) + 1)))) + 1)) + 1)) 3) == 0)))))], []⟩) (.cons (Q_idx (S.arg ha) (l := (a).length) (k := i) (i := (i : Int)) rfl rfl (by omega) Go.Proofs.Try.underlying43 (by kernel_rfl)) (.cons (Q_cell (S.arg ha) (t := 4) (k := i) (j := 7) (v := B (((el a i).ctl).opn)) (by omega) (by kernel_rfl) (by kernel_rfl)) (.cons (Q_rem (x := (IntKind.i64.wrap ((IntKind.i64.wrap ((hdl ((el a i).live) (hdl ((el a i).written) (IntKind.i64.wrap ((IntKind.i64.wrap ((hdl ((el a i).prog) j) + 1)) + 1)))) + 1)) + 1))) (y := 3) (by decide)) .nil))) (by kernel_rfl) ?_
                  clear S; intro ac w β S
                  refine RG.done rfl (nx_then ?_)
                  refine S.cond (e := (!(((el a i).ctl).opn == ((Int.tmod (IntKind.i64.wrap ((IntKind.i64.wrap ((hdl ((el a i).live) (hdl ((el a i).written) (IntKind.i64.wrap ((IntKind.i64.wrap ((hdl ((el a i).prog) j) + 1)) + 1)))) + 1)) + 1)) 3) == 0)))) (by kernel_rfl) (fun h24 => ?_) (fun h24 => ?_)
                  · have h25 : (((el a i).ctl).opn == ((Int.tmod (IntKind.i64.wrap ((IntKind.i64.wrap ((hdl ((el a i).live) (hdl ((el a i).written) (IntKind.i64.wrap ((IntKind.i64.wrap ((hdl ((el a i).prog) j) + 1)) + 1)))) + 1)) + 1)) 3) == 0)) = false := not_t h24
                    have g26 : ¬ (((el a i).ctl).opn = ((Int.tmod (IntKind.i64.wrap ((IntKind.i64.wrap ((hdl ((el a i).live) (hdl ((el a i).written) (IntKind.i64.wrap ((IntKind.i64.wrap ((hdl ((el a i).prog) j) + 1)) + 1)))) + 1)) + 1)) 3) == 0)) := ne_of_beq_false h25
                    refine wp_seq ?_
                    refine RG.start ?_
                    refine S.quiet (k := 1) (keep := [4]) (m := 0) (σ' := ⟨[(4, .v (I (-1)))], []⟩) .nil (by kernel_rfl) ?_
                    clear S; intro ac w β S
                    refine RG.done rfl (nx_then ?_)
                    refine wp_ret (rt_then (rt_block (rt_then (rt_then (rt_block (rt_then ?_))))))
                    refine S.ret (vs := [I (-1)]) (by kernel_rfl) ?_
                    exact ⟨retI (show (-1) = hdl a k by clear S; (first | (rw [hr, hd_end (by omega)]; done) | (rw [hr, hd_step (by omega)]; simp [he_Guest, hdi, hdb, hdc, *]; done) | (rw [hr, hd_step (by omega)]; simp_all [he_Guest, hdi, hdb, hdc]; done))), S.chg⟩
                  · have h27 : (((el a i).ctl).opn == ((Int.tmod (IntKind.i64.wrap ((IntKind.i64.wrap ((hdl ((el a i).live) (hdl ((el a i).written) (IntKind.i64.wrap ((IntKind.i64.wrap ((hdl ((el a i).prog) j) + 1)) + 1)))) + 1)) + 1)) 3) == 0)) = true := not_f h24
                    have g28 : ((el a i).ctl).opn = ((Int.tmod (IntKind.i64.wrap ((IntKind.i64.wrap ((hdl ((el a i).live) (hdl ((el a i).written) (IntKind.i64.wrap ((IntKind.i64.wrap ((hdl ((el a i).prog) j) + 1)) + 1)))) + 1)) + 1)) 3) == 0) := eq_of_beq h27
                    refine wp_skip (nx_then ?_)
                    refine wp_seq ?_
                    refine RG.start ?_
                    refine S.quiet (k := 3) (keep := [0, 1, 5]) (m := 0) (σ' := ⟨[(0, .v (slv (a).length pa.1)), (1, .v (I (IntKind.i64.wrap ((IntKind.i64.wrap ((IntKind.i64.wrap ((hdl ((el a i).live) (hdl ((el a i).written) (IntKind.i64.wrap ((IntKind.i64.wrap ((hdl ((el a i).prog) j) + 1)) + 1)))) + 1)) + 1)) + 1)))), (5, .v (I (i : Int)))], []⟩) (.cons (Q_addw (x := (IntKind.i64.wrap ((IntKind.i64.wrap ((hdl ((el a i).live) (hdl ((el a i).written) (IntKind.i64.wrap ((IntKind.i64.wrap ((hdl ((el a i).prog) j) + 1)) + 1)))) + 1)) + 1))) (y := 1)) .nil) (by kernel_rfl) ?_
                    clear S; intro ac w β S
                    refine RG.done rfl (nx_then ?_)
                    refine wp_seq ?_
                    refine wp_seq ?_
                    refine RG.start ?_
                    refine S.quiet (k := 7) (keep := [0, 1, 5, 95]) (m := 0) (σ' := ⟨[(0, .v (slv (a).length pa.1)), (1, .v (I (IntKind.i64.wrap ((IntKind.i64.wrap ((IntKind.i64.wrap ((hdl ((el a i).live) (hdl ((el a i).written) (IntKind.i64.wrap ((IntKind.i64.wrap ((hdl ((el a i).prog) j) + 1)) + 1)))) + 1)) + 1)) + 1)))), (5, .v (I (i : Int))), (95, .v (B ((el a i).pend != (IntKind.i64.wrap ((IntKind.i64.wrap ((IntKind.i64.wrap ((hdl ((el a i).live) (hdl ((el a i).written) (IntKind.i64.wrap ((IntKind.i64.wrap ((hdl ((el a i).prog) j) + 1)) + 1)))) + 1)) + 1)) + 1)))))], []⟩) (.cons (Q_idx (S.arg ha) (l := (a).length) (k := i) (i := (i : Int)) rfl rfl (by omega) Go.Proofs.Try.underlying43 (by kernel_rfl)) (.cons (Q_cell (S.arg ha) (t := 3) (k := i) (j := 8) (v := I ((el a i).pend)) (by omega) (by kernel_rfl) (by kernel_rfl)) .nil)) (by kernel_rfl) ?_
                    clear S; intro ac w β S
                    refine RG.done rfl (nx_then ?_)
                    refine S.cond (e := ((el a i).pend != (IntKind.i64.wrap ((IntKind.i64.wrap ((IntKind.i64.wrap ((hdl ((el a i).live) (hdl ((el a i).written) (IntKind.i64.wrap ((IntKind.i64.wrap ((hdl ((el a i).prog) j) + 1)) + 1)))) + 1)) + 1)) + 1)))) (by kernel_rfl) (fun h29 => ?_) (fun h29 => ?_)
                    · have g30 : ¬ ((el a i).pend = (IntKind.i64.wrap ((IntKind.i64.wrap ((IntKind.i64.wrap ((hdl ((el a i).live) (hdl ((el a i).written) (IntKind.i64.wrap ((IntKind.i64.wrap ((hdl ((el a i).prog) j) + 1)) + 1)))) + 1)) + 1)) + 1))) := bne_iff_ne.1 h29
                      refine wp_seq ?_
                      refine RG.start ?_
                      refine S.quiet (k := 1) (keep := [4]) (m := 0) (σ' := ⟨[(4, .v (I (-1)))], []⟩) .nil (by kernel_rfl) ?_
                      clear S; intro ac w β S
                      refine RG.done rfl (nx_then ?_)
                      refine wp_ret (rt_then (rt_block (rt_then (rt_then (rt_block (rt_then ?_))))))
                      refine S.ret (vs := [I (-1)]) (by kernel_rfl) ?_
                      exact ⟨retI (show (-1) = hdl a k by clear S; (first | (rw [hr, hd_end (by omega)]; done) | (rw [hr, hd_step (by omega)]; simp [he_Guest, hdi, hdb, hdc, *]; done) | (rw [hr, hd_step (by omega)]; simp_all [he_Guest, hdi, hdb, hdc]; done))), S.chg⟩
                    · have g31 : (el a i).pend = (IntKind.i64.wrap ((IntKind.i64.wrap ((IntKind.i64.wrap ((hdl ((el a i).live) (hdl ((el a i).written) (IntKind.i64.wrap ((IntKind.i64.wrap ((hdl ((el a i).prog) j) + 1)) + 1)))) + 1)) + 1)) + 1)) := ne_f h29
                      refine wp_skip (nx_then ?_)
                      refine wp_seq ?_
                      refine RG.start ?_
                      refine S.quiet (k := 3) (keep := [0, 1, 5]) (m := 0) (σ' := ⟨[(0, .v (slv (a).length pa.1)), (1, .v (I (IntKind.i64.wrap ((IntKind.i64.wrap ((IntKind.i64.wrap ((IntKind.i64.wrap ((hdl ((el a i).live) (hdl ((el a i).written) (IntKind.i64.wrap ((IntKind.i64.wrap ((hdl ((el a i).prog) j) + 1)) + 1)))) + 1)) + 1)) + 1)) + 1)))), (5, .v (I (i : Int)))], []⟩) (.cons (Q_addw (x := (IntKind.i64.wrap ((IntKind.i64.wrap ((IntKind.i64.wrap ((hdl ((el a i).live) (hdl ((el a i).written) (IntKind.i64.wrap ((IntKind.i64.wrap ((hdl ((el a i).prog) j) + 1)) + 1)))) + 1)) + 1)) + 1))) (y := 1)) .nil) (by kernel_rfl) ?_
                      clear S; intro ac w β S
                      refine RG.done rfl (nx_then ?_)
                      refine wp_seq ?_
                      refine wp_seq ?_
                      refine RG.start ?_
                      refine S.quiet (k := 8) (keep := [0, 1, 5, 105]) (m := 0) (σ' := ⟨[(0, .v (slv (a).length pa.1)), (1, .v (I (IntKind.i64.wrap ((IntKind.i64.wrap ((IntKind.i64.wrap ((IntKind.i64.wrap ((hdl ((el a i).live) (hdl ((el a i).written) (IntKind.i64.wrap ((IntKind.i64.wrap ((hdl ((el a i).prog) j) + 1)) + 1)))) + 1)) + 1)) + 1)) + 1)))), (5, .v (I (i : Int))), (105, .v (B (((el a i).exit).kind != (IntKind.i64.wrap ((IntKind.i64.wrap ((IntKind.i64.wrap ((IntKind.i64.wrap ((hdl ((el a i).live) (hdl ((el a i).written) (IntKind.i64.wrap ((IntKind.i64.wrap ((hdl ((el a i).prog) j) + 1)) + 1)))) + 1)) + 1)) + 1)) + 1)))))], []⟩) (.cons (Q_idx (S.arg ha) (l := (a).length) (k := i) (i := (i : Int)) rfl rfl (by omega) Go.Proofs.Try.underlying43 (by kernel_rfl)) (.cons (Q_cell (S.arg ha) (t := 3) (k := i) (j := 9) (v := I (((el a i).exit).kind)) (by omega) (by kernel_rfl) (by kernel_rfl)) .nil)) (by kernel_rfl) ?_
                      clear S; intro ac w β S
                      refine RG.done rfl (nx_then ?_)
                      refine S.cond (e := (((el a i).exit).kind != (IntKind.i64.wrap ((IntKind.i64.wrap ((IntKind.i64.wrap ((IntKind.i64.wrap ((hdl ((el a i).live) (hdl ((el a i).written) (IntKind.i64.wrap ((IntKind.i64.wrap ((hdl ((el a i).prog) j) + 1)) + 1)))) + 1)) + 1)) + 1)) + 1)))) (by kernel_rfl) (fun h32 => ?_) (fun h32 => ?_)
                      · have g33 : ¬ (((el a i).exit).kind = (IntKind.i64.wrap ((IntKind.i64.wrap ((IntKind.i64.wrap ((IntKind.i64.wrap ((hdl ((el a i).live) (hdl ((el a i).written) (IntKind.i64.wrap ((IntKind.i64.wrap ((hdl ((el a i).prog) j) + 1)) + 1)))) + 1)) + 1)) + 1)) + 1))) := bne_iff_ne.1 h32
                        refine wp_seq ?_
                        refine RG.start ?_
                        refine S.quiet (k := 1) (keep := [4]) (m := 0) (σ' := ⟨[(4, .v (I (-1)))], []⟩) .nil (by kernel_rfl) ?_
                        clear S; intro ac w β S
                        refine RG.done rfl (nx_then ?_)
                        refine wp_ret (rt_then (rt_block (rt_then (rt_then (rt_block (rt_then ?_))))))
                        refine S.ret (vs := [I (-1)]) (by kernel_rfl) ?_
                        exact ⟨retI (show (-1) = hdl a k by clear S; (first | (rw [hr, hd_end (by omega)]; done) | (rw [hr, hd_step (by omega)]; simp [he_Guest, hdi, hdb, hdc, *]; done) | (rw [hr, hd_step (by omega)]; simp_all [he_Guest, hdi, hdb, hdc]; done))), S.chg⟩
                      · have g34 : ((el a i).exit).kind = (IntKind.i64.wrap ((IntKind.i64.wrap ((IntKind.i64.wrap ((IntKind.i64.wrap ((hdl ((el a i).live) (hdl ((el a i).written) (IntKind.i64.wrap ((IntKind.i64.wrap ((hdl ((el a i).prog) j) + 1)) + 1)))) + 1)) + 1)) + 1)) + 1)) := ne_f h32
                        refine wp_skip (nx_then ?_)
                        refine wp_seq ?_
                        refine RG.start ?_
                        refine S.quiet (k := 3) (keep := [0, 1, 5]) (m := 0) (σ' := ⟨[(0, .v (slv (a).length pa.1)), (1, .v (I (IntKind.i64.wrap ((IntKind.i64.wrap ((IntKind.i64.wrap ((IntKind.i64.wrap ((IntKind.i64.wrap ((hdl ((el a i).live) (hdl ((el a i).written) (IntKind.i64.wrap ((IntKind.i64.wrap ((hdl ((el a i).prog) j) + 1)) + 1)))) + 1)) + 1)) + 1)) + 1)) + 1)))), (5, .v (I (i : Int)))], []⟩) (.cons (Q_addw (x := (IntKind.i64.wrap ((IntKind.i64.wrap ((IntKind.i64.wrap ((IntKind.i64.wrap ((hdl ((el a i).live) (hdl ((el a i).written) (IntKind.i64.wrap ((IntKind.i64.wrap ((hdl ((el a i).prog) j) + 1)) + 1)))) + 1)) + 1)) + 1)) + 1))) (y := 1)) .nil) (by kernel_rfl) ?_
                        clear S; intro ac w β S
                        refine RG.done rfl (nx_then ?_)
                        refine wp_seq ?_
                        refine wp_seq ?_
                        refine RG.start ?_
                        refine S.quiet (k := 8) (keep := [0, 1, 5, 115]) (m := 0) (σ' := ⟨[(0, .v (slv (a).length pa.1)), (1, .v (I (IntKind.i64.wrap ((IntKind.i64.wrap ((IntKind.i64.wrap ((IntKind.i64.wrap ((IntKind.i64.wrap ((hdl ((el a i).live) (hdl ((el a i).written) (IntKind.i64.wrap ((IntKind.i64.wrap ((hdl ((el a i).prog) j) + 1)) + 1)))) + 1)) + 1)) + 1)) + 1)) + 1)))), (5, .v (I (i : Int))), (115, .v (B (((el a i).exit).page != (IntKind.i64.wrap ((IntKind.i64.wrap ((IntKind.i64.wrap ((IntKind.i64.wrap ((IntKind.i64.wrap ((hdl ((el a i).live) (hdl ((el a i).written) (IntKind.i64.wrap ((IntKind.i64.wrap ((hdl ((el a i).prog) j) + 1)) + 1)))) + 1)) + 1)) + 1)) + 1)) + 1)))))], []⟩) (.cons (Q_idx (S.arg ha) (l := (a).length) (k := i) (i := (i : Int)) rfl rfl (by omega) Go.Proofs.Try.underlying43 (by kernel_rfl)) (.cons (Q_cell (S.arg ha) (t := 3) (k := i) (j := 10) (v := I (((el a i).exit).page)) (by omega) (by kernel_rfl) (by kernel_rfl)) .nil)) (by kernel_rfl) ?_
                        clear S; intro ac w β S
                        refine RG.done rfl (nx_then ?_)
                        refine S.cond (e := (((el a i).exit).page != (IntKind.i64.wrap ((IntKind.i64.wrap ((IntKind.i64.wrap ((IntKind.i64.wrap ((IntKind.i64.wrap ((hdl ((el a i).live) (hdl ((el a i).written) (IntKind.i64.wrap ((IntKind.i64.wrap ((hdl ((el a i).prog) j) + 1)) + 1)))) + 1)) + 1)) + 1)) + 1)) + 1)))) (by kernel_rfl) (fun h35 => ?_) (fun h35 => ?_)
                        · have g36 : ¬ (((el a i).exit).page = (IntKind.i64.wrap ((IntKind.i64.wrap ((IntKind.i64.wrap ((IntKind.i64.wrap ((IntKind.i64.wrap ((hdl ((el a i).live) (hdl ((el a i).written) (IntKind.i64.wrap ((IntKind.i64.wrap ((hdl ((el a i).prog) j) + 1)) + 1)))) + 1)) + 1)) + 1)) + 1)) + 1))) := bne_iff_ne.1 h35
                          refine wp_seq ?_
                          refine RG.start ?_
                          refine S.quiet (k := 1) (keep := [4]) (m := 0) (σ' := ⟨[(4, .v (I (-1)))], []⟩) .nil (by kernel_rfl) ?_
                          clear S; intro ac w β S
                          refine RG.done rfl (nx_then ?_)
                          refine wp_ret (rt_then (rt_block (rt_then (rt_then (rt_block (rt_then ?_))))))
                          refine S.ret (vs := [I (-1)]) (by kernel_rfl) ?_
                          exact ⟨retI (show (-1) = hdl a k by clear S; (first | (rw [hr, hd_end (by omega)]; done) | (rw [hr, hd_step (by omega)]; simp [he_Guest, hdi, hdb, hdc, *]; done) | (rw [hr, hd_step (by omega)]; simp_all [he_Guest, hdi, hdb, hdc]; done))), S.chg⟩
                        · have g37 : ((el a i).exit).page = (IntKind.i64.wrap ((IntKind.i64.wrap ((IntKind.i64.wrap ((IntKind.i64.wrap ((IntKind.i64.wrap ((hdl ((el a i).live) (hdl ((el a i).written) (IntKind.i64.wrap ((IntKind.i64.wrap ((hdl ((el a i).prog) j) + 1)) + 1)))) + 1)) + 1)) + 1)) + 1)) + 1)) := ne_f h35
                          refine wp_skip (nx_then ?_)
                          refine wp_seq ?_
                          refine RG.start ?_
                          refine S.quiet (k := 3) (keep := [0, 1, 5]) (m := 0) (σ' := ⟨[(0, .v (slv (a).length pa.1)), (1, .v (I (IntKind.i64.wrap ((IntKind.i64.wrap ((IntKind.i64.wrap ((IntKind.i64.wrap ((IntKind.i64.wrap ((IntKind.i64.wrap ((hdl ((el a i).live) (hdl ((el a i).written) (IntKind.i64.wrap ((IntKind.i64.wrap ((hdl ((el a i).prog) j) + 1)) + 1)))) + 1)) + 1)) + 1)) + 1)) + 1)) + 1)))), (5, .v (I (i : Int)))], []⟩) (.cons (Q_addw (x := (IntKind.i64.wrap ((IntKind.i64.wrap ((IntKind.i64.wrap ((IntKind.i64.wrap ((IntKind.i64.wrap ((hdl ((el a i).live) (hdl ((el a i).written) (IntKind.i64.wrap ((IntKind.i64.wrap ((hdl ((el a i).prog) j) + 1)) + 1)))) + 1)) + 1)) + 1)) + 1)) + 1))) (y := 1)) .nil) (by kernel_rfl) ?_
                          clear S; intro ac w β S
                          refine RG.done rfl (nx_then ?_)
                          refine wp_seq ?_
                          refine wp_seq ?_
                          refine RG.start ?_
                          refine S.quiet (k := 10) (keep := [0, 1, 5, 127]) (m := 0) (σ' := ⟨[(0, .v (slv (a).length pa.1)), (1, .v (I (IntKind.i64.wrap ((IntKind.i64.wrap ((IntKind.i64.wrap ((IntKind.i64.wrap ((IntKind.i64.wrap ((IntKind.i64.wrap ((hdl ((el a i).live) (hdl ((el a i).written) (IntKind.i64.wrap ((IntKind.i64.wrap ((hdl ((el a i).prog) j) + 1)) + 1)))) + 1)) + 1)) + 1)) + 1)) + 1)) + 1)))), (5, .v (I (i : Int))), (127, .v (B (!(((el a i).exit).wr == ((Int.tmod (IntKind.i64.wrap ((IntKind.i64.wrap ((IntKind.i64.wrap ((IntKind.i64.wrap ((IntKind.i64.wrap ((IntKind.i64.wrap ((hdl ((el a i).live) (hdl ((el a i).written) (IntKind.i64.wrap ((IntKind.i64.wrap ((hdl ((el a i).prog) j) + 1)) + 1)))) + 1)) + 1)) + 1)) + 1)) + 1)) + 1)) 3) == 0)))))], []⟩) (.cons (Q_idx (S.arg ha) (l := (a).length) (k := i) (i := (i : Int)) rfl rfl (by omega) Go.Proofs.Try.underlying43 (by kernel_rfl)) (.cons (Q_cell (S.arg ha) (t := 4) (k := i) (j := 11) (v := B (((el a i).exit).wr)) (by omega) (by kernel_rfl) (by kernel_rfl)) (.cons (Q_rem (x := (IntKind.i64.wrap ((IntKind.i64.wrap ((IntKind.i64.wrap ((IntKind.i64.wrap ((IntKind.i64.wrap ((IntKind.i64.wrap ((hdl ((el a i).live) (hdl ((el a i).written) (IntKind.i64.wrap ((IntKind.i64.wrap ((hdl ((el a i).prog) j) + 1)) + 1)))) + 1)) + 1)) + 1)) + 1)) + 1)) + 1))) (y := 3) (by decide)) .nil))) (by kernel_rfl) ?_
                          clear S; intro ac w β S
                          refine RG.done rfl (nx_then ?_)
                          refine S.cond (e := (!(((el a i).exit).wr == ((Int.tmod (IntKind.i64.wrap ((IntKind.i64.wrap ((IntKind.i64.wrap ((IntKind.i64.wrap ((IntKind.i64.wrap ((IntKind.i64.wrap ((hdl ((el a i).live) (hdl ((el a i).written) (IntKind.i64.wrap ((IntKind.i64.wrap ((hdl ((el a i).prog) j) + 1)) + 1)))) + 1)) + 1)) + 1)) + 1)) + 1)) + 1)) 3) == 0)))) (by kernel_rfl) (fun h38 => ?_) (fun h38 => ?_)
                          · have h39 : (((el a i).exit).wr == ((Int.tmod (IntKind.i64.wrap ((IntKind.i64.wrap ((IntKind.i64.wrap ((IntKind.i64.wrap ((IntKind.i64.wrap ((IntKind.i64.wrap ((hdl ((el a i).live) (hdl ((el a i).written) (IntKind.i64.wrap ((IntKind.i64.wrap ((hdl ((el a i).prog) j) + 1)) + 1)))) + 1)) + 1)) + 1)) + 1)) + 1)) + 1)) 3) == 0)) = false := not_t h38
                            have g40 : ¬ (((el a i).exit).wr = ((Int.tmod (IntKind.i64.wrap ((IntKind.i64.wrap ((IntKind.i64.wrap ((IntKind.i64.wrap ((IntKind.i64.wrap ((IntKind.i64.wrap ((hdl ((el a i).live) (hdl ((el a i).written) (IntKind.i64.wrap ((IntKind.i64.wrap ((hdl ((el a i).prog) j) + 1)) + 1)))) + 1)) + 1)) + 1)) + 1)) + 1)) + 1)) 3) == 0)) := ne_of_beq_false h39
                            refine wp_seq ?_
                            refine RG.start ?_
                            refine S.quiet (k := 1) (keep := [4]) (m := 0) (σ' := ⟨[(4, .v (I (-1)))], []⟩) .nil (by kernel_rfl) ?_
                            clear S; intro ac w β S
                            refine RG.done rfl (nx_then ?_)
                            refine wp_ret (rt_then (rt_block (rt_then (rt_then (rt_block (rt_then ?_))))))
                            refine S.ret (vs := [I (-1)]) (by kernel_rfl) ?_
                            exact ⟨retI (show (-1) = hdl a k by clear S; (first | (rw [hr, hd_end (by omega)]; done) | (rw [hr, hd_step (by omega)]; simp [he_Guest, hdi, hdb, hdc, *]; done) | (rw [hr, hd_step (by omega)]; simp_all [he_Guest, hdi, hdb, hdc]; done))), S.chg⟩
                          · have h41 : (((el a i).exit).wr == ((Int.tmod (IntKind.i64.wrap ((IntKind.i64.wrap ((IntKind.i64.wrap ((IntKind.i64.wrap ((IntKind.i64.wrap ((IntKind.i64.wrap ((hdl ((el a i).live) (hdl ((el a i).written) (IntKind.i64.wrap ((IntKind.i64.wrap ((hdl ((el a i).prog) j) + 1)) + 1)))) + 1)) + 1)) + 1)) + 1)) + 1)) + 1)) 3) == 0)) = true := not_f h38
                            have g42 : ((el a i).exit).wr = ((Int.tmod (IntKind.i64.wrap ((IntKind.i64.wrap ((IntKind.i64.wrap ((IntKind.i64.wrap ((IntKind.i64.wrap ((IntKind.i64.wrap ((hdl ((el a i).live) (hdl ((el a i).written) (IntKind.i64.wrap ((IntKind.i64.wrap ((hdl ((el a i).prog) j) + 1)) + 1)))) + 1)) + 1)) + 1)) + 1)) + 1)) + 1)) 3) == 0) := eq_of_beq h41
                            refine wp_skip (nx_then ?_)
                            refine wp_seq ?_
                            refine RG.start ?_
                            refine S.quiet (k := 3) (keep := [0, 1, 5]) (m := 0) (σ' := ⟨[(0, .v (slv (a).length pa.1)), (1, .v (I (IntKind.i64.wrap ((IntKind.i64.wrap ((IntKind.i64.wrap ((IntKind.i64.wrap ((IntKind.i64.wrap ((IntKind.i64.wrap ((IntKind.i64.wrap ((hdl ((el a i).live) (hdl ((el a i).written) (IntKind.i64.wrap ((IntKind.i64.wrap ((hdl ((el a i).prog) j) + 1)) + 1)))) + 1)) + 1)) + 1)) + 1)) + 1)) + 1)) + 1)))), (5, .v (I (i : Int)))], []⟩) (.cons (Q_addw (x := (IntKind.i64.wrap ((IntKind.i64.wrap ((IntKind.i64.wrap ((IntKind.i64.wrap ((IntKind.i64.wrap ((IntKind.i64.wrap ((hdl ((el a i).live) (hdl ((el a i).written) (IntKind.i64.wrap ((IntKind.i64.wrap ((hdl ((el a i).prog) j) + 1)) + 1)))) + 1)) + 1)) + 1)) + 1)) + 1)) + 1))) (y := 1)) .nil) (by kernel_rfl) ?_
                            clear S; intro ac w β S
                            refine RG.done rfl (nx_then ?_)
                            refine wp_seq ?_
                            refine wp_seq ?_
                            refine RG.start ?_
                            refine S.quiet (k := 8) (keep := [0, 1, 5, 137]) (m := 0) (σ' := ⟨[(0, .v (slv (a).length pa.1)), (1, .v (I (IntKind.i64.wrap ((IntKind.i64.wrap ((IntKind.i64.wrap ((IntKind.i64.wrap ((IntKind.i64.wrap ((IntKind.i64.wrap ((IntKind.i64.wrap ((hdl ((el a i).live) (hdl ((el a i).written) (IntKind.i64.wrap ((IntKind.i64.wrap ((hdl ((el a i).prog) j) + 1)) + 1)))) + 1)) + 1)) + 1)) + 1)) + 1)) + 1)) + 1)))), (5, .v (I (i : Int))), (137, .v (B (((el a i).exit).n != (IntKind.i64.wrap ((IntKind.i64.wrap ((IntKind.i64.wrap ((IntKind.i64.wrap ((IntKind.i64.wrap ((IntKind.i64.wrap ((IntKind.i64.wrap ((hdl ((el a i).live) (hdl ((el a i).written) (IntKind.i64.wrap ((IntKind.i64.wrap ((hdl ((el a i).prog) j) + 1)) + 1)))) + 1)) + 1)) + 1)) + 1)) + 1)) + 1)) + 1)))))], []⟩) (.cons (Q_idx (S.arg ha) (l := (a).length) (k := i) (i := (i : Int)) rfl rfl (by omega) Go.Proofs.Try.underlying43 (by kernel_rfl)) (.cons (Q_cell (S.arg ha) (t := 3) (k := i) (j := 12) (v := I (((el a i).exit).n)) (by omega) (by kernel_rfl) (by kernel_rfl)) .nil)) (by kernel_rfl) ?_
                            clear S; intro ac w β S
                            refine RG.done rfl (nx_then ?_)
                            refine S.cond (e := (((el a i).exit).n != (IntKind.i64.wrap ((IntKind.i64.wrap ((IntKind.i64.wrap ((IntKind.i64.wrap ((IntKind.i64.wrap ((IntKind.i64.wrap ((IntKind.i64.wrap ((hdl ((el a i).live) (hdl ((el a i).written) (IntKind.i64.wrap ((IntKind.i64.wrap ((hdl ((el a i).prog) j) + 1)) + 1)))) + 1)) + 1)) + 1)) + 1)) + 1)) + 1)) + 1)))) (by kernel_rfl) (fun h43 => ?_) (fun h43 => ?_)
                            · have g44 : ¬ (((el a i).exit).n = (IntKind.i64.wrap ((IntKind.i64.wrap ((IntKind.i64.wrap ((IntKind.i64.wrap ((IntKind.i64.wrap ((IntKind.i64.wrap ((IntKind.i64.wrap ((hdl ((el a i).live) (hdl ((el a i).written) (IntKind.i64.wrap ((IntKind.i64.wrap ((hdl ((el a i).prog) j) + 1)) + 1)))) + 1)) + 1)) + 1)) + 1)) + 1)) + 1)) + 1))) := bne_iff_ne.1 h43
                              refine wp_seq ?_
                              refine RG.start ?_
                              refine S.quiet (k := 1) (keep := [4]) (m := 0) (σ' := ⟨[(4, .v (I (-1)))], []⟩) .nil (by kernel_rfl) ?_
                              clear S; intro ac w β S
                              refine RG.done rfl (nx_then ?_)
                              refine wp_ret (rt_then (rt_block (rt_then (rt_then (rt_block (rt_then ?_))))))
                              refine S.ret (vs := [I (-1)]) (by kernel_rfl) ?_
                              exact ⟨retI (show (-1) = hdl a k by clear S; (first | (rw [hr, hd_end (by omega)]; done) | (rw [hr, hd_step (by omega)]; simp [he_Guest, hdi, hdb, hdc, *]; done) | (rw [hr, hd_step (by omega)]; simp_all [he_Guest, hdi, hdb, hdc]; done))), S.chg⟩
                            · have g45 : ((el a i).exit).n = (IntKind.i64.wrap ((IntKind.i64.wrap ((IntKind.i64.wrap ((IntKind.i64.wrap ((IntKind.i64.wrap ((IntKind.i64.wrap ((IntKind.i64.wrap ((hdl ((el a i).live) (hdl ((el a i).written) (IntKind.i64.wrap ((IntKind.i64.wrap ((hdl ((el a i).prog) j) + 1)) + 1)))) + 1)) + 1)) + 1)) + 1)) + 1)) + 1)) + 1)) := ne_f h43
                              refine wp_skip (nx_then ?_)
                              refine wp_seq ?_
                              refine RG.start ?_
                              refine S.quiet (k := 3) (keep := [0, 1, 5]) (m := 0) (σ' := ⟨[(0, .v (slv (a).length pa.1)), (1, .v (I (IntKind.i64.wrap ((IntKind.i64.wrap ((IntKind.i64.wrap ((IntKind.i64.wrap ((IntKind.i64.wrap ((IntKind.i64.wrap ((IntKind.i64.wrap ((IntKind.i64.wrap ((hdl ((el a i).live) (hdl ((el a i).written) (IntKind.i64.wrap ((IntKind.i64.wrap ((hdl ((el a i).prog) j) + 1)) + 1)))) + 1)) + 1)) + 1)) + 1)) + 1)) + 1)) + 1)) + 1)))), (5, .v (I (i : Int)))], []⟩) (.cons (Q_addw (x := (IntKind.i64.wrap ((IntKind.i64.wrap ((IntKind.i64.wrap ((IntKind.i64.wrap ((IntKind.i64.wrap ((IntKind.i64.wrap ((IntKind.i64.wrap ((hdl ((el a i).live) (hdl ((el a i).written) (IntKind.i64.wrap ((IntKind.i64.wrap ((hdl ((el a i).prog) j) + 1)) + 1)))) + 1)) + 1)) + 1)) + 1)) + 1)) + 1)) + 1))) (y := 1)) .nil) (by kernel_rfl) ?_
                              clear S; intro ac w β S
                              refine RG.done rfl (nx_then ?_)
                              refine wp_seq ?_
                              refine wp_seq ?_
                              refine RG.start ?_
                              refine S.quiet (k := 9) (keep := [0, 1, 5, 148]) (m := 0) (σ' := ⟨[(0, .v (slv (a).length pa.1)), (1, .v (I (IntKind.i64.wrap ((IntKind.i64.wrap ((IntKind.i64.wrap ((IntKind.i64.wrap ((IntKind.i64.wrap ((IntKind.i64.wrap ((IntKind.i64.wrap ((IntKind.i64.wrap ((hdl ((el a i).live) (hdl ((el a i).written) (IntKind.i64.wrap ((IntKind.i64.wrap ((hdl ((el a i).prog) j) + 1)) + 1)))) + 1)) + 1)) + 1)) + 1)) + 1)) + 1)) + 1)) + 1)))), (5, .v (I (i : Int))), (148, .v (B (!((el a i).halted == ((Int.tmod (IntKind.i64.wrap ((IntKind.i64.wrap ((IntKind.i64.wrap ((IntKind.i64.wrap ((IntKind.i64.wrap ((IntKind.i64.wrap ((IntKind.i64.wrap ((IntKind.i64.wrap ((hdl ((el a i).live) (hdl ((el a i).written) (IntKind.i64.wrap ((IntKind.i64.wrap ((hdl ((el a i).prog) j) + 1)) + 1)))) + 1)) + 1)) + 1)) + 1)) + 1)) + 1)) + 1)) + 1)) 3) == 0)))))], []⟩) (.cons (Q_idx (S.arg ha) (l := (a).length) (k := i) (i := (i : Int)) rfl rfl (by omega) Go.Proofs.Try.underlying43 (by kernel_rfl)) (.cons (Q_cell (S.arg ha) (t := 4) (k := i) (j := 13) (v := B ((el a i).halted)) (by omega) (by kernel_rfl) (by kernel_rfl)) (.cons (Q_rem (x := (IntKind.i64.wrap ((IntKind.i64.wrap ((IntKind.i64.wrap ((IntKind.i64.wrap ((IntKind.i64.wrap ((IntKind.i64.wrap ((IntKind.i64.wrap ((IntKind.i64.wrap ((hdl ((el a i).live) (hdl ((el a i).written) (IntKind.i64.wrap ((IntKind.i64.wrap ((hdl ((el a i).prog) j) + 1)) + 1)))) + 1)) + 1)) + 1)) + 1)) + 1)) + 1)) + 1)) + 1))) (y := 3) (by decide)) .nil))) (by kernel_rfl) ?_
                              clear S; intro ac w β S
                              refine RG.done rfl (nx_then ?_)
                              refine S.cond (e := (!((el a i).halted == ((Int.tmod (IntKind.i64.wrap ((IntKind.i64.wrap ((IntKind.i64.wrap ((IntKind.i64.wrap ((IntKind.i64.wrap ((IntKind.i64.wrap ((IntKind.i64.wrap ((IntKind.i64.wrap ((hdl ((el a i).live) (hdl ((el a i).written) (IntKind.i64.wrap ((IntKind.i64.wrap ((hdl ((el a i).prog) j) + 1)) + 1)))) + 1)) + 1)) + 1)) + 1)) + 1)) + 1)) + 1)) + 1)) 3) == 0)))) (by kernel_rfl) (fun h46 => ?_) (fun h46 => ?_)
                              · have h47 : ((el a i).halted == ((Int.tmod (IntKind.i64.wrap ((IntKind.i64.wrap ((IntKind.i64.wrap ((IntKind.i64.wrap ((IntKind.i64.wrap ((IntKind.i64.wrap ((IntKind.i64.wrap ((IntKind.i64.wrap ((hdl ((el a i).live) (hdl ((el a i).written) (IntKind.i64.wrap ((IntKind.i64.wrap ((hdl ((el a i).prog) j) + 1)) + 1)))) + 1)) + 1)) + 1)) + 1)) + 1)) + 1)) + 1)) + 1)) 3) == 0)) = false := not_t h46
                                have g48 : ¬ ((el a i).halted = ((Int.tmod (IntKind.i64.wrap ((IntKind.i64.wrap ((IntKind.i64.wrap ((IntKind.i64.wrap ((IntKind.i64.wrap ((IntKind.i64.wrap ((IntKind.i64.wrap ((IntKind.i64.wrap ((hdl ((el a i).live) (hdl ((el a i).written) (IntKind.i64.wrap ((IntKind.i64.wrap ((hdl ((el a i).prog) j) + 1)) + 1)))) + 1)) + 1)) + 1)) + 1)) + 1)) + 1)) + 1)) + 1)) 3) == 0)) := ne_of_beq_false h47
                                refine wp_seq ?_
                                refine RG.start ?_
                                refine S.quiet (k := 1) (keep := [4]) (m := 0) (σ' := ⟨[(4, .v (I (-1)))], []⟩) .nil (by kernel_rfl) ?_
                                clear S; intro ac w β S
                                refine RG.done rfl (nx_then ?_)
                                refine wp_ret (rt_then (rt_block (rt_then (rt_then (rt_block (rt_then ?_))))))
                                refine S.ret (vs := [I (-1)]) (by kernel_rfl) ?_
                                exact ⟨retI (show (-1) = hdl a k by clear S; (first | (rw [hr, hd_end (by omega)]; done) | (rw [hr, hd_step (by omega)]; simp [he_Guest, hdi, hdb, hdc, *]; done) | (rw [hr, hd_step (by omega)]; simp_all [he_Guest, hdi, hdb, hdc]; done))), S.chg⟩
                              · have h49 : ((el a i).halted == ((Int.tmod (IntKind.i64.wrap ((IntKind.i64.wrap ((IntKind.i64.wrap ((IntKind.i64.wrap ((IntKind.i64.wrap ((IntKind.i64.wrap ((IntKind.i64.wrap ((IntKind.i64.wrap ((hdl ((el a i).live) (hdl ((el a i).written) (IntKind.i64.wrap ((IntKind.i64.wrap ((hdl ((el a i).prog) j) + 1)) + 1)))) + 1)) + 1)) + 1)) + 1)) + 1)) + 1)) + 1)) + 1)) 3) == 0)) = true := not_f h46
                                have g50 : (el a i).halted = ((Int.tmod (IntKind.i64.wrap ((IntKind.i64.wrap ((IntKind.i64.wrap ((IntKind.i64.wrap ((IntKind.i64.wrap ((IntKind.i64.wrap ((IntKind.i64.wrap ((IntKind.i64.wrap ((hdl ((el a i).live) (hdl ((el a i).written) (IntKind.i64.wrap ((IntKind.i64.wrap ((hdl ((el a i).prog) j) + 1)) + 1)))) + 1)) + 1)) + 1)) + 1)) + 1)) + 1)) + 1)) + 1)) 3) == 0) := eq_of_beq h49
                                refine wp_skip (nx_then ?_)
                                refine wp_seq ?_
                                refine RG.start ?_
                                refine S.quiet (k := 3) (keep := [0, 1, 5]) (m := 0) (σ' := ⟨[(0, .v (slv (a).length pa.1)), (1, .v (I (IntKind.i64.wrap ((IntKind.i64.wrap ((IntKind.i64.wrap ((IntKind.i64.wrap ((IntKind.i64.wrap ((IntKind.i64.wrap ((IntKind.i64.wrap ((IntKind.i64.wrap ((IntKind.i64.wrap ((hdl ((el a i).live) (hdl ((el a i).written) (IntKind.i64.wrap ((IntKind.i64.wrap ((hdl ((el a i).prog) j) + 1)) + 1)))) + 1)) + 1)) + 1)) + 1)) + 1)) + 1)) + 1)) + 1)) + 1)))), (5, .v (I (i : Int)))], []⟩) (.cons (Q_addw (x := (IntKind.i64.wrap ((IntKind.i64.wrap ((IntKind.i64.wrap ((IntKind.i64.wrap ((IntKind.i64.wrap ((IntKind.i64.wrap ((IntKind.i64.wrap ((IntKind.i64.wrap ((hdl ((el a i).live) (hdl ((el a i).written) (IntKind.i64.wrap ((IntKind.i64.wrap ((hdl ((el a i).prog) j) + 1)) + 1)))) + 1)) + 1)) + 1)) + 1)) + 1)) + 1)) + 1)) + 1))) (y := 1)) .nil) (by kernel_rfl) ?_
                                clear S; intro ac w β S
                                refine RG.done rfl (nx_then ?_)
                                refine wp_seq ?_
                                refine RG.start ?_
                                refine S.quiet (k := 8) (keep := [0, 1, 5]) (m := 0) (σ' := ⟨[(0, .v (slv (a).length pa.1)), (1, .v (I (hdl ((el a i).seen) (IntKind.i64.wrap ((IntKind.i64.wrap ((IntKind.i64.wrap ((IntKind.i64.wrap ((IntKind.i64.wrap ((IntKind.i64.wrap ((IntKind.i64.wrap ((IntKind.i64.wrap ((IntKind.i64.wrap ((hdl ((el a i).live) (hdl ((el a i).written) (IntKind.i64.wrap ((IntKind.i64.wrap ((hdl ((el a i).prog) j) + 1)) + 1)))) + 1)) + 1)) + 1)) + 1)) + 1)) + 1)) + 1)) + 1)) + 1))))), (5, .v (I (i : Int)))], []⟩) (.cons (Q_idx (S.arg ha) (l := (a).length) (k := i) (i := (i : Int)) rfl rfl (by omega) Go.Proofs.Try.underlying43 (by kernel_rfl)) (.cons (Q_cell (S.arg ha) (t := 30) (k := i) (j := 14) (v := slv ((el a i).seen).length ((pa.2 i).seen).1) (by omega) (by kernel_rfl) (by kernel_rfl)) (.cons (Q_call fun w hw => c_laws_heldIntS w ((el a i).seen) ((pa.2 i).seen) (rd_of (RGuest.seen (d := (el a i)) (LRd.el (S.arg ha) i (by omega))) hw) (IntKind.i64.wrap ((IntKind.i64.wrap ((IntKind.i64.wrap ((IntKind.i64.wrap ((IntKind.i64.wrap ((IntKind.i64.wrap ((IntKind.i64.wrap ((IntKind.i64.wrap ((IntKind.i64.wrap ((hdl ((el a i).live) (hdl ((el a i).written) (IntKind.i64.wrap ((IntKind.i64.wrap ((hdl ((el a i).prog) j) + 1)) + 1)))) + 1)) + 1)) + 1)) + 1)) + 1)) + 1)) + 1)) + 1)) + 1))) .nil))) (by kernel_rfl) ?_
                                clear S; intro ac w β S
                                refine RG.done rfl (nx_then ?_)
                                refine wp_seq ?_
                                refine RG.start ?_
                                refine S.quiet (k := 2) (keep := [0, 1, 5, 159]) (m := 0) (σ' := ⟨[(0, .v (slv (a).length pa.1)), (1, .v (I (hdl ((el a i).seen) (IntKind.i64.wrap ((IntKind.i64.wrap ((IntKind.i64.wrap ((IntKind.i64.wrap ((IntKind.i64.wrap ((IntKind.i64.wrap ((IntKind.i64.wrap ((IntKind.i64.wrap ((IntKind.i64.wrap ((hdl ((el a i).live) (hdl ((el a i).written) (IntKind.i64.wrap ((IntKind.i64.wrap ((hdl ((el a i).prog) j) + 1)) + 1)))) + 1)) + 1)) + 1)) + 1)) + 1)) + 1)) + 1)) + 1)) + 1))))), (5, .v (I (i : Int))), (159, .v (B (decide ((hdl ((el a i).seen) (IntKind.i64.wrap ((IntKind.i64.wrap ((IntKind.i64.wrap ((IntKind.i64.wrap ((IntKind.i64.wrap ((IntKind.i64.wrap ((IntKind.i64.wrap ((IntKind.i64.wrap ((IntKind.i64.wrap ((hdl ((el a i).live) (hdl ((el a i).written) (IntKind.i64.wrap ((IntKind.i64.wrap ((hdl ((el a i).prog) j) + 1)) + 1)))) + 1)) + 1)) + 1)) + 1)) + 1)) + 1)) + 1)) + 1)) + 1))) < 0))))], []⟩) .nil (by kernel_rfl) ?_
                                clear S; intro ac w β S
                                refine RG.done rfl (nx_then ?_)
                                refine S.cond (e := (decide ((hdl ((el a i).seen) (IntKind.i64.wrap ((IntKind.i64.wrap ((IntKind.i64.wrap ((IntKind.i64.wrap ((IntKind.i64.wrap ((IntKind.i64.wrap ((IntKind.i64.wrap ((IntKind.i64.wrap ((IntKind.i64.wrap ((hdl ((el a i).live) (hdl ((el a i).written) (IntKind.i64.wrap ((IntKind.i64.wrap ((hdl ((el a i).prog) j) + 1)) + 1)))) + 1)) + 1)) + 1)) + 1)) + 1)) + 1)) + 1)) + 1)) + 1))) < 0))) (by kernel_rfl) (fun h51 => ?_) (fun h51 => ?_)
                                · have g52 : (hdl ((el a i).seen) (IntKind.i64.wrap ((IntKind.i64.wrap ((IntKind.i64.wrap ((IntKind.i64.wrap ((IntKind.i64.wrap ((IntKind.i64.wrap ((IntKind.i64.wrap ((IntKind.i64.wrap ((IntKind.i64.wrap ((hdl ((el a i).live) (hdl ((el a i).written) (IntKind.i64.wrap ((IntKind.i64.wrap ((hdl ((el a i).prog) j) + 1)) + 1)))) + 1)) + 1)) + 1)) + 1)) + 1)) + 1)) + 1)) + 1)) + 1))) < 0 := of_decide_eq_true h51
                                  refine wp_seq ?_
                                  refine RG.start ?_
                                  refine S.quiet (k := 1) (keep := [4]) (m := 0) (σ' := ⟨[(4, .v (I (-1)))], []⟩) .nil (by kernel_rfl) ?_
                                  clear S; intro ac w β S
                                  refine RG.done rfl (nx_then ?_)
                                  refine wp_ret (rt_block (rt_then (rt_then (rt_block (rt_then ?_)))))
                                  refine S.ret (vs := [I (-1)]) (by kernel_rfl) ?_
                                  exact ⟨retI (show (-1) = hdl a k by clear S; (first | (rw [hr, hd_end (by omega)]; done) | (rw [hr, hd_step (by omega)]; simp [he_Guest, hdi, hdb, hdc, *]; done) | (rw [hr, hd_step (by omega)]; simp_all [he_Guest, hdi, hdb, hdc]; done))), S.chg⟩
                                · have g53 : ¬ ((hdl ((el a i).seen) (IntKind.i64.wrap ((IntKind.i64.wrap ((IntKind.i64.wrap ((IntKind.i64.wrap ((IntKind.i64.wrap ((IntKind.i64.wrap ((IntKind.i64.wrap ((IntKind.i64.wrap ((IntKind.i64.wrap ((hdl ((el a i).live) (hdl ((el a i).written) (IntKind.i64.wrap ((IntKind.i64.wrap ((hdl ((el a i).prog) j) + 1)) + 1)))) + 1)) + 1)) + 1)) + 1)) + 1)) + 1)) + 1)) + 1)) + 1))) < 0) := of_decide_eq_false h51
                                  refine wp_skip (nx_block (nx_then ?_))
                                  refine RG.start ?_
                                  refine S.quiet (k := 3) (keep := [0, 1, 5]) (m := 0) (σ' := ⟨[(0, .v (slv (a).length pa.1)), (1, .v (I (hdl ((el a i).seen) (IntKind.i64.wrap ((IntKind.i64.wrap ((IntKind.i64.wrap ((IntKind.i64.wrap ((IntKind.i64.wrap ((IntKind.i64.wrap ((IntKind.i64.wrap ((IntKind.i64.wrap ((IntKind.i64.wrap ((hdl ((el a i).live) (hdl ((el a i).written) (IntKind.i64.wrap ((IntKind.i64.wrap ((hdl ((el a i).prog) j) + 1)) + 1)))) + 1)) + 1)) + 1)) + 1)) + 1)) + 1)) + 1)) + 1)) + 1))))), (5, .v (I ((i : Int) + 1)))], []⟩) (.cons (Q_add (x := (i : Int)) (y := 1) ⟨by omega, by omega⟩) .nil) (by kernel_rfl) ?_
                                  clear S; intro ac w β S
                                  refine RG.done rfl (nx_then ?_)
                                  replace S := S.prune (keep := [0, 1, 5]) (m := 0) (σ' := ⟨[(0, .v (slv (a).length pa.1)), (1, .v (I (hdl ((el a i).seen) (IntKind.i64.wrap ((IntKind.i64.wrap ((IntKind.i64.wrap ((IntKind.i64.wrap ((IntKind.i64.wrap ((IntKind.i64.wrap ((IntKind.i64.wrap ((IntKind.i64.wrap ((IntKind.i64.wrap ((hdl ((el a i).live) (hdl ((el a i).written) (IntKind.i64.wrap ((IntKind.i64.wrap ((hdl ((el a i).prog) j) + 1)) + 1)))) + 1)) + 1)) + 1)) + 1)) + 1)) + 1)) + 1)) + 1)) + 1))))), (5, .v (I ((i : Int) + 1)))], []⟩) (by kernel_rfl)
                                  refine ⟨a.length - (i + 1), by omega, i + 1, (hdl ((el a i).seen) (IntKind.i64.wrap ((IntKind.i64.wrap ((IntKind.i64.wrap ((IntKind.i64.wrap ((IntKind.i64.wrap ((IntKind.i64.wrap ((IntKind.i64.wrap ((IntKind.i64.wrap ((IntKind.i64.wrap ((hdl ((el a i).live) (hdl ((el a i).written) (IntKind.i64.wrap ((IntKind.i64.wrap ((hdl ((el a i).prog) j) + 1)) + 1)))) + 1)) + 1)) + 1)) + 1)) + 1)) + 1)) + 1)) + 1)) + 1))), _, _, _, rfl, ?_, ?_, S.cast (by kernel_rfl)⟩
                                  · clear S; first | omega | (simp [*]; done) | (simp [*]; omega)
                                  · clear S; (rw [hr, hd_step (by omega)]; simp [he_Guest, hdi, hdb, hdc, *])
  · have g54 : ¬ ((i : Int) < ((a).length : Int)) := of_decide_eq_false h1
    refine wp_exit (ex_then (ex_then (ex_hit (nx_then ?_))))
    refine wp_seq ?_
    refine RG.start ?_
    refine S.quiet (k := 2) (keep := [4]) (m := 0) (σ' := ⟨[(4, .v (I j))], []⟩) .nil (by kernel_rfl) ?_
    clear S; intro ac w β S
    refine RG.done rfl (nx_then ?_)
    refine wp_ret ?_
    refine S.ret (vs := [I j]) (by kernel_rfl) ?_
    exact ⟨retI (show j = hdl a k by clear S; (first | (rw [hr, hd_end (by omega)]; done) | (rw [hr, hd_step (by omega)]; simp [he_Guest, hdi, hdb, hdc, *]; done) | (rw [hr, hd_step (by omega)]; simp_all [he_Guest, hdi, hdb, hdc]; done))), S.chg⟩

set_option maxRecDepth 100000 in
theorem c_laws_heldBare (w0 : World) (a : TBare) (pa : PBare) (ha : GT.rd KK (Lt w0.heap.size) w0 a pa) (k : Int) : Calls Go.Proofs.Try.prog 22 [GT.val (α := TBare) a pa, I k].toArray w0 (fun e w' => e = .returned (I (hdT_Bare a k)) ∧ Chg NoB w0 w') := by
  refine Calls.walk (args := [GT.val (α := TBare) a pa, I k]) NoB Go.Proofs.Try.func22 rfl rfl ?_
  intro ac β S
  have hlea_mem : a.mem.length ≤ 4194304 := LRd.le (RBare.mem (d := a) ha)
  have hlea_guests : a.guests.length ≤ 4194304 := LRd.le (RBare.guests (d := a) ha)
  have hlea_outs : a.outs.length ≤ 4194304 := LRd.le (RBare.outs (d := a) ha)
  refine wp_seq ?_
  refine RG.start ?_
  refine S.quiet (k := 2) (keep := [1, 2]) (m := 1) (σ' := ⟨[(1, .v (I k)), (2, .p 0 0)], [GT.cells (α := TBare) a pa]⟩) .nil (by kernel_rfl) ?_
  clear S; intro ac w β S
  refine RG.done rfl (nx_then ?_)
  refine wp_seq ?_
  refine RG.start ?_
  refine S.quiet (k := 5) (keep := [1, 2]) (m := 1) (σ' := ⟨[(1, .v (I (hdl a.mem k))), (2, .p 0 0)], [GT.cells (α := TBare) a pa]⟩) (.cons (Q_call fun w hw => c_laws_heldIntSS w a.mem pa.mem (rd_of (RBare.mem (d := a) (S.arg ha)) hw) k) .nil) (by kernel_rfl) ?_
  clear S; intro ac w β S
  refine RG.done rfl (nx_then ?_)
  refine wp_seq ?_
  refine wp_seq ?_
  refine RG.start ?_
  refine S.quiet (k := 2) (keep := [1, 2, 10]) (m := 1) (σ' := ⟨[(1, .v (I (hdl a.mem k))), (2, .p 0 0), (10, .v (B (decide ((hdl a.mem k) < 0))))], [GT.cells (α := TBare) a pa]⟩) .nil (by kernel_rfl) ?_
  clear S; intro ac w β S
  refine RG.done rfl (nx_then ?_)
  refine S.cond (e := (decide ((hdl a.mem k) < 0))) (by kernel_rfl) (fun h1 => ?_) (fun h1 => ?_)
  · have g2 : (hdl a.mem k) < 0 := of_decide_eq_true h1
    refine wp_seq ?_
    refine RG.start ?_
    refine S.quiet (k := 1) (keep := [4]) (m := 0) (σ' := ⟨[(4, .v (I (-1)))], []⟩) .nil (by kernel_rfl) ?_
    clear S; intro ac w β S
    refine RG.done rfl (nx_then ?_)
    refine wp_ret (rt_then ?_)
    refine S.ret (vs := [I (-1)]) (by kernel_rfl) ?_
    exact ⟨retI (show (-1) = hdT_Bare a k by clear S; (simp [hdT_Bare, hdc, *])), S.chg⟩
  · have g3 : ¬ ((hdl a.mem k) < 0) := of_decide_eq_false h1
    refine wp_skip (nx_then ?_)
    refine wp_seq ?_
    refine RG.start ?_
    refine S.quiet (k := 5) (keep := [1, 2]) (m := 1) (σ' := ⟨[(1, .v (I (hdl a.guests (hdl a.mem k)))), (2, .p 0 0)], [GT.cells (α := TBare) a pa]⟩) (.cons (Q_call fun w hw => c_laws_heldGuestS w a.guests pa.guests (rd_of (RBare.guests (d := a) (S.arg ha)) hw) (hdl a.mem k)) .nil) (by kernel_rfl) ?_
    clear S; intro ac w β S
    refine RG.done rfl (nx_then ?_)
    refine wp_seq ?_
    refine wp_seq ?_
    refine RG.start ?_
    refine S.quiet (k := 2) (keep := [1, 2, 16]) (m := 1) (σ' := ⟨[(1, .v (I (hdl a.guests (hdl a.mem k)))), (2, .p 0 0), (16, .v (B (decide ((hdl a.guests (hdl a.mem k)) < 0))))], [GT.cells (α := TBare) a pa]⟩) .nil (by kernel_rfl) ?_
    clear S; intro ac w β S
    refine RG.done rfl (nx_then ?_)
    refine S.cond (e := (decide ((hdl a.guests (hdl a.mem k)) < 0))) (by kernel_rfl) (fun h4 => ?_) (fun h4 => ?_)
    · have g5 : (hdl a.guests (hdl a.mem k)) < 0 := of_decide_eq_true h4
      refine wp_seq ?_
      refine RG.start ?_
      refine S.quiet (k := 1) (keep := [4]) (m := 0) (σ' := ⟨[(4, .v (I (-1)))], []⟩) .nil (by kernel_rfl) ?_
      clear S; intro ac w β S
      refine RG.done rfl (nx_then ?_)
      refine wp_ret (rt_then ?_)
      refine S.ret (vs := [I (-1)]) (by kernel_rfl) ?_
      exact ⟨retI (show (-1) = hdT_Bare a k by clear S; (simp [hdT_Bare, hdc, *])), S.chg⟩
    · have g6 : ¬ ((hdl a.guests (hdl a.mem k)) < 0) := of_decide_eq_false h4
      refine wp_skip (nx_then ?_)
      refine wp_seq ?_
      refine RG.start ?_
      refine S.quiet (k := 5) (keep := [1]) (m := 0) (σ' := ⟨[(1, .v (I (hdl a.outs (hdl a.guests (hdl a.mem k)))))], []⟩) (.cons (Q_call fun w hw => c_laws_heldIntS w a.outs pa.outs (rd_of (RBare.outs (d := a) (S.arg ha)) hw) (hdl a.guests (hdl a.mem k))) .nil) (by kernel_rfl) ?_
      clear S; intro ac w β S
      refine RG.done rfl (nx_then ?_)
      refine wp_seq ?_
      refine wp_seq ?_
      refine RG.start ?_
      refine S.quiet (k := 2) (keep := [1, 22]) (m := 0) (σ' := ⟨[(1, .v (I (hdl a.outs (hdl a.guests (hdl a.mem k))))), (22, .v (B (decide ((hdl a.outs (hdl a.guests (hdl a.mem k))) < 0))))], []⟩) .nil (by kernel_rfl) ?_
      clear S; intro ac w β S
      refine RG.done rfl (nx_then ?_)
      refine S.cond (e := (decide ((hdl a.outs (hdl a.guests (hdl a.mem k))) < 0))) (by kernel_rfl) (fun h7 => ?_) (fun h7 => ?_)
      · have g8 : (hdl a.outs (hdl a.guests (hdl a.mem k))) < 0 := of_decide_eq_true h7
        refine wp_seq ?_
        refine RG.start ?_
        refine S.quiet (k := 1) (keep := [4]) (m := 0) (σ' := ⟨[(4, .v (I (-1)))], []⟩) .nil (by kernel_rfl) ?_
        clear S; intro ac w β S
        refine RG.done rfl (nx_then ?_)
        refine wp_ret (rt_then ?_)
        refine S.ret (vs := [I (-1)]) (by kernel_rfl) ?_
        exact ⟨retI (show (-1) = hdT_Bare a k by clear S; (simp [hdT_Bare, hdc, *])), S.chg⟩
      · have g9 : ¬ ((hdl a.outs (hdl a.guests (hdl a.mem k))) < 0) := of_decide_eq_false h7
        refine wp_skip (nx_then ?_)
        refine wp_seq ?_
        refine RG.start ?_
        refine S.quiet (k := 2) (keep := [4]) (m := 0) (σ' := ⟨[(4, .v (I (hdl a.outs (hdl a.guests (hdl a.mem k)))))], []⟩) .nil (by kernel_rfl) ?_
        clear S; intro ac w β S
        refine RG.done rfl (nx_then ?_)
        refine wp_ret ?_
        refine S.ret (vs := [I (hdl a.outs (hdl a.guests (hdl a.mem k)))]) (by kernel_rfl) ?_
        exact ⟨retI (show (hdl a.outs (hdl a.guests (hdl a.mem k))) = hdT_Bare a k by clear S; (simp [hdT_Bare, hdc, *])), S.chg⟩

set_option maxRecDepth 100000 in
theorem c_laws_FnExactSeenAs (w0 : World) (aH : THost) (paH : PHost) (haH : GT.rd KR (Lt w0.heap.size) w0 aH paH) (aM : Int) : Calls Go.Proofs.Try.prog 4 [GT.val (α := THost) aH paH, I aM].toArray w0 (fun e w' => e = .returned (B true) ∧ Chg NoB w0 w') := by
  refine Calls.walk (args := [GT.val (α := THost) aH paH, I aM]) NoB Go.Proofs.Try.func4 rfl rfl ?_
  intro ac β S
  refine wp_seq ?_
  refine RG.start ?_
  refine S.quiet (k := 2) (keep := [1, 2]) (m := 1) (σ' := ⟨[(1, .v (I aM)), (2, .p 0 0)], [GT.cells (α := THost) aH paH]⟩) .nil (by kernel_rfl) ?_
  clear S; intro ac w β S
  refine RG.done rfl (nx_then ?_)
  refine wp_seq ?_
  refine RG.start ?_
  refine S.quiet (k := 1) (keep := [1, 2, 5]) (m := 1) (σ' := ⟨[(1, .v (I aM)), (2, .p 0 0), (5, .v (I 1048576))], [GT.cells (α := THost) aH paH]⟩) .nil (by kernel_rfl) ?_
  clear S; intro ac w β S
  refine RG.done rfl (nx_then ?_)
  refine wp_seq ?_
  refine RG.start ?_
  have b1 := f_sz_cs (SZ.sz aH) 1048576
  refine S.quiet (k := 4) (keep := [1, 2, 5]) (m := 1) (σ' := ⟨[(1, .v (I aM)), (2, .p 0 0), (5, .v (I (f_sz (SZ.sz aH) 1048576)))], [GT.cells (α := THost) aH paH]⟩) (.cons (Q_call fun w hw => c_laws_szHost w aH paH (rd_of (S.arg haH) hw) 1048576 (by omega) (by omega)) .nil) (by kernel_rfl) ?_
  clear S; intro ac w β S
  refine RG.done rfl (nx_then ?_)
  refine wp_seq ?_
  refine wp_seq ?_
  refine RG.start ?_
  refine S.quiet (k := 2) (keep := [1, 2, 17]) (m := 1) (σ' := ⟨[(1, .v (I aM)), (2, .p 0 0), (17, .v (B (decide ((f_sz (SZ.sz aH) 1048576) < 0))))], [GT.cells (α := THost) aH paH]⟩) .nil (by kernel_rfl) ?_
  clear S; intro ac w β S
  refine RG.done rfl (nx_then ?_)
  refine S.cond (e := (decide ((f_sz (SZ.sz aH) 1048576) < 0))) (by kernel_rfl) (fun h2 => ?_) (fun h2 => ?_)
  · have g3 : (f_sz (SZ.sz aH) 1048576) < 0 := of_decide_eq_true h2
    refine wp_seq ?_
    refine RG.start ?_
    refine S.quiet (k := 1) (keep := [4]) (m := 0) (σ' := ⟨[(4, .v (B true))], []⟩) .nil (by kernel_rfl) ?_
    clear S; intro ac w β S
    refine RG.done rfl (nx_then ?_)
    refine wp_ret (rt_then ?_)
    refine S.ret (vs := [B true]) (by kernel_rfl) ?_
    exact ⟨retB (show true = true by clear S; first | rfl | (exfalso; omega) | (exfalso; simp_all; done) | (exfalso; simp_all; omega)), S.chg⟩
  · have g4 : ¬ ((f_sz (SZ.sz aH) 1048576) < 0) := of_decide_eq_false h2
    have hkaH : GT.rd KK (Lt w0.heap.size) w0 aH paH := SZ.cut haH (show SZ.sz aH ≤ 4194304 by omega)
    have hcaH : SZ.sz aH ≤ 1048576 := by omega
    refine wp_skip (nx_then ?_)
    refine wp_seq ?_
    refine RG.start ?_
    refine S.quiet (k := 1) (keep := [1, 2, 18]) (m := 1) (σ' := ⟨[(1, .v (I aM)), (2, .p 0 0), (18, .v (GT.val (α := THost) aH paH))], [GT.cells (α := THost) aH paH]⟩) .nil (by kernel_rfl) ?_
    clear S; intro ac w β S
    refine RG.op rfl (S.call1 (r := aH) (d := 19) (c_laws_toHost w aH paH (S.rd (S.arg hkaH))) (by kernel_rfl) rfl ?_)
    clear S; intro ac w N q5 F6 S up o7 d8
    clear up d8
    obtain ⟨F9, F12, F15, F18, o10, o13, o16, o19, s11, s14, s17, s20, d21, d22, d23, d24, d25, d26⟩ := sp_Host o7
    refine S.quiet (k := 1) (keep := [1, 2, 19, 20]) (m := 1) (σ' := ⟨[(1, .v (I aM)), (2, .p 0 0), (19, .v (GT.val (α := THost) aH q5)), (20, .v (I aM))], [GT.cells (α := THost) aH paH]⟩) .nil (by kernel_rfl) ?_
    clear S; intro ac w β S
    refine RG.op rfl (S.call1 (r := f_seenAs aH aM) (d := 21) (c_spec_SeenAs w aH q5 (S.rd (show GT.rd KK _ _ aH q5 from ⟨o10.rn, o13.rn, o16.rn, o19.rn⟩)) aM) (by kernel_rfl) rfl ?_)
    clear S; intro ac w N q27 F28 S up o29 d30
    have d31 : Disj F9 F28 := fun b x y => d30 b (o10.sub b x) y
    have d32 : Disj F12 F28 := fun b x y => d30 b (o13.sub b x) y
    have d33 : Disj F15 F28 := fun b x y => d30 b (o16.sub b x) y
    have d34 : Disj F18 F28 := fun b x y => d30 b (o19.sub b x) y
    replace o10 := o10.up up
    replace o13 := o13.up up
    replace o16 := o16.up up
    replace o19 := o19.up up
    clear up d30
    have i44 : In64 (f_seenAs aH aM).pend := RBare.pend (d := (f_seenAs aH aM)) o29.rn
    obtain ⟨F35, F38, F41, o36, o39, o42, s37, s40, s43, d45, d46, d47⟩ := sp_Bare o29
    refine S.quiet (k := 2) (keep := [1, 2, 6]) (m := 2) (σ' := ⟨[(1, .v (I aM)), (2, .p 0 0), (6, .p 1 0)], [GT.cells (α := THost) aH paH, [slv ((f_seenAs aH aM).mem).length q27.mem.1, slv ((f_seenAs aH aM).guests).length q27.guests.1, slv ((f_seenAs aH aM).outs).length q27.outs.1, I ((f_seenAs aH aM).pend)]]⟩) .nil (by kernel_rfl) ?_
    clear S; intro ac w β S
    refine RG.done rfl (nx_then ?_)
    refine wp_seq ?_
    refine RG.start ?_
    refine S.quiet (k := 1) (keep := [1, 2, 6, 22]) (m := 2) (σ' := ⟨[(1, .v (I aM)), (2, .p 0 0), (6, .p 1 0), (22, .v (GT.val (α := THost) aH paH))], [GT.cells (α := THost) aH paH, [slv ((f_seenAs aH aM).mem).length q27.mem.1, slv ((f_seenAs aH aM).guests).length q27.guests.1, slv ((f_seenAs aH aM).outs).length q27.outs.1, I ((f_seenAs aH aM).pend)]]⟩) .nil (by kernel_rfl) ?_
    clear S; intro ac w β S
    refine RG.op rfl (S.call1 (r := aH) (d := 23) (c_laws_toHost w aH paH (S.rd (S.arg hkaH))) (by kernel_rfl) rfl ?_)
    clear S; intro ac w N q48 F49 S up o50 d51
    have d52 : Disj F35 F49 := fun b x y => d51 b (o36.sub b x) y
    have d53 : Disj F38 F49 := fun b x y => d51 b (o39.sub b x) y
    have d54 : Disj F41 F49 := fun b x y => d51 b (o42.sub b x) y
    replace o36 := o36.up up
    replace o39 := o39.up up
    replace o42 := o42.up up
    clear up d51
    obtain ⟨F55, F58, F61, F64, o56, o59, o62, o65, s57, s60, s63, s66, d67, d68, d69, d70, d71, d72⟩ := sp_Host o50
    refine S.quiet (k := 2) (keep := [1, 2, 6, 7]) (m := 3) (σ' := ⟨[(1, .v (I aM)), (2, .p 0 0), (6, .p 1 0), (7, .p 2 0)], [GT.cells (α := THost) aH paH, [slv ((f_seenAs aH aM).mem).length q27.mem.1, slv ((f_seenAs aH aM).guests).length q27.guests.1, slv ((f_seenAs aH aM).outs).length q27.outs.1, I ((f_seenAs aH aM).pend)], [slv (aH.mem).length q48.mem.1, slv (aH.mons).length q48.mons.1, slv (aH.buf).length q48.buf.1, slv (aH.iobuf).length q48.iobuf.1]]⟩) .nil (by kernel_rfl) ?_
    clear S; intro ac w β S
    refine RG.done rfl (nx_then ?_)
    refine wp_seq ?_
    refine RG.start ?_
    refine S.quiet (k := 2) (keep := [1, 2, 6, 7, 24, 25]) (m := 3) (σ' := ⟨[(1, .v (I aM)), (2, .p 0 0), (6, .p 1 0), (7, .p 2 0), (24, .v (GT.val (α := THost) aH q48)), (25, .v (I aM))], [GT.cells (α := THost) aH paH, [slv ((f_seenAs aH aM).mem).length q27.mem.1, slv ((f_seenAs aH aM).guests).length q27.guests.1, slv ((f_seenAs aH aM).outs).length q27.outs.1, I ((f_seenAs aH aM).pend)], [slv (aH.mem).length q48.mem.1, slv (aH.mons).length q48.mons.1, slv (aH.buf).length q48.buf.1, slv (aH.iobuf).length q48.iobuf.1]]⟩) .nil (by kernel_rfl) ?_
    clear S; intro ac w β S
    refine RG.op rfl (S.call1 (r := f_seenAs aH aM) (d := 26) (c_impl_SeenAs w aH q48 (S.rd (show GT.rd KK _ _ aH q48 from ⟨o56.rn, o59.rn, o62.rn, o65.rn⟩)) aM) (by kernel_rfl) rfl ?_)
    clear S; intro ac w N q73 F74 S up o75 d76
    have d77 : Disj F35 F74 := fun b x y => d76 b (o36.sub b x) y
    have d78 : Disj F38 F74 := fun b x y => d76 b (o39.sub b x) y
    have d79 : Disj F41 F74 := fun b x y => d76 b (o42.sub b x) y
    have d80 : Disj F55 F74 := fun b x y => d76 b (o56.sub b x) y
    have d81 : Disj F58 F74 := fun b x y => d76 b (o59.sub b x) y
    have d82 : Disj F61 F74 := fun b x y => d76 b (o62.sub b x) y
    have d83 : Disj F64 F74 := fun b x y => d76 b (o65.sub b x) y
    replace o36 := o36.up up
    replace o39 := o39.up up
    replace o42 := o42.up up
    replace o56 := o56.up up
    replace o59 := o59.up up
    replace o62 := o62.up up
    replace o65 := o65.up up
    clear up d76
    have i93 : In64 (f_seenAs aH aM).pend := RBare.pend (d := (f_seenAs aH aM)) o75.rn
    obtain ⟨F84, F87, F90, o85, o88, o91, s86, s89, s92, d94, d95, d96⟩ := sp_Bare o75
    refine S.quiet (k := 2) (keep := [1, 2, 6, 7, 8]) (m := 4) (σ' := ⟨[(1, .v (I aM)), (2, .p 0 0), (6, .p 1 0), (7, .p 2 0), (8, .p 3 0)], [GT.cells (α := THost) aH paH, [slv ((f_seenAs aH aM).mem).length q27.mem.1, slv ((f_seenAs aH aM).guests).length q27.guests.1, slv ((f_seenAs aH aM).outs).length q27.outs.1, I ((f_seenAs aH aM).pend)], [slv (aH.mem).length q48.mem.1, slv (aH.mons).length q48.mons.1, slv (aH.buf).length q48.buf.1, slv (aH.iobuf).length q48.iobuf.1], [slv ((f_seenAs aH aM).mem).length q73.mem.1, slv ((f_seenAs aH aM).guests).length q73.guests.1, slv ((f_seenAs aH aM).outs).length q73.outs.1, I ((f_seenAs aH aM).pend)]]⟩) .nil (by kernel_rfl) ?_
    clear S; intro ac w β S
    refine RG.done rfl (nx_then ?_)
    refine wp_seq ?_
    refine wp_seq ?_
    refine RG.start ?_
    refine S.quiet (k := 4) (keep := [1, 2, 6, 7, 8, 30]) (m := 4) (σ' := ⟨[(1, .v (I aM)), (2, .p 0 0), (6, .p 1 0), (7, .p 2 0), (8, .p 3 0), (30, .v (B (!(decide ((f_seenAs aH aM) = (f_seenAs aH aM))))))], [GT.cells (α := THost) aH paH, [slv ((f_seenAs aH aM).mem).length q27.mem.1, slv ((f_seenAs aH aM).guests).length q27.guests.1, slv ((f_seenAs aH aM).outs).length q27.outs.1, I ((f_seenAs aH aM).pend)], [slv (aH.mem).length q48.mem.1, slv (aH.mons).length q48.mons.1, slv (aH.buf).length q48.buf.1, slv (aH.iobuf).length q48.iobuf.1], [slv ((f_seenAs aH aM).mem).length q73.mem.1, slv ((f_seenAs aH aM).guests).length q73.guests.1, slv ((f_seenAs aH aM).outs).length q73.outs.1, I ((f_seenAs aH aM).pend)]]⟩) (.cons (Q_call fun w hw => c_laws_eqBare w (f_seenAs aH aM) q73 (rd_of (show GT.rd KK _ _ (f_seenAs aH aM) q73 from ⟨o85.rn, o88.rn, o91.rn, i93⟩) hw) (f_seenAs aH aM) q27 (rd_of (show GT.rd KK _ _ (f_seenAs aH aM) q27 from ⟨o36.rn, o39.rn, o42.rn, i44⟩) hw)) .nil) (by kernel_rfl) ?_
    clear S; intro ac w β S
    refine RG.done rfl (nx_then ?_)
    refine S.cond (e := (!(decide ((f_seenAs aH aM) = (f_seenAs aH aM))))) (by kernel_rfl) (fun h97 => ?_) (fun h97 => ?_)
    · have h98 : (decide ((f_seenAs aH aM) = (f_seenAs aH aM))) = false := not_t h97
      have g99 := of_decide_eq_false h98
      refine wp_seq ?_
      refine RG.start ?_
      refine S.quiet (k := 1) (keep := [4]) (m := 0) (σ' := ⟨[(4, .v (B false))], []⟩) .nil (by kernel_rfl) ?_
      clear S; intro ac w β S
      refine RG.done rfl (nx_then ?_)
      refine wp_ret (rt_then ?_)
      refine S.ret (vs := [B false]) (by kernel_rfl) ?_
      exact ⟨retB (show false = true by clear S; first | rfl | (exfalso; omega) | (exfalso; simp_all; done) | (exfalso; simp_all; omega)), S.chg⟩
    · have h100 : (decide ((f_seenAs aH aM) = (f_seenAs aH aM))) = true := not_f h97
      have g101 := of_decide_eq_true h100
      refine wp_skip (nx_then ?_)
      refine wp_seq ?_
      refine wp_seq ?_
      refine S.draw0 (f := 5) 5 rfl rfl ?_
      clear S; intro w S
      refine S.hoist (i := 0) (path := []) (keep := [1, 2, 6, 7, 8, 31]) (m := 4) (σ' := ⟨[(1, .v (I aM)), (2, .p 0 0), (6, .p 1 0), (7, .p 2 0), (8, .p 3 0), (31, .v (GT.val (α := THost) aH q48))], [GT.cells (α := THost) aH paH, [slv ((f_seenAs aH aM).mem).length q27.mem.1, slv ((f_seenAs aH aM).guests).length q27.guests.1, slv ((f_seenAs aH aM).outs).length q27.outs.1, I ((f_seenAs aH aM).pend)], [slv (aH.mem).length q48.mem.1, slv (aH.mons).length q48.mons.1, slv (aH.buf).length q48.buf.1, slv (aH.iobuf).length q48.iobuf.1], [slv ((f_seenAs aH aM).mem).length q73.mem.1, slv ((f_seenAs aH aM).guests).length q73.guests.1, slv ((f_seenAs aH aM).outs).length q73.outs.1, I ((f_seenAs aH aM).pend)]]⟩) (by kernel_rfl) (by kernel_rfl) .nil (by kernel_rfl) ?_
      clear S; intro ac S
      refine S.hoist (i := 1) (path := []) (keep := [1, 2, 6, 7, 8, 31, 32]) (m := 4) (σ' := ⟨[(1, .v (I aM)), (2, .p 0 0), (6, .p 1 0), (7, .p 2 0), (8, .p 3 0), (31, .v (GT.val (α := THost) aH q48)), (32, .v (GT.val (α := THost) aH paH))], [GT.cells (α := THost) aH paH, [slv ((f_seenAs aH aM).mem).length q27.mem.1, slv ((f_seenAs aH aM).guests).length q27.guests.1, slv ((f_seenAs aH aM).outs).length q27.outs.1, I ((f_seenAs aH aM).pend)], [slv (aH.mem).length q48.mem.1, slv (aH.mons).length q48.mons.1, slv (aH.buf).length q48.buf.1, slv (aH.iobuf).length q48.iobuf.1], [slv ((f_seenAs aH aM).mem).length q73.mem.1, slv ((f_seenAs aH aM).guests).length q73.guests.1, slv ((f_seenAs aH aM).outs).length q73.outs.1, I ((f_seenAs aH aM).pend)]]⟩) (by kernel_rfl) (by kernel_rfl) .nil (by kernel_rfl) ?_
      clear S; intro ac S
      refine WD.one (i := 2) (by kernel_rfl) ?_
      refine id (S.call1 (r := aH) (d := 33) (c_laws_toHost w aH paH (S.rd (S.arg hkaH))) (by kernel_rfl) rfl ?_)
      clear S; intro ac w N q102 F103 S up o104 d105
      refine WD.next S up rfl ?_
      have d106 : Disj F35 F103 := fun b x y => d105 b (o36.sub b x) y
      have d107 : Disj F38 F103 := fun b x y => d105 b (o39.sub b x) y
      have d108 : Disj F41 F103 := fun b x y => d105 b (o42.sub b x) y
      have d109 : Disj F55 F103 := fun b x y => d105 b (o56.sub b x) y
      have d110 : Disj F58 F103 := fun b x y => d105 b (o59.sub b x) y
      have d111 : Disj F61 F103 := fun b x y => d105 b (o62.sub b x) y
      have d112 : Disj F64 F103 := fun b x y => d105 b (o65.sub b x) y
      have d113 : Disj F84 F103 := fun b x y => d105 b (o85.sub b x) y
      have d114 : Disj F87 F103 := fun b x y => d105 b (o88.sub b x) y
      have d115 : Disj F90 F103 := fun b x y => d105 b (o91.sub b x) y
      replace o36 := o36.up up
      replace o39 := o39.up up
      replace o42 := o42.up up
      replace o56 := o56.up up
      replace o59 := o59.up up
      replace o62 := o62.up up
      replace o65 := o65.up up
      replace o85 := o85.up up
      replace o88 := o88.up up
      replace o91 := o91.up up
      clear up d105
      obtain ⟨F116, F119, F122, F125, o117, o120, o123, o126, s118, s121, s124, s127, d128, d129, d130, d131, d132, d133⟩ := sp_Host o104
      refine WD.one (i := 3) (by kernel_rfl) ?_
      refine S.stepq (i := 3) (keep := [1, 2, 6, 7, 8, 34]) (m := 4) (σ' := ⟨[(1, .v (I aM)), (2, .p 0 0), (6, .p 1 0), (7, .p 2 0), (8, .p 3 0), (34, .v (B (decide (aH = aH))))], [GT.cells (α := THost) aH paH, [slv ((f_seenAs aH aM).mem).length q27.mem.1, slv ((f_seenAs aH aM).guests).length q27.guests.1, slv ((f_seenAs aH aM).outs).length q27.outs.1, I ((f_seenAs aH aM).pend)], [slv (aH.mem).length q48.mem.1, slv (aH.mons).length q48.mons.1, slv (aH.buf).length q48.buf.1, slv (aH.iobuf).length q48.iobuf.1], [slv ((f_seenAs aH aM).mem).length q73.mem.1, slv ((f_seenAs aH aM).guests).length q73.guests.1, slv ((f_seenAs aH aM).outs).length q73.outs.1, I ((f_seenAs aH aM).pend)]]⟩) (.cons (Q_call fun w hw => c_laws_eqHost w aH q48 (rd_of (show GT.rd KK _ _ aH q48 from ⟨o56.rn, o59.rn, o62.rn, o65.rn⟩) hw) aH q102 (rd_of (show GT.rd KK _ _ aH q102 from ⟨o117.rn, o120.rn, o123.rn, o126.rn⟩) hw)) .nil) (by kernel_rfl) ?_
      clear S; intro ac w β S hβ
      refine WD.stay S hβ (fun _ _ h => h) ?_
      clear hβ
      refine S.hoist (i := 4) (path := []) (keep := [1, 2, 6, 7, 8, 35]) (m := 4) (σ' := ⟨[(1, .v (I aM)), (2, .p 0 0), (6, .p 1 0), (7, .p 2 0), (8, .p 3 0), (35, .v (B (!(decide (aH = aH)))))], [GT.cells (α := THost) aH paH, [slv ((f_seenAs aH aM).mem).length q27.mem.1, slv ((f_seenAs aH aM).guests).length q27.guests.1, slv ((f_seenAs aH aM).outs).length q27.outs.1, I ((f_seenAs aH aM).pend)], [slv (aH.mem).length q48.mem.1, slv (aH.mons).length q48.mons.1, slv (aH.buf).length q48.buf.1, slv (aH.iobuf).length q48.iobuf.1], [slv ((f_seenAs aH aM).mem).length q73.mem.1, slv ((f_seenAs aH aM).guests).length q73.guests.1, slv ((f_seenAs aH aM).outs).length q73.outs.1, I ((f_seenAs aH aM).pend)]]⟩) (by kernel_rfl) (by kernel_rfl) .nil (by kernel_rfl) ?_
      clear S; intro ac S
      refine WD.done (by kernel_rfl) ?_ _
      replace S := S.prune (keep := [1, 2, 6, 7, 8, 35]) (m := 4) (σ' := ⟨[(1, .v (I aM)), (2, .p 0 0), (6, .p 1 0), (7, .p 2 0), (8, .p 3 0), (35, .v (B (!(decide (aH = aH)))))], [GT.cells (α := THost) aH paH, [slv ((f_seenAs aH aM).mem).length q27.mem.1, slv ((f_seenAs aH aM).guests).length q27.guests.1, slv ((f_seenAs aH aM).outs).length q27.outs.1, I ((f_seenAs aH aM).pend)], [slv (aH.mem).length q48.mem.1, slv (aH.mons).length q48.mons.1, slv (aH.buf).length q48.buf.1, slv (aH.iobuf).length q48.iobuf.1], [slv ((f_seenAs aH aM).mem).length q73.mem.1, slv ((f_seenAs aH aM).guests).length q73.guests.1, slv ((f_seenAs aH aM).outs).length q73.outs.1, I ((f_seenAs aH aM).pend)]]⟩) (by kernel_rfl)
      refine id (nx_then ?_)
      refine S.cond (e := (!(decide (aH = aH)))) (by kernel_rfl) (fun h134 => ?_) (fun h134 => ?_)
      · have h135 : (decide (aH = aH)) = false := not_t h134
        have g136 := of_decide_eq_false h135
        refine wp_seq ?_
        refine RG.start ?_
        refine S.quiet (k := 1) (keep := [4]) (m := 0) (σ' := ⟨[(4, .v (B false))], []⟩) .nil (by kernel_rfl) ?_
        clear S; intro ac w β S
        refine RG.done rfl (nx_then ?_)
        refine wp_ret (rt_then ?_)
        refine S.ret (vs := [B false]) (by kernel_rfl) ?_
        exact ⟨retB (show false = true by clear S; first | rfl | (exfalso; omega) | (exfalso; simp_all; done) | (exfalso; simp_all; omega)), S.chg⟩
      · have h137 : (decide (aH = aH)) = true := not_f h134
        have g138 := of_decide_eq_true h137
        refine wp_skip (nx_then ?_)
        refine wp_seq ?_
        refine RG.start ?_
        refine S.quiet (k := 1) (keep := [1, 2, 6, 7, 8, 9]) (m := 4) (σ' := ⟨[(1, .v (I aM)), (2, .p 0 0), (6, .p 1 0), (7, .p 2 0), (8, .p 3 0), (9, .v (I 1))], [GT.cells (α := THost) aH paH, [slv ((f_seenAs aH aM).mem).length q27.mem.1, slv ((f_seenAs aH aM).guests).length q27.guests.1, slv ((f_seenAs aH aM).outs).length q27.outs.1, I ((f_seenAs aH aM).pend)], [slv (aH.mem).length q48.mem.1, slv (aH.mons).length q48.mons.1, slv (aH.buf).length q48.buf.1, slv (aH.iobuf).length q48.iobuf.1], [slv ((f_seenAs aH aM).mem).length q73.mem.1, slv ((f_seenAs aH aM).guests).length q73.guests.1, slv ((f_seenAs aH aM).outs).length q73.outs.1, I ((f_seenAs aH aM).pend)]]⟩) .nil (by kernel_rfl) ?_
        clear S; intro ac w β S
        refine RG.done rfl (nx_then ?_)
        refine wp_seq ?_
        refine RG.start ?_
        refine S.quiet (k := 2) (keep := [1, 2, 6, 8, 36, 37]) (m := 4) (σ' := ⟨[(1, .v (I aM)), (2, .p 0 0), (6, .p 1 0), (8, .p 3 0), (36, .v (GT.val (α := THost) aH q48)), (37, .v (I 1))], [GT.cells (α := THost) aH paH, [slv ((f_seenAs aH aM).mem).length q27.mem.1, slv ((f_seenAs aH aM).guests).length q27.guests.1, slv ((f_seenAs aH aM).outs).length q27.outs.1, I ((f_seenAs aH aM).pend)], [slv (aH.mem).length q48.mem.1, slv (aH.mons).length q48.mons.1, slv (aH.buf).length q48.buf.1, slv (aH.iobuf).length q48.iobuf.1], [slv ((f_seenAs aH aM).mem).length q73.mem.1, slv ((f_seenAs aH aM).guests).length q73.guests.1, slv ((f_seenAs aH aM).outs).length q73.outs.1, I ((f_seenAs aH aM).pend)]]⟩) .nil (by kernel_rfl) ?_
        clear S; intro ac w β S
        have o139 := ow_Host (x := aH) (p := q48) o56 o59 o62 o65 d67 d68 d69 d70 d71 d72 
        refine RG.op rfl (S.callX (hd := hdT_Host) (d := 38) o139 (c_laws_markHost w aH q48 (uniB [F55, F58, F61, F64]) (S.ownw o139) (fun b hb => (S.sep b (o139.sub b hb)).1) 1 (by omega) (by omega)) (by kernel_rfl) rfl ?_)
        clear S; intro ac w N q140 y141 k142 S up o143 c144 x145 b146 b147
        replace o36 := o36.upF (Disj.symm (Disj.or (Disj.part (Disj.symm d52) s57) (Disj.or (Disj.part (Disj.symm d52) s60) (Disj.or (Disj.part (Disj.symm d52) s63) (Disj.or (Disj.part (Disj.symm d52) s66) Disj.nob))))) up
        replace o39 := o39.upF (Disj.symm (Disj.or (Disj.part (Disj.symm d53) s57) (Disj.or (Disj.part (Disj.symm d53) s60) (Disj.or (Disj.part (Disj.symm d53) s63) (Disj.or (Disj.part (Disj.symm d53) s66) Disj.nob))))) up
        replace o42 := o42.upF (Disj.symm (Disj.or (Disj.part (Disj.symm d54) s57) (Disj.or (Disj.part (Disj.symm d54) s60) (Disj.or (Disj.part (Disj.symm d54) s63) (Disj.or (Disj.part (Disj.symm d54) s66) Disj.nob))))) up
        replace o85 := o85.upF (Disj.symm (Disj.or (Disj.symm (Disj.part (Disj.symm d80) s86)) (Disj.or (Disj.symm (Disj.part (Disj.symm d81) s86)) (Disj.or (Disj.symm (Disj.part (Disj.symm d82) s86)) (Disj.or (Disj.symm (Disj.part (Disj.symm d83) s86)) Disj.nob))))) up
        replace o88 := o88.upF (Disj.symm (Disj.or (Disj.symm (Disj.part (Disj.symm d80) s89)) (Disj.or (Disj.symm (Disj.part (Disj.symm d81) s89)) (Disj.or (Disj.symm (Disj.part (Disj.symm d82) s89)) (Disj.or (Disj.symm (Disj.part (Disj.symm d83) s89)) Disj.nob))))) up
        replace o91 := o91.upF (Disj.symm (Disj.or (Disj.symm (Disj.part (Disj.symm d80) s92)) (Disj.or (Disj.symm (Disj.part (Disj.symm d81) s92)) (Disj.or (Disj.symm (Disj.part (Disj.symm d82) s92)) (Disj.or (Disj.symm (Disj.part (Disj.symm d83) s92)) Disj.nob))))) up
        clear up
        replace S := S.prune (keep := [1, 2, 6, 8, 37, 38]) (m := 4) (σ' := ⟨[(1, .v (I aM)), (2, .p 0 0), (6, .p 1 0), (8, .p 3 0), (37, .v (I 1)), (38, .v (I k142))], [GT.cells (α := THost) aH paH, [slv ((f_seenAs aH aM).mem).length q27.mem.1, slv ((f_seenAs aH aM).guests).length q27.guests.1, slv ((f_seenAs aH aM).outs).length q27.outs.1, I ((f_seenAs aH aM).pend)], [slv (aH.mem).length q48.mem.1, slv (aH.mons).length q48.mons.1, slv (aH.buf).length q48.buf.1, slv (aH.iobuf).length q48.iobuf.1], [slv ((f_seenAs aH aM).mem).length q73.mem.1, slv ((f_seenAs aH aM).guests).length q73.guests.1, slv ((f_seenAs aH aM).outs).length q73.outs.1, I ((f_seenAs aH aM).pend)]]⟩) (by kernel_rfl)
        obtain ⟨F148, F151, F154, F157, o149, o152, o155, o158, s150, s153, s156, s159, d160, d161, d162, d163, d164, d165⟩ := sp_Host o143
        have hw0 : [slv (y141.mem).length q140.mem.1, slv (y141.mons).length q140.mons.1, slv (y141.buf).length q140.buf.1, slv (y141.iobuf).length q140.iobuf.1] = [slv (aH.mem).length q48.mem.1, slv (aH.mons).length q48.mons.1, slv (aH.buf).length q48.buf.1, slv (aH.iobuf).length q48.iobuf.1] := c144
        replace S := S.cast (σ' := ⟨[(1, .v (I aM)), (2, .p 0 0), (6, .p 1 0), (8, .p 3 0), (37, .v (I 1)), (38, .v (I k142))], [GT.cells (α := THost) aH paH, [slv ((f_seenAs aH aM).mem).length q27.mem.1, slv ((f_seenAs aH aM).guests).length q27.guests.1, slv ((f_seenAs aH aM).outs).length q27.outs.1, I ((f_seenAs aH aM).pend)], [slv (y141.mem).length q140.mem.1, slv (y141.mons).length q140.mons.1, slv (y141.buf).length q140.buf.1, slv (y141.iobuf).length q140.iobuf.1], [slv ((f_seenAs aH aM).mem).length q73.mem.1, slv ((f_seenAs aH aM).guests).length q73.guests.1, slv ((f_seenAs aH aM).outs).length q73.outs.1, I ((f_seenAs aH aM).pend)]]⟩) (by rw [hw0])
        clear hw0
        refine S.quiet (k := 1) (keep := [1, 2, 6, 8, 9]) (m := 4) (σ' := ⟨[(1, .v (I aM)), (2, .p 0 0), (6, .p 1 0), (8, .p 3 0), (9, .v (I k142))], [GT.cells (α := THost) aH paH, [slv ((f_seenAs aH aM).mem).length q27.mem.1, slv ((f_seenAs aH aM).guests).length q27.guests.1, slv ((f_seenAs aH aM).outs).length q27.outs.1, I ((f_seenAs aH aM).pend)], [slv (y141.mem).length q140.mem.1, slv (y141.mons).length q140.mons.1, slv (y141.buf).length q140.buf.1, slv (y141.iobuf).length q140.iobuf.1], [slv ((f_seenAs aH aM).mem).length q73.mem.1, slv ((f_seenAs aH aM).guests).length q73.guests.1, slv ((f_seenAs aH aM).outs).length q73.outs.1, I ((f_seenAs aH aM).pend)]]⟩) .nil (by kernel_rfl) ?_
        clear S; intro ac w β S
        refine RG.done rfl (nx_then ?_)
        refine wp_seq ?_
        refine wp_seq ?_
        refine RG.start ?_
        refine S.quiet (k := 3) (keep := [1, 2, 6, 8, 41]) (m := 4) (σ' := ⟨[(1, .v (I aM)), (2, .p 0 0), (6, .p 1 0), (8, .p 3 0), (41, .v (B (decide (k142 < 0))))], [GT.cells (α := THost) aH paH, [slv ((f_seenAs aH aM).mem).length q27.mem.1, slv ((f_seenAs aH aM).guests).length q27.guests.1, slv ((f_seenAs aH aM).outs).length q27.outs.1, I ((f_seenAs aH aM).pend)], [slv (y141.mem).length q140.mem.1, slv (y141.mons).length q140.mons.1, slv (y141.buf).length q140.buf.1, slv (y141.iobuf).length q140.iobuf.1], [slv ((f_seenAs aH aM).mem).length q73.mem.1, slv ((f_seenAs aH aM).guests).length q73.guests.1, slv ((f_seenAs aH aM).outs).length q73.outs.1, I ((f_seenAs aH aM).pend)]]⟩) .nil (by kernel_rfl) ?_
        clear S; intro ac w β S
        rcases Bool.eq_false_or_eq_true (decide (k142 < 0)) with h166 | h166 <;> rw [h166] at S
        · have g167 : k142 < 0 := of_decide_eq_true h166
          refine S.quiet (k := 5) (keep := [1, 2, 6, 8, 46]) (m := 4) (σ' := ⟨[(1, .v (I aM)), (2, .p 0 0), (6, .p 1 0), (8, .p 3 0), (46, .v (B true))], [GT.cells (α := THost) aH paH, [slv ((f_seenAs aH aM).mem).length q27.mem.1, slv ((f_seenAs aH aM).guests).length q27.guests.1, slv ((f_seenAs aH aM).outs).length q27.outs.1, I ((f_seenAs aH aM).pend)], [slv (y141.mem).length q140.mem.1, slv (y141.mons).length q140.mons.1, slv (y141.buf).length q140.buf.1, slv (y141.iobuf).length q140.iobuf.1], [slv ((f_seenAs aH aM).mem).length q73.mem.1, slv ((f_seenAs aH aM).guests).length q73.guests.1, slv ((f_seenAs aH aM).outs).length q73.outs.1, I ((f_seenAs aH aM).pend)]]⟩) .nil (by kernel_rfl) ?_
          clear S; intro ac w β S
          refine RG.done rfl (nx_then ?_)
          refine S.cond (e := true) (by kernel_rfl) (fun _ => ?_) (fun hx => by cases hx)
          refine wp_seq ?_
          refine RG.start ?_
          refine S.quiet (k := 1) (keep := [4]) (m := 0) (σ' := ⟨[(4, .v (B false))], []⟩) .nil (by kernel_rfl) ?_
          clear S; intro ac w β S
          refine RG.done rfl (nx_then ?_)
          refine wp_ret (rt_then ?_)
          refine S.ret (vs := [B false]) (by kernel_rfl) ?_
          exact ⟨retB (show false = true by clear S; first | rfl | (exfalso; omega) | (exfalso; simp_all; done) | (exfalso; simp_all; omega)), S.chg⟩
        · have g168 : ¬ (k142 < 0) := of_decide_eq_false h166
          refine S.quiet (k := 5) (keep := [1, 2, 6, 8, 46]) (m := 4) (σ' := ⟨[(1, .v (I aM)), (2, .p 0 0), (6, .p 1 0), (8, .p 3 0), (46, .v (B (!(decide ((f_seenAs aH aM) = (f_seenAs aH aM))))))], [GT.cells (α := THost) aH paH, [slv ((f_seenAs aH aM).mem).length q27.mem.1, slv ((f_seenAs aH aM).guests).length q27.guests.1, slv ((f_seenAs aH aM).outs).length q27.outs.1, I ((f_seenAs aH aM).pend)], [slv (y141.mem).length q140.mem.1, slv (y141.mons).length q140.mons.1, slv (y141.buf).length q140.buf.1, slv (y141.iobuf).length q140.iobuf.1], [slv ((f_seenAs aH aM).mem).length q73.mem.1, slv ((f_seenAs aH aM).guests).length q73.guests.1, slv ((f_seenAs aH aM).outs).length q73.outs.1, I ((f_seenAs aH aM).pend)]]⟩) (.cons (Q_call fun w hw => c_laws_eqBare w (f_seenAs aH aM) q73 (rd_of (show GT.rd KK _ _ (f_seenAs aH aM) q73 from ⟨o85.rn, o88.rn, o91.rn, i93⟩) hw) (f_seenAs aH aM) q27 (rd_of (show GT.rd KK _ _ (f_seenAs aH aM) q27 from ⟨o36.rn, o39.rn, o42.rn, i44⟩) hw)) .nil) (by kernel_rfl) ?_
          clear S; intro ac w β S
          refine RG.done rfl (nx_then ?_)
          refine S.cond (e := (!(decide ((f_seenAs aH aM) = (f_seenAs aH aM))))) (by kernel_rfl) (fun h169 => ?_) (fun h169 => ?_)
          · have h170 : (decide ((f_seenAs aH aM) = (f_seenAs aH aM))) = false := not_t h169
            have g171 := of_decide_eq_false h170
            refine wp_seq ?_
            refine RG.start ?_
            refine S.quiet (k := 1) (keep := [4]) (m := 0) (σ' := ⟨[(4, .v (B false))], []⟩) .nil (by kernel_rfl) ?_
            clear S; intro ac w β S
            refine RG.done rfl (nx_then ?_)
            refine wp_ret (rt_then ?_)
            refine S.ret (vs := [B false]) (by kernel_rfl) ?_
            exact ⟨retB (show false = true by clear S; first | rfl | (exfalso; omega) | (exfalso; simp_all; done) | (exfalso; simp_all; omega)), S.chg⟩
          · have h172 : (decide ((f_seenAs aH aM) = (f_seenAs aH aM))) = true := not_f h169
            have g173 := of_decide_eq_true h172
            refine wp_skip (nx_then ?_)
            refine wp_seq ?_
            refine RG.start ?_
            refine S.quiet (k := 1) (keep := [1, 2, 6, 8, 10]) (m := 4) (σ' := ⟨[(1, .v (I aM)), (2, .p 0 0), (6, .p 1 0), (8, .p 3 0), (10, .v (I 1))], [GT.cells (α := THost) aH paH, [slv ((f_seenAs aH aM).mem).length q27.mem.1, slv ((f_seenAs aH aM).guests).length q27.guests.1, slv ((f_seenAs aH aM).outs).length q27.outs.1, I ((f_seenAs aH aM).pend)], [slv (y141.mem).length q140.mem.1, slv (y141.mons).length q140.mons.1, slv (y141.buf).length q140.buf.1, slv (y141.iobuf).length q140.iobuf.1], [slv ((f_seenAs aH aM).mem).length q73.mem.1, slv ((f_seenAs aH aM).guests).length q73.guests.1, slv ((f_seenAs aH aM).outs).length q73.outs.1, I ((f_seenAs aH aM).pend)]]⟩) .nil (by kernel_rfl) ?_
            clear S; intro ac w β S
            refine RG.done rfl (nx_then ?_)
            refine wp_seq ?_
            refine RG.start ?_
            refine S.quiet (k := 2) (keep := [1, 2, 6, 8, 47, 48]) (m := 4) (σ' := ⟨[(1, .v (I aM)), (2, .p 0 0), (6, .p 1 0), (8, .p 3 0), (47, .v (GT.val (α := TBare) (f_seenAs aH aM) q73)), (48, .v (I 1))], [GT.cells (α := THost) aH paH, [slv ((f_seenAs aH aM).mem).length q27.mem.1, slv ((f_seenAs aH aM).guests).length q27.guests.1, slv ((f_seenAs aH aM).outs).length q27.outs.1, I ((f_seenAs aH aM).pend)], [slv (y141.mem).length q140.mem.1, slv (y141.mons).length q140.mons.1, slv (y141.buf).length q140.buf.1, slv (y141.iobuf).length q140.iobuf.1], [slv ((f_seenAs aH aM).mem).length q73.mem.1, slv ((f_seenAs aH aM).guests).length q73.guests.1, slv ((f_seenAs aH aM).outs).length q73.outs.1, I ((f_seenAs aH aM).pend)]]⟩) .nil (by kernel_rfl) ?_
            clear S; intro ac w β S
            have o174 := ow_Bare (x := (f_seenAs aH aM)) (p := q73) o85 o88 o91 d94 d95 d96 i93
            have z183 : SZ.sz (f_seenAs aH aM) ≤ 87960942804992 := SB.bd (o174.rn)
            refine RG.op rfl (S.callX (hd := hdT_Bare) (d := 49) o174 (c_laws_markBare w (f_seenAs aH aM) q73 (uniB [F84, F87, F90]) (S.ownw o174) (fun b hb => (S.sep b (o174.sub b hb)).1) 1 (by omega) (by omega)) (by kernel_rfl) rfl ?_)
            clear S; intro ac w N q175 y176 k177 S up o178 c179 x180 b181 b182
            replace o36 := o36.upF (Disj.symm (Disj.or (Disj.part (Disj.symm d77) s86) (Disj.or (Disj.part (Disj.symm d77) s89) (Disj.or (Disj.part (Disj.symm d77) s92) Disj.nob)))) up
            replace o39 := o39.upF (Disj.symm (Disj.or (Disj.part (Disj.symm d78) s86) (Disj.or (Disj.part (Disj.symm d78) s89) (Disj.or (Disj.part (Disj.symm d78) s92) Disj.nob)))) up
            replace o42 := o42.upF (Disj.symm (Disj.or (Disj.part (Disj.symm d79) s86) (Disj.or (Disj.part (Disj.symm d79) s89) (Disj.or (Disj.part (Disj.symm d79) s92) Disj.nob)))) up
            replace o149 := o149.upF (Disj.symm (Disj.or (Disj.symm (Disj.part (Disj.symm (Disj.symm (Disj.or (Disj.symm (Disj.part (Disj.symm d80) s86)) (Disj.or (Disj.symm (Disj.part (Disj.symm d81) s86)) (Disj.or (Disj.symm (Disj.part (Disj.symm d82) s86)) (Disj.or (Disj.symm (Disj.part (Disj.symm d83) s86)) Disj.nob)))))) s150)) (Disj.or (Disj.symm (Disj.part (Disj.symm (Disj.symm (Disj.or (Disj.symm (Disj.part (Disj.symm d80) s89)) (Disj.or (Disj.symm (Disj.part (Disj.symm d81) s89)) (Disj.or (Disj.symm (Disj.part (Disj.symm d82) s89)) (Disj.or (Disj.symm (Disj.part (Disj.symm d83) s89)) Disj.nob)))))) s150)) (Disj.or (Disj.symm (Disj.part (Disj.symm (Disj.symm (Disj.or (Disj.symm (Disj.part (Disj.symm d80) s92)) (Disj.or (Disj.symm (Disj.part (Disj.symm d81) s92)) (Disj.or (Disj.symm (Disj.part (Disj.symm d82) s92)) (Disj.or (Disj.symm (Disj.part (Disj.symm d83) s92)) Disj.nob)))))) s150)) Disj.nob)))) up
            replace o152 := o152.upF (Disj.symm (Disj.or (Disj.symm (Disj.part (Disj.symm (Disj.symm (Disj.or (Disj.symm (Disj.part (Disj.symm d80) s86)) (Disj.or (Disj.symm (Disj.part (Disj.symm d81) s86)) (Disj.or (Disj.symm (Disj.part (Disj.symm d82) s86)) (Disj.or (Disj.symm (Disj.part (Disj.symm d83) s86)) Disj.nob)))))) s153)) (Disj.or (Disj.symm (Disj.part (Disj.symm (Disj.symm (Disj.or (Disj.symm (Disj.part (Disj.symm d80) s89)) (Disj.or (Disj.symm (Disj.part (Disj.symm d81) s89)) (Disj.or (Disj.symm (Disj.part (Disj.symm d82) s89)) (Disj.or (Disj.symm (Disj.part (Disj.symm d83) s89)) Disj.nob)))))) s153)) (Disj.or (Disj.symm (Disj.part (Disj.symm (Disj.symm (Disj.or (Disj.symm (Disj.part (Disj.symm d80) s92)) (Disj.or (Disj.symm (Disj.part (Disj.symm d81) s92)) (Disj.or (Disj.symm (Disj.part (Disj.symm d82) s92)) (Disj.or (Disj.symm (Disj.part (Disj.symm d83) s92)) Disj.nob)))))) s153)) Disj.nob)))) up
            replace o155 := o155.upF (Disj.symm (Disj.or (Disj.symm (Disj.part (Disj.symm (Disj.symm (Disj.or (Disj.symm (Disj.part (Disj.symm d80) s86)) (Disj.or (Disj.symm (Disj.part (Disj.symm d81) s86)) (Disj.or (Disj.symm (Disj.part (Disj.symm d82) s86)) (Disj.or (Disj.symm (Disj.part (Disj.symm d83) s86)) Disj.nob)))))) s156)) (Disj.or (Disj.symm (Disj.part (Disj.symm (Disj.symm (Disj.or (Disj.symm (Disj.part (Disj.symm d80) s89)) (Disj.or (Disj.symm (Disj.part (Disj.symm d81) s89)) (Disj.or (Disj.symm (Disj.part (Disj.symm d82) s89)) (Disj.or (Disj.symm (Disj.part (Disj.symm d83) s89)) Disj.nob)))))) s156)) (Disj.or (Disj.symm (Disj.part (Disj.symm (Disj.symm (Disj.or (Disj.symm (Disj.part (Disj.symm d80) s92)) (Disj.or (Disj.symm (Disj.part (Disj.symm d81) s92)) (Disj.or (Disj.symm (Disj.part (Disj.symm d82) s92)) (Disj.or (Disj.symm (Disj.part (Disj.symm d83) s92)) Disj.nob)))))) s156)) Disj.nob)))) up
            replace o158 := o158.upF (Disj.symm (Disj.or (Disj.symm (Disj.part (Disj.symm (Disj.symm (Disj.or (Disj.symm (Disj.part (Disj.symm d80) s86)) (Disj.or (Disj.symm (Disj.part (Disj.symm d81) s86)) (Disj.or (Disj.symm (Disj.part (Disj.symm d82) s86)) (Disj.or (Disj.symm (Disj.part (Disj.symm d83) s86)) Disj.nob)))))) s159)) (Disj.or (Disj.symm (Disj.part (Disj.symm (Disj.symm (Disj.or (Disj.symm (Disj.part (Disj.symm d80) s89)) (Disj.or (Disj.symm (Disj.part (Disj.symm d81) s89)) (Disj.or (Disj.symm (Disj.part (Disj.symm d82) s89)) (Disj.or (Disj.symm (Disj.part (Disj.symm d83) s89)) Disj.nob)))))) s159)) (Disj.or (Disj.symm (Disj.part (Disj.symm (Disj.symm (Disj.or (Disj.symm (Disj.part (Disj.symm d80) s92)) (Disj.or (Disj.symm (Disj.part (Disj.symm d81) s92)) (Disj.or (Disj.symm (Disj.part (Disj.symm d82) s92)) (Disj.or (Disj.symm (Disj.part (Disj.symm d83) s92)) Disj.nob)))))) s159)) Disj.nob)))) up
            clear up
            replace S := S.prune (keep := [1, 2, 6, 8, 48, 49]) (m := 4) (σ' := ⟨[(1, .v (I aM)), (2, .p 0 0), (6, .p 1 0), (8, .p 3 0), (48, .v (I 1)), (49, .v (I k177))], [GT.cells (α := THost) aH paH, [slv ((f_seenAs aH aM).mem).length q27.mem.1, slv ((f_seenAs aH aM).guests).length q27.guests.1, slv ((f_seenAs aH aM).outs).length q27.outs.1, I ((f_seenAs aH aM).pend)], [slv (y141.mem).length q140.mem.1, slv (y141.mons).length q140.mons.1, slv (y141.buf).length q140.buf.1, slv (y141.iobuf).length q140.iobuf.1], [slv ((f_seenAs aH aM).mem).length q73.mem.1, slv ((f_seenAs aH aM).guests).length q73.guests.1, slv ((f_seenAs aH aM).outs).length q73.outs.1, I ((f_seenAs aH aM).pend)]]⟩) (by kernel_rfl)
            have i193 : In64 y176.pend := RBare.pend (d := y176) o178.rn
            obtain ⟨F184, F187, F190, o185, o188, o191, s186, s189, s192, d194, d195, d196⟩ := sp_Bare o178
            have hw0 : [slv (y176.mem).length q175.mem.1, slv (y176.guests).length q175.guests.1, slv (y176.outs).length q175.outs.1, I y176.pend] = [slv ((f_seenAs aH aM).mem).length q73.mem.1, slv ((f_seenAs aH aM).guests).length q73.guests.1, slv ((f_seenAs aH aM).outs).length q73.outs.1, I ((f_seenAs aH aM).pend)] := c179
            replace S := S.cast (σ' := ⟨[(1, .v (I aM)), (2, .p 0 0), (6, .p 1 0), (8, .p 3 0), (48, .v (I 1)), (49, .v (I k177))], [GT.cells (α := THost) aH paH, [slv ((f_seenAs aH aM).mem).length q27.mem.1, slv ((f_seenAs aH aM).guests).length q27.guests.1, slv ((f_seenAs aH aM).outs).length q27.outs.1, I ((f_seenAs aH aM).pend)], [slv (y141.mem).length q140.mem.1, slv (y141.mons).length q140.mons.1, slv (y141.buf).length q140.buf.1, slv (y141.iobuf).length q140.iobuf.1], [slv (y176.mem).length q175.mem.1, slv (y176.guests).length q175.guests.1, slv (y176.outs).length q175.outs.1, I y176.pend]]⟩) (by rw [hw0])
            clear hw0
            refine S.quiet (k := 1) (keep := [1, 2, 6, 8, 10]) (m := 4) (σ' := ⟨[(1, .v (I aM)), (2, .p 0 0), (6, .p 1 0), (8, .p 3 0), (10, .v (I k177))], [GT.cells (α := THost) aH paH, [slv ((f_seenAs aH aM).mem).length q27.mem.1, slv ((f_seenAs aH aM).guests).length q27.guests.1, slv ((f_seenAs aH aM).outs).length q27.outs.1, I ((f_seenAs aH aM).pend)], [slv (y141.mem).length q140.mem.1, slv (y141.mons).length q140.mons.1, slv (y141.buf).length q140.buf.1, slv (y141.iobuf).length q140.iobuf.1], [slv (y176.mem).length q175.mem.1, slv (y176.guests).length q175.guests.1, slv (y176.outs).length q175.outs.1, I y176.pend]]⟩) .nil (by kernel_rfl) ?_
            clear S; intro ac w β S
            refine RG.done rfl (nx_then ?_)
            refine wp_seq ?_
            refine RG.start ?_
            refine S.quiet (k := 1) (keep := [1, 2, 6, 8, 10, 11]) (m := 4) (σ' := ⟨[(1, .v (I aM)), (2, .p 0 0), (6, .p 1 0), (8, .p 3 0), (10, .v (I k177)), (11, .v (I 1))], [GT.cells (α := THost) aH paH, [slv ((f_seenAs aH aM).mem).length q27.mem.1, slv ((f_seenAs aH aM).guests).length q27.guests.1, slv ((f_seenAs aH aM).outs).length q27.outs.1, I ((f_seenAs aH aM).pend)], [slv (y141.mem).length q140.mem.1, slv (y141.mons).length q140.mons.1, slv (y141.buf).length q140.buf.1, slv (y141.iobuf).length q140.iobuf.1], [slv (y176.mem).length q175.mem.1, slv (y176.guests).length q175.guests.1, slv (y176.outs).length q175.outs.1, I y176.pend]]⟩) .nil (by kernel_rfl) ?_
            clear S; intro ac w β S
            refine RG.done rfl (nx_then ?_)
            refine wp_seq ?_
            refine RG.start ?_
            refine S.quiet (k := 4) (keep := [1, 2, 6, 8, 10, 11]) (m := 4) (σ' := ⟨[(1, .v (I aM)), (2, .p 0 0), (6, .p 1 0), (8, .p 3 0), (10, .v (I k177)), (11, .v (I (hdT_Bare y176 1)))], [GT.cells (α := THost) aH paH, [slv ((f_seenAs aH aM).mem).length q27.mem.1, slv ((f_seenAs aH aM).guests).length q27.guests.1, slv ((f_seenAs aH aM).outs).length q27.outs.1, I ((f_seenAs aH aM).pend)], [slv (y141.mem).length q140.mem.1, slv (y141.mons).length q140.mons.1, slv (y141.buf).length q140.buf.1, slv (y141.iobuf).length q140.iobuf.1], [slv (y176.mem).length q175.mem.1, slv (y176.guests).length q175.guests.1, slv (y176.outs).length q175.outs.1, I y176.pend]]⟩) (.cons (Q_call fun w hw => c_laws_heldBare w y176 q175 (rd_of (show GT.rd KK _ _ y176 q175 from ⟨o185.rn, o188.rn, o191.rn, i193⟩) hw) 1) .nil) (by kernel_rfl) ?_
            clear S; intro ac w β S
            refine RG.done rfl (nx_then ?_)
            refine wp_seq ?_
            refine wp_seq ?_
            refine RG.start ?_
            refine S.quiet (k := 2) (keep := [1, 2, 6, 8, 10, 11, 54]) (m := 4) (σ' := ⟨[(1, .v (I aM)), (2, .p 0 0), (6, .p 1 0), (8, .p 3 0), (10, .v (I k177)), (11, .v (I (hdT_Bare y176 1))), (54, .v (B (decide ((hdT_Bare y176 1) < 0))))], [GT.cells (α := THost) aH paH, [slv ((f_seenAs aH aM).mem).length q27.mem.1, slv ((f_seenAs aH aM).guests).length q27.guests.1, slv ((f_seenAs aH aM).outs).length q27.outs.1, I ((f_seenAs aH aM).pend)], [slv (y141.mem).length q140.mem.1, slv (y141.mons).length q140.mons.1, slv (y141.buf).length q140.buf.1, slv (y141.iobuf).length q140.iobuf.1], [slv (y176.mem).length q175.mem.1, slv (y176.guests).length q175.guests.1, slv (y176.outs).length q175.outs.1, I y176.pend]]⟩) .nil (by kernel_rfl) ?_
            clear S; intro ac w β S
            refine RG.done rfl (nx_then ?_)
            refine S.cond (e := (decide ((hdT_Bare y176 1) < 0))) (by kernel_rfl) (fun h197 => ?_) (fun h197 => ?_)
            · have g198 : (hdT_Bare y176 1) < 0 := of_decide_eq_true h197
              refine wp_seq ?_
              refine RG.start ?_
              refine S.quiet (k := 1) (keep := [4]) (m := 0) (σ' := ⟨[(4, .v (B false))], []⟩) .nil (by kernel_rfl) ?_
              clear S; intro ac w β S
              refine RG.done rfl (nx_then ?_)
              refine wp_ret (rt_then ?_)
              refine S.ret (vs := [B false]) (by kernel_rfl) ?_
              exact ⟨retB (show false = true by clear S; first | rfl | (exfalso; omega) | (exfalso; simp_all; done) | (exfalso; simp_all; omega)), S.chg⟩
            · have g199 : ¬ ((hdT_Bare y176 1) < 0) := of_decide_eq_false h197
              refine wp_skip (nx_then ?_)
              refine wp_seq ?_
              refine wp_seq ?_
              refine RG.start ?_
              refine S.quiet (k := 3) (keep := [1, 2, 6, 8, 10, 57]) (m := 4) (σ' := ⟨[(1, .v (I aM)), (2, .p 0 0), (6, .p 1 0), (8, .p 3 0), (10, .v (I k177)), (57, .v (B ((hdT_Bare y176 1) != k177)))], [GT.cells (α := THost) aH paH, [slv ((f_seenAs aH aM).mem).length q27.mem.1, slv ((f_seenAs aH aM).guests).length q27.guests.1, slv ((f_seenAs aH aM).outs).length q27.outs.1, I ((f_seenAs aH aM).pend)], [slv (y141.mem).length q140.mem.1, slv (y141.mons).length q140.mons.1, slv (y141.buf).length q140.buf.1, slv (y141.iobuf).length q140.iobuf.1], [slv (y176.mem).length q175.mem.1, slv (y176.guests).length q175.guests.1, slv (y176.outs).length q175.outs.1, I y176.pend]]⟩) .nil (by kernel_rfl) ?_
              clear S; intro ac w β S
              refine RG.done rfl (nx_then ?_)
              refine S.cond (e := ((hdT_Bare y176 1) != k177)) (by kernel_rfl) (fun h200 => ?_) (fun h200 => ?_)
              · have g201 : ¬ ((hdT_Bare y176 1) = k177) := bne_iff_ne.1 h200
                refine wp_seq ?_
                refine RG.start ?_
                refine S.quiet (k := 1) (keep := [4]) (m := 0) (σ' := ⟨[(4, .v (B false))], []⟩) .nil (by kernel_rfl) ?_
                clear S; intro ac w β S
                refine RG.done rfl (nx_then ?_)
                refine wp_ret (rt_then ?_)
                refine S.ret (vs := [B false]) (by kernel_rfl) ?_
                exact ⟨retB (show false = true by clear S; first | rfl | (exfalso; omega) | (exfalso; simp_all; done) | (exfalso; simp_all; omega)), S.chg⟩
              · have g202 : (hdT_Bare y176 1) = k177 := ne_f h200
                refine wp_skip (nx_then ?_)
                refine wp_seq ?_
                refine RG.start ?_
                refine S.quiet (k := 1) (keep := [1, 6, 8, 10, 58]) (m := 4) (σ' := ⟨[(1, .v (I aM)), (6, .p 1 0), (8, .p 3 0), (10, .v (I k177)), (58, .v (GT.val (α := THost) aH paH))], [GT.cells (α := THost) aH paH, [slv ((f_seenAs aH aM).mem).length q27.mem.1, slv ((f_seenAs aH aM).guests).length q27.guests.1, slv ((f_seenAs aH aM).outs).length q27.outs.1, I ((f_seenAs aH aM).pend)], [slv (y141.mem).length q140.mem.1, slv (y141.mons).length q140.mons.1, slv (y141.buf).length q140.buf.1, slv (y141.iobuf).length q140.iobuf.1], [slv (y176.mem).length q175.mem.1, slv (y176.guests).length q175.guests.1, slv (y176.outs).length q175.outs.1, I y176.pend]]⟩) .nil (by kernel_rfl) ?_
                clear S; intro ac w β S
                refine RG.op rfl (S.call1 (r := aH) (d := 59) (c_laws_toHost w aH paH (S.rd (S.arg hkaH))) (by kernel_rfl) rfl ?_)
                clear S; intro ac w N q203 F204 S up o205 d206
                have d207 : Disj F35 F204 := fun b x y => d206 b (o36.sub b x) y
                have d208 : Disj F38 F204 := fun b x y => d206 b (o39.sub b x) y
                have d209 : Disj F41 F204 := fun b x y => d206 b (o42.sub b x) y
                have d210 : Disj F148 F204 := fun b x y => d206 b (o149.sub b x) y
                have d211 : Disj F151 F204 := fun b x y => d206 b (o152.sub b x) y
                have d212 : Disj F154 F204 := fun b x y => d206 b (o155.sub b x) y
                have d213 : Disj F157 F204 := fun b x y => d206 b (o158.sub b x) y
                have d214 : Disj F184 F204 := fun b x y => d206 b (o185.sub b x) y
                have d215 : Disj F187 F204 := fun b x y => d206 b (o188.sub b x) y
                have d216 : Disj F190 F204 := fun b x y => d206 b (o191.sub b x) y
                replace o36 := o36.up up
                replace o39 := o39.up up
                replace o42 := o42.up up
                replace o149 := o149.up up
                replace o152 := o152.up up
                replace o155 := o155.up up
                replace o158 := o158.up up
                replace o185 := o185.up up
                replace o188 := o188.up up
                replace o191 := o191.up up
                clear up d206
                obtain ⟨F217, F220, F223, F226, o218, o221, o224, o227, s219, s222, s225, s228, d229, d230, d231, d232, d233, d234⟩ := sp_Host o205
                refine S.quiet (k := 1) (keep := [6, 8, 10, 59, 60]) (m := 4) (σ' := ⟨[(6, .p 1 0), (8, .p 3 0), (10, .v (I k177)), (59, .v (GT.val (α := THost) aH q203)), (60, .v (I aM))], [GT.cells (α := THost) aH paH, [slv ((f_seenAs aH aM).mem).length q27.mem.1, slv ((f_seenAs aH aM).guests).length q27.guests.1, slv ((f_seenAs aH aM).outs).length q27.outs.1, I ((f_seenAs aH aM).pend)], [slv (y141.mem).length q140.mem.1, slv (y141.mons).length q140.mons.1, slv (y141.buf).length q140.buf.1, slv (y141.iobuf).length q140.iobuf.1], [slv (y176.mem).length q175.mem.1, slv (y176.guests).length q175.guests.1, slv (y176.outs).length q175.outs.1, I y176.pend]]⟩) .nil (by kernel_rfl) ?_
                clear S; intro ac w β S
                refine RG.op rfl (S.call1 (r := f_seenAs aH aM) (d := 61) (c_impl_SeenAs w aH q203 (S.rd (show GT.rd KK _ _ aH q203 from ⟨o218.rn, o221.rn, o224.rn, o227.rn⟩)) aM) (by kernel_rfl) rfl ?_)
                clear S; intro ac w N q235 F236 S up o237 d238
                have d239 : Disj F35 F236 := fun b x y => d238 b (o36.sub b x) y
                have d240 : Disj F38 F236 := fun b x y => d238 b (o39.sub b x) y
                have d241 : Disj F41 F236 := fun b x y => d238 b (o42.sub b x) y
                have d242 : Disj F148 F236 := fun b x y => d238 b (o149.sub b x) y
                have d243 : Disj F151 F236 := fun b x y => d238 b (o152.sub b x) y
                have d244 : Disj F154 F236 := fun b x y => d238 b (o155.sub b x) y
                have d245 : Disj F157 F236 := fun b x y => d238 b (o158.sub b x) y
                have d246 : Disj F184 F236 := fun b x y => d238 b (o185.sub b x) y
                have d247 : Disj F187 F236 := fun b x y => d238 b (o188.sub b x) y
                have d248 : Disj F190 F236 := fun b x y => d238 b (o191.sub b x) y
                have d249 : Disj F217 F236 := fun b x y => d238 b (o218.sub b x) y
                have d250 : Disj F220 F236 := fun b x y => d238 b (o221.sub b x) y
                have d251 : Disj F223 F236 := fun b x y => d238 b (o224.sub b x) y
                have d252 : Disj F226 F236 := fun b x y => d238 b (o227.sub b x) y
                replace o36 := o36.up up
                replace o39 := o39.up up
                replace o42 := o42.up up
                replace o149 := o149.up up
                replace o152 := o152.up up
                replace o155 := o155.up up
                replace o158 := o158.up up
                replace o185 := o185.up up
                replace o188 := o188.up up
                replace o191 := o191.up up
                replace o218 := o218.up up
                replace o221 := o221.up up
                replace o224 := o224.up up
                replace o227 := o227.up up
                clear up d238
                have i262 : In64 (f_seenAs aH aM).pend := RBare.pend (d := (f_seenAs aH aM)) o237.rn
                obtain ⟨F253, F256, F259, o254, o257, o260, s255, s258, s261, d263, d264, d265⟩ := sp_Bare o237
                refine S.quiet (k := 2) (keep := [6, 8, 10, 12]) (m := 5) (σ' := ⟨[(6, .p 1 0), (8, .p 3 0), (10, .v (I k177)), (12, .p 4 0)], [GT.cells (α := THost) aH paH, [slv ((f_seenAs aH aM).mem).length q27.mem.1, slv ((f_seenAs aH aM).guests).length q27.guests.1, slv ((f_seenAs aH aM).outs).length q27.outs.1, I ((f_seenAs aH aM).pend)], [slv (y141.mem).length q140.mem.1, slv (y141.mons).length q140.mons.1, slv (y141.buf).length q140.buf.1, slv (y141.iobuf).length q140.iobuf.1], [slv (y176.mem).length q175.mem.1, slv (y176.guests).length q175.guests.1, slv (y176.outs).length q175.outs.1, I y176.pend], [slv ((f_seenAs aH aM).mem).length q235.mem.1, slv ((f_seenAs aH aM).guests).length q235.guests.1, slv ((f_seenAs aH aM).outs).length q235.outs.1, I ((f_seenAs aH aM).pend)]]⟩) .nil (by kernel_rfl) ?_
                clear S; intro ac w β S
                refine RG.done rfl (nx_then ?_)
                refine wp_seq ?_
                refine wp_seq ?_
                refine RG.start ?_
                refine S.quiet (k := 4) (keep := [8, 10, 65]) (m := 4) (σ' := ⟨[(8, .p 3 0), (10, .v (I k177)), (65, .v (B (!(decide ((f_seenAs aH aM) = (f_seenAs aH aM))))))], [GT.cells (α := THost) aH paH, [slv ((f_seenAs aH aM).mem).length q27.mem.1, slv ((f_seenAs aH aM).guests).length q27.guests.1, slv ((f_seenAs aH aM).outs).length q27.outs.1, I ((f_seenAs aH aM).pend)], [slv (y141.mem).length q140.mem.1, slv (y141.mons).length q140.mons.1, slv (y141.buf).length q140.buf.1, slv (y141.iobuf).length q140.iobuf.1], [slv (y176.mem).length q175.mem.1, slv (y176.guests).length q175.guests.1, slv (y176.outs).length q175.outs.1, I y176.pend]]⟩) (.cons (Q_call fun w hw => c_laws_eqBare w (f_seenAs aH aM) q235 (rd_of (show GT.rd KK _ _ (f_seenAs aH aM) q235 from ⟨o254.rn, o257.rn, o260.rn, i262⟩) hw) (f_seenAs aH aM) q27 (rd_of (show GT.rd KK _ _ (f_seenAs aH aM) q27 from ⟨o36.rn, o39.rn, o42.rn, i44⟩) hw)) .nil) (by kernel_rfl) ?_
                clear S; intro ac w β S
                refine RG.done rfl (nx_then ?_)
                refine S.cond (e := (!(decide ((f_seenAs aH aM) = (f_seenAs aH aM))))) (by kernel_rfl) (fun h266 => ?_) (fun h266 => ?_)
                · have h267 : (decide ((f_seenAs aH aM) = (f_seenAs aH aM))) = false := not_t h266
                  have g268 := of_decide_eq_false h267
                  refine wp_seq ?_
                  refine RG.start ?_
                  refine S.quiet (k := 1) (keep := [4]) (m := 0) (σ' := ⟨[(4, .v (B false))], []⟩) .nil (by kernel_rfl) ?_
                  clear S; intro ac w β S
                  refine RG.done rfl (nx_then ?_)
                  refine wp_ret (rt_then ?_)
                  refine S.ret (vs := [B false]) (by kernel_rfl) ?_
                  exact ⟨retB (show false = true by clear S; first | rfl | (exfalso; omega) | (exfalso; simp_all; done) | (exfalso; simp_all; omega)), S.chg⟩
                · have h269 : (decide ((f_seenAs aH aM) = (f_seenAs aH aM))) = true := not_f h266
                  have g270 := of_decide_eq_true h269
                  refine wp_skip (nx_then ?_)
                  refine wp_seq ?_
                  refine RG.start ?_
                  refine S.quiet (k := 1) (keep := [8, 10, 11]) (m := 4) (σ' := ⟨[(8, .p 3 0), (10, .v (I k177)), (11, .v (I 1))], [GT.cells (α := THost) aH paH, [slv ((f_seenAs aH aM).mem).length q27.mem.1, slv ((f_seenAs aH aM).guests).length q27.guests.1, slv ((f_seenAs aH aM).outs).length q27.outs.1, I ((f_seenAs aH aM).pend)], [slv (y141.mem).length q140.mem.1, slv (y141.mons).length q140.mons.1, slv (y141.buf).length q140.buf.1, slv (y141.iobuf).length q140.iobuf.1], [slv (y176.mem).length q175.mem.1, slv (y176.guests).length q175.guests.1, slv (y176.outs).length q175.outs.1, I y176.pend]]⟩) .nil (by kernel_rfl) ?_
                  clear S; intro ac w β S
                  refine RG.done rfl (nx_then ?_)
                  refine wp_seq ?_
                  refine RG.start ?_
                  refine S.quiet (k := 4) (keep := [10, 11]) (m := 0) (σ' := ⟨[(10, .v (I k177)), (11, .v (I (hdT_Bare y176 1)))], []⟩) (.cons (Q_call fun w hw => c_laws_heldBare w y176 q175 (rd_of (show GT.rd KK _ _ y176 q175 from ⟨o185.rn, o188.rn, o191.rn, i193⟩) hw) 1) .nil) (by kernel_rfl) ?_
                  clear S; intro ac w β S
                  refine RG.done rfl (nx_then ?_)
                  refine wp_seq ?_
                  refine wp_seq ?_
                  refine RG.start ?_
                  refine S.quiet (k := 2) (keep := [10, 11, 70]) (m := 0) (σ' := ⟨[(10, .v (I k177)), (11, .v (I (hdT_Bare y176 1))), (70, .v (B (decide ((hdT_Bare y176 1) < 0))))], []⟩) .nil (by kernel_rfl) ?_
                  clear S; intro ac w β S
                  refine RG.done rfl (nx_then ?_)
                  refine S.cond (e := (decide ((hdT_Bare y176 1) < 0))) (by kernel_rfl) (fun h271 => ?_) (fun h271 => ?_)
                  · have g272 : (hdT_Bare y176 1) < 0 := of_decide_eq_true h271
                    refine wp_seq ?_
                    refine RG.start ?_
                    refine S.quiet (k := 1) (keep := [4]) (m := 0) (σ' := ⟨[(4, .v (B false))], []⟩) .nil (by kernel_rfl) ?_
                    clear S; intro ac w β S
                    refine RG.done rfl (nx_then ?_)
                    refine wp_ret (rt_then ?_)
                    refine S.ret (vs := [B false]) (by kernel_rfl) ?_
                    exact ⟨retB (show false = true by clear S; first | rfl | (exfalso; omega) | (exfalso; simp_all; done) | (exfalso; simp_all; omega)), S.chg⟩
                  · have g273 : ¬ ((hdT_Bare y176 1) < 0) := of_decide_eq_false h271
                    refine wp_skip (nx_then ?_)
                    refine wp_seq ?_
                    refine wp_seq ?_
                    refine RG.start ?_
                    refine S.quiet (k := 3) (keep := [73]) (m := 0) (σ' := ⟨[(73, .v (B ((hdT_Bare y176 1) != k177)))], []⟩) .nil (by kernel_rfl) ?_
                    clear S; intro ac w β S
                    refine RG.done rfl (nx_then ?_)
                    refine S.cond (e := ((hdT_Bare y176 1) != k177)) (by kernel_rfl) (fun h274 => ?_) (fun h274 => ?_)
                    · have g275 : ¬ ((hdT_Bare y176 1) = k177) := bne_iff_ne.1 h274
                      refine wp_seq ?_
                      refine RG.start ?_
                      refine S.quiet (k := 1) (keep := [4]) (m := 0) (σ' := ⟨[(4, .v (B false))], []⟩) .nil (by kernel_rfl) ?_
                      clear S; intro ac w β S
                      refine RG.done rfl (nx_then ?_)
                      refine wp_ret (rt_then ?_)
                      refine S.ret (vs := [B false]) (by kernel_rfl) ?_
                      exact ⟨retB (show false = true by clear S; first | rfl | (exfalso; omega) | (exfalso; simp_all; done) | (exfalso; simp_all; omega)), S.chg⟩
                    · have g276 : (hdT_Bare y176 1) = k177 := ne_f h274
                      refine wp_skip (nx_then ?_)
                      refine wp_seq ?_
                      refine RG.start ?_
                      refine S.quiet (k := 1) (keep := [4]) (m := 0) (σ' := ⟨[(4, .v (B true))], []⟩) .nil (by kernel_rfl) ?_
                      clear S; intro ac w β S
                      refine RG.done rfl (nx_then ?_)
                      refine wp_ret ?_
                      refine S.ret (vs := [B true]) (by kernel_rfl) ?_
                      exact ⟨retB (show true = true by clear S; first | rfl | (exfalso; omega) | (exfalso; simp_all; done) | (exfalso; simp_all; omega)), S.chg⟩

end Go.Proofs.Ytacgkoohinlhjaa
