/- The walks: what each function that the laws reach computes (part 3). -/
import Derived.Test.YtacgkoohinlhjaaW2
import Derived.Test.YtacgkoohinlhjaaProg
import Derived.KernelRfl
namespace Go.Proofs.Ytacgkoohinlhjaa
open Go
set_option linter.unusedVariables false
set_option linter.unusedSimpArgs false

set_option maxRecDepth 100000 in
theorem c_impl_copyHost (w0 : World) (h : THost) (ph : PHost) (hh : GT.rd KK (Lt w0.heap.size) w0 h ph) : Calls Try.prog 49 [GT.val h ph].toArray w0 (Ret1 NoB w0 (h : THost)) := by
  refine Calls.walk (args := [GT.val h ph]) NoB Try.func49 rfl rfl ?_
  intro ac β S
  have hleh_mem : h.mem.length ≤ 4194304 := LRd.le (RHost.mem (d := h) hh)
  have hleh_mons : h.mons.length ≤ 4194304 := LRd.le (RHost.mons (d := h) hh)
  have hleh_buf : h.buf.length ≤ 4194304 := LRd.le (RHost.buf (d := h) hh)
  have hleh_iobuf : h.iobuf.length ≤ 4194304 := LRd.le (RHost.iobuf (d := h) hh)
  refine wp_seq (RG.start ?_)
  refine S.q 2 [1, 2] 2 ⟨[(1, .p 0 0), (2, .p 1 0)], [GT.cells h ph, Zc THost]⟩ .nil ?_; clear S; intro ac w β S
  refine RG.done rfl (nx_then (wp_seq ?_))
  replace S := S.p [1, 2] 2 ⟨[(1, .p 0 0), (2, .p 1 0)], [GT.cells h ph, Zc THost]⟩
  obtain ⟨u0, N0, β0, S⟩ : ∃ (u0 : World) (N0 : Bl) (β0 : Nat → Nat), St Try.prog Try.f49.ntmps w0 NoB u0 N0 β0 ⟨[(1, .p 0 0), (2, .p 1 0)], [GT.cells h ph, Zc THost]⟩ ac w := ⟨_, _, _, S.cast (by kernel_rfl)⟩
  refine wp_region_cut (fun ac w => ∃ (q91 : GT.Ptr (List TEntry)) (F92 : Bl) (q94 : GT.Ptr (List TEntry)) (F95 : Bl) (q88 : GT.Ptr (List (List Int))) (F89 : Bl) (u : World) (N : Bl) (β : Nat → Nat), St Try.prog Try.f49.ntmps w0 NoB u N β ⟨[(1, .p 0 0), (2, .p 1 0), (3, .p 2 0)], [GT.cells h ph, Zc THost, [slv (h.mem).length q88.1, slv (([] : List TMon)).length (GT.pdflt (α := List TMon)).1, slv ((([] : List TEntry) ++ h.buf)).length q91.1, slv ((([] : List TEntry) ++ h.iobuf)).length q94.1]]⟩ ac w ∧ Ow w0 NoB u N F92 (([] : List TEntry) ++ h.buf) q91 ∧ Ow w0 NoB u N F95 (([] : List TEntry) ++ h.iobuf) q94 ∧ Ow w0 NoB u N F89 h.mem q88 ∧ Disj F92 F95 ∧ Disj F92 F89 ∧ Disj F95 F89) ?_ ?_
  · refine S.draw0 (f := 14) 13 rfl rfl ?_
    clear S; intro w S
    refine S.hoist (i := 0) (path := [0]) (keep := [1, 2, 6]) (m := 2) (σ' := ⟨[(1, .p 0 0), (2, .p 1 0), (6, .p 0 0)], [GT.cells h ph, Zc THost]⟩) (by kernel_rfl) (by kernel_rfl) .nil (by kernel_rfl) ?_
    clear S; intro ac S
    refine S.hoist (i := 1) (path := [1]) (keep := [1, 2, 7]) (m := 2) (σ' := ⟨[(1, .p 0 0), (2, .p 1 0), (7, .v (slv (h.mem).length ph.mem.1))], [GT.cells h ph, Zc THost]⟩) (by kernel_rfl) (by kernel_rfl) .nil (by kernel_rfl) ?_
    clear S; intro ac S
    refine S.hoist (i := 4) (path := [4]) (keep := [1, 2, 7, 10]) (m := 2) (σ' := ⟨[(1, .p 0 0), (2, .p 1 0), (7, .v (slv (h.mem).length ph.mem.1)), (10, .p 0 2)], [GT.cells h ph, Zc THost]⟩) (by kernel_rfl) (by kernel_rfl) .nil (by kernel_rfl) ?_
    clear S; intro ac S
    refine S.hoist (i := 5) (path := [5]) (keep := [1, 2, 7, 11]) (m := 2) (σ' := ⟨[(1, .p 0 0), (2, .p 1 0), (7, .v (slv (h.mem).length ph.mem.1)), (11, .v (slv (h.buf).length ph.buf.1))], [GT.cells h ph, Zc THost]⟩) (by kernel_rfl) (by kernel_rfl) .nil (by kernel_rfl) ?_
    clear S; intro ac S
    refine S.hoist (i := 8) (path := [8]) (keep := [1, 2, 7, 11, 14]) (m := 2) (σ' := ⟨[(1, .p 0 0), (2, .p 1 0), (7, .v (slv (h.mem).length ph.mem.1)), (11, .v (slv (h.buf).length ph.buf.1)), (14, .p 0 3)], [GT.cells h ph, Zc THost]⟩) (by kernel_rfl) (by kernel_rfl) .nil (by kernel_rfl) ?_
    clear S; intro ac S
    refine S.hoist (i := 9) (path := [9]) (keep := [1, 2, 7, 11, 15]) (m := 2) (σ' := ⟨[(1, .p 0 0), (2, .p 1 0), (7, .v (slv (h.mem).length ph.mem.1)), (11, .v (slv (h.buf).length ph.buf.1)), (15, .v (slv (h.iobuf).length ph.iobuf.1))], [GT.cells h ph, Zc THost]⟩) (by kernel_rfl) (by kernel_rfl) .nil (by kernel_rfl) ?_
    clear S; intro ac S
    refine WD.nameW fun W hW => ?_
    refine WD.castW (l' := mkL 14 [0, 1, 4, 5, 8, 9]) (by kernel_rfl) ?_
    have hK96 : ∀ (ac : Act) (w : World) (q91 : GT.Ptr (List TEntry)) (F92 : Bl) (q94 : GT.Ptr (List TEntry)) (F95 : Bl) (q88 : GT.Ptr (List (List Int))) (F89 : Bl) (u : World) (N : Bl) (β : Nat → Nat) (S : St Try.prog Try.f49.ntmps w0 NoB u N β ⟨[(1, .p 0 0), (2, .p 1 0), (3, .p 2 0)], [GT.cells h ph, Zc THost, [slv (h.mem).length q88.1, slv (([] : List TMon)).length (GT.pdflt (α := List TMon)).1, slv ((([] : List TEntry) ++ h.buf)).length q91.1, slv ((([] : List TEntry) ++ h.iobuf)).length q94.1]]⟩ ac w) (o90 : Ow w0 NoB u N F92 (([] : List TEntry) ++ h.buf) q91) (o93 : Ow w0 NoB u N F95 (([] : List TEntry) ++ h.iobuf) q94) (o87 : Ow w0 NoB u N F89 h.mem q88) (d97 : Disj F92 F95) (d98 : Disj F92 F89) (d99 : Disj F95 F89) (hNN : True) (hBB : True), W 0 (mkL 14 [0, 1, 2, 3, 4, 5, 6, 7, 8, 9, 10, 11, 12, 13]) ac w := by
      intro ac w q91 F92 q94 F95 q88 F89 u N β S o90 o93 o87 d97 d98 d99 hNN hBB
      rw [hW]
      refine WD.done (by kernel_rfl) ?_ _
      replace S := S.p [1, 2, 3] 3 ⟨[(1, .p 0 0), (2, .p 1 0), (3, .p 2 0)], [GT.cells h ph, Zc THost, [slv (h.mem).length q88.1, slv (([] : List TMon)).length (GT.pdflt (α := List TMon)).1, slv ((([] : List TEntry) ++ h.buf)).length q91.1, slv ((([] : List TEntry) ++ h.iobuf)).length q94.1]]⟩
      exact ⟨rfl, q91, F92, q94, F95, q88, F89, _, _, _, S.cast (by kernel_rfl), o90, o93, o87, d97, d98, d99⟩
    have hK100 : ∀ (ac : Act) (w : World) (q82 : GT.Ptr (List TEntry)) (F83 : Bl) (q85 : GT.Ptr (List TEntry)) (F86 : Bl) (q79 : GT.Ptr (List (List Int))) (F80 : Bl) (u : World) (N : Bl) (β : Nat → Nat) (S : St Try.prog Try.f49.ntmps w0 NoB u N β ⟨[(1, .p 0 0), (2, .p 1 0), (3, .p 2 0), (17, .v (GT.val (⟨h.mem, ([] : List TMon), (([] : List TEntry) ++ h.buf), (([] : List TEntry) ++ h.iobuf)⟩ : THost) (⟨q79, (GT.pdflt (α := List TMon)), q82, q85⟩ : PHost)))], [GT.cells h ph, Zc THost, Zc THost]⟩ ac w) (o81 : Ow w0 NoB u N F83 (([] : List TEntry) ++ h.buf) q82) (o84 : Ow w0 NoB u N F86 (([] : List TEntry) ++ h.iobuf) q85) (o78 : Ow w0 NoB u N F80 h.mem q79) (d101 : Disj F83 F86) (d102 : Disj F83 F80) (d103 : Disj F86 F80) (hNN : ∀ b, N0 b → N b ∧ u.heap[b]? = u0.heap[b]?) (hBB : ∀ k, k < 2 → β k = β0 k), W 1 (mkL 14 [0, 1, 2, 3, 4, 5, 6, 7, 8, 9, 10, 11, 12]) ac w := by
      intro ac w q82 F83 q85 F86 q79 F80 u N β S o81 o84 o78 d101 d102 d103 hNN hBB
      rw [hW]
      refine WD.one (i := 13) (by kernel_rfl) ?_
      refine S.stepq (i := 13) (keep := [1, 2, 3]) (m := 3) (σ' := ⟨[(1, .p 0 0), (2, .p 1 0), (3, .p 2 0)], [GT.cells h ph, Zc THost, [slv (h.mem).length q79.1, slv (([] : List TMon)).length (GT.pdflt (α := List TMon)).1, slv ((([] : List TEntry) ++ h.buf)).length q82.1, slv ((([] : List TEntry) ++ h.iobuf)).length q85.1]]⟩) .nil (by kernel_rfl) ?_
      clear S; intro ac w β S hβ
      refine WD.last (by kernel_rfl) ?_
      clear hβ
      exact WD.ofW hW (by kernel_rfl) (hK96 ac w q82 F83 q85 F86 q79 F80 _ _ _ (S.prune (keep := [1, 2, 3]) (m := 3) (by kernel_rfl)) o81 o84 o78 d101 d102 d103 trivial trivial)
    have hK104 : ∀ (ac : Act) (w : World) (q82 : GT.Ptr (List TEntry)) (F83 : Bl) (q85 : GT.Ptr (List TEntry)) (F86 : Bl) (q79 : GT.Ptr (List (List Int))) (F80 : Bl) (u : World) (N : Bl) (β : Nat → Nat) (S : St Try.prog Try.f49.ntmps w0 NoB u N β ⟨[(1, .p 0 0), (2, .p 1 0), (17, .v (GT.val (⟨h.mem, ([] : List TMon), (([] : List TEntry) ++ h.buf), (([] : List TEntry) ++ h.iobuf)⟩ : THost) (⟨q79, (GT.pdflt (α := List TMon)), q82, q85⟩ : PHost)))], [GT.cells h ph, Zc THost]⟩ ac w) (o81 : Ow w0 NoB u N F83 (([] : List TEntry) ++ h.buf) q82) (o84 : Ow w0 NoB u N F86 (([] : List TEntry) ++ h.iobuf) q85) (o78 : Ow w0 NoB u N F80 h.mem q79) (d105 : Disj F83 F86) (d106 : Disj F83 F80) (d107 : Disj F86 F80) (hNN : ∀ b, N0 b → N b ∧ u.heap[b]? = u0.heap[b]?) (hBB : ∀ k, k < 2 → β k = β0 k), W 2 (mkL 14 [0, 1, 2, 3, 4, 5, 6, 7, 8, 9, 10, 11]) ac w := by
      intro ac w q82 F83 q85 F86 q79 F80 u N β S o81 o84 o78 d105 d106 d107 hNN hBB
      rw [hW]
      refine WD.one (i := 12) (by kernel_rfl) ?_
      refine S.stepq (i := 12) (keep := [1, 2, 3, 17]) (m := 3) (σ' := ⟨[(1, .p 0 0), (2, .p 1 0), (3, .p 2 0), (17, .v (GT.val (⟨h.mem, ([] : List TMon), (([] : List TEntry) ++ h.buf), (([] : List TEntry) ++ h.iobuf)⟩ : THost) (⟨q79, (GT.pdflt (α := List TMon)), q82, q85⟩ : PHost)))], [GT.cells h ph, Zc THost, Zc THost]⟩) .nil (by kernel_rfl) ?_
      clear S; intro ac w β S hβ
      have hB2 := fun k (hk : k < 2) => (hβ k (Nat.lt_of_lt_of_le hk (Nat.le_of_ble_eq_true rfl))).trans (hBB k hk)
      refine WD.stayK S (fun b h => ⟨(hNN b h).1, (hNN b h).2⟩) hB2 (bx_app rfl) ?_
      clear hβ
      exact WD.ofW hW (by kernel_rfl) (hK100 ac w q82 F83 q85 F86 q79 F80 _ _ _ (S.prune (keep := [1, 2, 3, 17]) (m := 3) (by kernel_rfl)) o81 o84 o78 d105 d106 d107 hNN hB2)
    have hK108 : ∀ (ac : Act) (w : World) (q51 : GT.Ptr (List TEntry)) (F52 : Bl) (q76 : GT.Ptr (List TEntry)) (F77 : Bl) (q7 : GT.Ptr (List (List Int))) (F8 : Bl) (u : World) (N : Bl) (β : Nat → Nat) (S : St Try.prog Try.f49.ntmps w0 NoB u N β ⟨[(1, .p 0 0), (2, .p 1 0), (3, .p 2 0), (8, .v (slv (h.mem).length q7.1)), (12, .v (slv ((([] : List TEntry) ++ h.buf)).length q51.1)), (16, .v (slv ((([] : List TEntry) ++ h.iobuf)).length q76.1))], [GT.cells h ph, Zc THost, Zc THost]⟩ ac w) (o50 : Ow w0 NoB u N F52 (([] : List TEntry) ++ h.buf) q51) (o75 : Ow w0 NoB u N F77 (([] : List TEntry) ++ h.iobuf) q76) (o6 : Ow w0 NoB u N F8 h.mem q7) (d109 : Disj F52 F77) (d110 : Disj F52 F8) (d111 : Disj F77 F8) (hNN : ∀ b, N0 b → N b ∧ u.heap[b]? = u0.heap[b]?) (hBB : ∀ k, k < 2 → β k = β0 k), W 2 (mkL 14 [0, 1, 2, 3, 4, 5, 6, 7, 8, 9, 10, 12]) ac w := by
      intro ac w q51 F52 q76 F77 q7 F8 u N β S o50 o75 o6 d109 d110 d111 hNN hBB
      rw [hW]
      refine WD.one (i := 11) (by kernel_rfl) ?_
      refine S.stepq (i := 11) (keep := [1, 2, 3, 17]) (m := 3) (σ' := ⟨[(1, .p 0 0), (2, .p 1 0), (3, .p 2 0), (17, .v (GT.val (⟨h.mem, ([] : List TMon), (([] : List TEntry) ++ h.buf), (([] : List TEntry) ++ h.iobuf)⟩ : THost) (⟨q7, (GT.pdflt (α := List TMon)), q51, q76⟩ : PHost)))], [GT.cells h ph, Zc THost, Zc THost]⟩) (.cons (Q_sem (s := Instr.build 39 [(0, slv (h.mem).length q7.1), (2, slv ((([] : List TEntry) ++ h.buf)).length q51.1), (3, slv ((([] : List TEntry) ++ h.iobuf)).length q76.1)].toArray) (v := .agg [slv (h.mem).length q7.1, slv (([] : List TMon)).length (GT.pdflt (α := List TMon)).1, slv ((([] : List TEntry) ++ h.buf)).length q51.1, slv ((([] : List TEntry) ++ h.iobuf)).length q76.1].toArray) (fun w => by kernel_rfl)) .nil) (by kernel_rfl) ?_
      clear S; intro ac w β S hβ
      have hB2 := fun k (hk : k < 2) => (hβ k (Nat.lt_of_lt_of_le hk (Nat.le_of_ble_eq_true rfl))).trans (hBB k hk)
      refine WD.stayK S (fun b h => ⟨(hNN b h).1, (hNN b h).2⟩) hB2 (bx_app rfl) ?_
      clear hβ
      exact WD.ofW hW (by kernel_rfl) (hK100 ac w q51 F52 q76 F77 q7 F8 _ _ _ (S.prune (keep := [1, 2, 3, 17]) (m := 3) (by kernel_rfl)) o50 o75 o6 d109 d110 d111 hNN hB2)
    have hK112 : ∀ (ac : Act) (w : World) (q51 : GT.Ptr (List TEntry)) (F52 : Bl) (q76 : GT.Ptr (List TEntry)) (F77 : Bl) (q7 : GT.Ptr (List (List Int))) (F8 : Bl) (u : World) (N : Bl) (β : Nat → Nat) (S : St Try.prog Try.f49.ntmps w0 NoB u N β ⟨[(1, .p 0 0), (2, .p 1 0), (8, .v (slv (h.mem).length q7.1)), (12, .v (slv ((([] : List TEntry) ++ h.buf)).length q51.1)), (16, .v (slv ((([] : List TEntry) ++ h.iobuf)).length q76.1))], [GT.cells h ph, Zc THost]⟩ ac w) (o50 : Ow w0 NoB u N F52 (([] : List TEntry) ++ h.buf) q51) (o75 : Ow w0 NoB u N F77 (([] : List TEntry) ++ h.iobuf) q76) (o6 : Ow w0 NoB u N F8 h.mem q7) (d113 : Disj F52 F77) (d114 : Disj F52 F8) (d115 : Disj F77 F8) (hNN : ∀ b, N0 b → N b ∧ u.heap[b]? = u0.heap[b]?) (hBB : ∀ k, k < 2 → β k = β0 k), W 3 (mkL 14 [0, 1, 2, 3, 4, 5, 6, 7, 8, 9, 10]) ac w := by
      intro ac w q51 F52 q76 F77 q7 F8 u N β S o50 o75 o6 d113 d114 d115 hNN hBB
      rw [hW]
      refine WD.many (rs := [11, 12]) (by kernel_rfl) rfl (List.forall_mem_cons.2 ⟨?_, List.forall_mem_cons.2 ⟨?_, List.forall_mem_nil _⟩⟩)
      · refine S.stepq (i := 11) (keep := [1, 2, 17]) (m := 2) (σ' := ⟨[(1, .p 0 0), (2, .p 1 0), (17, .v (GT.val (⟨h.mem, ([] : List TMon), (([] : List TEntry) ++ h.buf), (([] : List TEntry) ++ h.iobuf)⟩ : THost) (⟨q7, (GT.pdflt (α := List TMon)), q51, q76⟩ : PHost)))], [GT.cells h ph, Zc THost]⟩) (.cons (Q_sem (s := Instr.build 39 [(0, slv (h.mem).length q7.1), (2, slv ((([] : List TEntry) ++ h.buf)).length q51.1), (3, slv ((([] : List TEntry) ++ h.iobuf)).length q76.1)].toArray) (v := .agg [slv (h.mem).length q7.1, slv (([] : List TMon)).length (GT.pdflt (α := List TMon)).1, slv ((([] : List TEntry) ++ h.buf)).length q51.1, slv ((([] : List TEntry) ++ h.iobuf)).length q76.1].toArray) (fun w => by kernel_rfl)) .nil) (by kernel_rfl) ?_
        clear S; intro ac w β S hβ
        have hB2 := fun k (hk : k < 2) => (hβ k (Nat.lt_of_lt_of_le hk (Nat.le_of_ble_eq_true rfl))).trans (hBB k hk)
        refine WD.stayK S (fun b h => ⟨(hNN b h).1, (hNN b h).2⟩) hB2 (fun _ _ h => h) ?_
        clear hβ
        exact WD.ofW hW (by kernel_rfl) (hK104 ac w q51 F52 q76 F77 q7 F8 _ _ _ (S.prune (keep := [1, 2, 17]) (m := 2) (by kernel_rfl)) o50 o75 o6 d113 d114 d115 hNN hB2)
      · refine S.stepq (i := 12) (keep := [1, 2, 3, 8, 12, 16]) (m := 3) (σ' := ⟨[(1, .p 0 0), (2, .p 1 0), (3, .p 2 0), (8, .v (slv (h.mem).length q7.1)), (12, .v (slv ((([] : List TEntry) ++ h.buf)).length q51.1)), (16, .v (slv ((([] : List TEntry) ++ h.iobuf)).length q76.1))], [GT.cells h ph, Zc THost, Zc THost]⟩) .nil (by kernel_rfl) ?_
        clear S; intro ac w β S hβ
        have hB2 := fun k (hk : k < 2) => (hβ k (Nat.lt_of_lt_of_le hk (Nat.le_of_ble_eq_true rfl))).trans (hBB k hk)
        refine WD.stayK S (fun b h => ⟨(hNN b h).1, (hNN b h).2⟩) hB2 (bx_app rfl) ?_
        clear hβ
        exact WD.ofW hW (by kernel_rfl) (hK108 ac w q51 F52 q76 F77 q7 F8 _ _ _ (S.prune (keep := [1, 2, 3, 8, 12, 16]) (m := 3) (by kernel_rfl)) o50 o75 o6 d113 d114 d115 hNN hB2)
    have hK116 : ∀ (ac : Act) (w : World) (q51 : GT.Ptr (List TEntry)) (F52 : Bl) (q23 : GT.Ptr (List TEntry)) (F24 : Bl) (q7 : GT.Ptr (List (List Int))) (F8 : Bl) (u : World) (N : Bl) (β : Nat → Nat) (S : St Try.prog Try.f49.ntmps w0 NoB u N β ⟨[(1, .p 0 0), (2, .p 1 0), (3, .p 2 0), (8, .v (slv (h.mem).length q7.1)), (12, .v (slv ((([] : List TEntry) ++ h.buf)).length q51.1)), (13, .v (slv 0 q23.1)), (15, .v (slv (h.iobuf).length ph.iobuf.1))], [GT.cells h ph, Zc THost, Zc THost]⟩ ac w) (o50 : Ow w0 NoB u N F52 (([] : List TEntry) ++ h.buf) q51) (o22 : Ow w0 NoB u N F24 ([] : List TEntry) q23) (o6 : Ow w0 NoB u N F8 h.mem q7) (d117 : Disj F52 F24) (d118 : Disj F52 F8) (d119 : Disj F24 F8) (hNN : ∀ b, N0 b → N b ∧ u.heap[b]? = u0.heap[b]? ∧ ¬ F24 b) (hBB : ∀ k, k < 2 → β k = β0 k), W 3 (mkL 14 [0, 1, 2, 3, 4, 5, 6, 7, 8, 9, 12]) ac w := by
      intro ac w q51 F52 q23 F24 q7 F8 u N β S o50 o22 o6 d117 d118 d119 hNN hBB
      rw [hW]
      refine WD.one (i := 10) (by kernel_rfl) ?_
      have b124 : (h.iobuf).length ≤ 4194304 := LRd.le (RHost.iobuf (d := h) (S.arg hh))
      refine id (S.appFlat (α := TEntry) o22 ((RHost.iobuf (d := h) (S.arg hh))) (fun _ _ h => h) (by' := 32) (d := 16) (lx := 0) (ly := (h.iobuf).length) rfl rfl (by kernel_rfl) (show _ ≤ 4194304 by simp only [List.length_append, List.length_cons, List.length_nil]; omega) ?_)
      clear S; intro ac w N q120 F121 S up o122 d123
      have hb125 := fun b h => (⟨(up b (hNN b h).1 (hNN b h).2.2).1, (up b (hNN b h).1 (hNN b h).2.2).2.trans (hNN b h).2.1⟩ : _ ∧ _)
      refine WD.stayK S (fun b h => ⟨(hb125 b h).1, (hb125 b h).2⟩) hBB (bx_app rfl) ?_
      have d126 : Disj F8 F121 := d123 _ (Disj.symm d119) o6.sub
      have d127 : Disj F52 F121 := d123 _ d117 o50.sub
      replace o6 := o6.upF (Disj.symm d119) up
      replace o50 := o50.upF d117 up
      clear up d123
      exact WD.ofW hW (by kernel_rfl) (hK108 ac w q51 F52 q120 F121 q7 F8 _ _ _ (S.prune (keep := [1, 2, 3, 8, 12, 16]) (m := 3) (by kernel_rfl)) o50 o122 o6 d127 d118 (Disj.symm d126) hb125 hBB)
    have hK128 : ∀ (ac : Act) (w : World) (q51 : GT.Ptr (List TEntry)) (F52 : Bl) (q23 : GT.Ptr (List TEntry)) (F24 : Bl) (q7 : GT.Ptr (List (List Int))) (F8 : Bl) (u : World) (N : Bl) (β : Nat → Nat) (S : St Try.prog Try.f49.ntmps w0 NoB u N β ⟨[(1, .p 0 0), (2, .p 1 0), (8, .v (slv (h.mem).length q7.1)), (12, .v (slv ((([] : List TEntry) ++ h.buf)).length q51.1)), (13, .v (slv 0 q23.1)), (15, .v (slv (h.iobuf).length ph.iobuf.1))], [GT.cells h ph, Zc THost]⟩ ac w) (o50 : Ow w0 NoB u N F52 (([] : List TEntry) ++ h.buf) q51) (o22 : Ow w0 NoB u N F24 ([] : List TEntry) q23) (o6 : Ow w0 NoB u N F8 h.mem q7) (d129 : Disj F52 F24) (d130 : Disj F52 F8) (d131 : Disj F24 F8) (hNN : ∀ b, N0 b → N b ∧ u.heap[b]? = u0.heap[b]? ∧ ¬ F24 b) (hBB : ∀ k, k < 2 → β k = β0 k), W 4 (mkL 14 [0, 1, 2, 3, 4, 5, 6, 7, 8, 9]) ac w := by
      intro ac w q51 F52 q23 F24 q7 F8 u N β S o50 o22 o6 d129 d130 d131 hNN hBB
      rw [hW]
      refine WD.many (rs := [10, 12]) (by kernel_rfl) rfl (List.forall_mem_cons.2 ⟨?_, List.forall_mem_cons.2 ⟨?_, List.forall_mem_nil _⟩⟩)
      · have b136 : (h.iobuf).length ≤ 4194304 := LRd.le (RHost.iobuf (d := h) (S.arg hh))
        refine id (S.appFlat (α := TEntry) o22 ((RHost.iobuf (d := h) (S.arg hh))) (fun _ _ h => h) (by' := 32) (d := 16) (lx := 0) (ly := (h.iobuf).length) rfl rfl (by kernel_rfl) (show _ ≤ 4194304 by simp only [List.length_append, List.length_cons, List.length_nil]; omega) ?_)
        clear S; intro ac w N q132 F133 S up o134 d135
        have hb137 := fun b h => (⟨(up b (hNN b h).1 (hNN b h).2.2).1, (up b (hNN b h).1 (hNN b h).2.2).2.trans (hNN b h).2.1⟩ : _ ∧ _)
        refine WD.stayK S (fun b h => ⟨(hb137 b h).1, (hb137 b h).2⟩) hBB (fun _ _ h => h) ?_
        have d138 : Disj F8 F133 := d135 _ (Disj.symm d131) o6.sub
        have d139 : Disj F52 F133 := d135 _ d129 o50.sub
        replace o6 := o6.upF (Disj.symm d131) up
        replace o50 := o50.upF d129 up
        clear up d135
        exact WD.ofW hW (by kernel_rfl) (hK112 ac w q51 F52 q132 F133 q7 F8 _ _ _ (S.prune (keep := [1, 2, 8, 12, 16]) (m := 2) (by kernel_rfl)) o50 o134 o6 d139 d130 (Disj.symm d138) hb137 hBB)
      · refine S.stepq (i := 12) (keep := [1, 2, 3, 8, 12, 13, 15]) (m := 3) (σ' := ⟨[(1, .p 0 0), (2, .p 1 0), (3, .p 2 0), (8, .v (slv (h.mem).length q7.1)), (12, .v (slv ((([] : List TEntry) ++ h.buf)).length q51.1)), (13, .v (slv 0 q23.1)), (15, .v (slv (h.iobuf).length ph.iobuf.1))], [GT.cells h ph, Zc THost, Zc THost]⟩) .nil (by kernel_rfl) ?_
        clear S; intro ac w β S hβ
        have hB2 := fun k (hk : k < 2) => (hβ k (Nat.lt_of_lt_of_le hk (Nat.le_of_ble_eq_true rfl))).trans (hBB k hk)
        refine WD.stayK S (fun b h => ⟨(hNN b h).1, (hNN b h).2.1⟩) hB2 (bx_app rfl) ?_
        clear hβ
        exact WD.ofW hW (by kernel_rfl) (hK116 ac w q51 F52 q23 F24 q7 F8 _ _ _ (S.prune (keep := [1, 2, 3, 8, 12, 13, 15]) (m := 3) (by kernel_rfl)) o50 o22 o6 d129 d130 d131 hNN hB2)
    have hK140 : ∀ (ac : Act) (w : World) (q51 : GT.Ptr (List TEntry)) (F52 : Bl) (q7 : GT.Ptr (List (List Int))) (F8 : Bl) (u : World) (N : Bl) (β : Nat → Nat) (S : St Try.prog Try.f49.ntmps w0 NoB u N β ⟨[(1, .p 0 0), (2, .p 1 0), (3, .p 2 0), (8, .v (slv (h.mem).length q7.1)), (12, .v (slv ((([] : List TEntry) ++ h.buf)).length q51.1)), (15, .v (slv (h.iobuf).length ph.iobuf.1))], [GT.cells h ph, Zc THost, Zc THost]⟩ ac w) (o50 : Ow w0 NoB u N F52 (([] : List TEntry) ++ h.buf) q51) (o6 : Ow w0 NoB u N F8 h.mem q7) (d141 : Disj F52 F8) (hNN : ∀ b, N0 b → N b ∧ u.heap[b]? = u0.heap[b]?) (hBB : ∀ k, k < 2 → β k = β0 k), W 4 (mkL 14 [0, 1, 2, 3, 4, 5, 6, 8, 9, 12]) ac w := by
      intro ac w q51 F52 q7 F8 u N β S o50 o6 d141 hNN hBB
      rw [hW]
      refine WD.one (i := 7) (by kernel_rfl) ?_
      refine id (S.bs0 (α := TEntry) (d := 13) (by kernel_rfl) ?_)
      clear S; intro ac w N q142 F143 S up o144 d145
      have hb146 := fun b h => (⟨(up b (hNN b h).1).1, (up b (hNN b h).1).2.trans (hNN b h).2, d145 b (hNN b h).1⟩ : _ ∧ _ ∧ _)
      refine WD.stayK S (fun b h => ⟨(hb146 b h).1, (hb146 b h).2.1⟩) hBB (bx_app rfl) ?_
      have d147 : Disj F8 F143 := fun b x y => d145 b (o6.sub b x) y
      have d148 : Disj F52 F143 := fun b x y => d145 b (o50.sub b x) y
      replace o6 := o6.up up
      replace o50 := o50.up up
      clear up d145
      exact WD.ofW hW (by kernel_rfl) (hK116 ac w q51 F52 q142 F143 q7 F8 _ _ _ (S.prune (keep := [1, 2, 3, 8, 12, 13, 15]) (m := 3) (by kernel_rfl)) o50 o144 o6 d148 d141 (Disj.symm d147) hb146 hBB)
    have hK149 : ∀ (ac : Act) (w : World) (q23 : GT.Ptr (List TEntry)) (F24 : Bl) (q7 : GT.Ptr (List (List Int))) (F8 : Bl) (q15 : GT.Ptr (List TEntry)) (F16 : Bl) (u : World) (N : Bl) (β : Nat → Nat) (S : St Try.prog Try.f49.ntmps w0 NoB u N β ⟨[(1, .p 0 0), (2, .p 1 0), (3, .p 2 0), (8, .v (slv (h.mem).length q7.1)), (9, .v (slv 0 q15.1)), (11, .v (slv (h.buf).length ph.buf.1)), (13, .v (slv 0 q23.1)), (15, .v (slv (h.iobuf).length ph.iobuf.1))], [GT.cells h ph, Zc THost, Zc THost]⟩ ac w) (o22 : Ow w0 NoB u N F24 ([] : List TEntry) q23) (o6 : Ow w0 NoB u N F8 h.mem q7) (o14 : Ow w0 NoB u N F16 ([] : List TEntry) q15) (d150 : Disj F24 F8) (d151 : Disj F24 F16) (d152 : Disj F8 F16) (hNN : ∀ b, N0 b → N b ∧ u.heap[b]? = u0.heap[b]? ∧ ¬ F16 b ∧ ¬ F24 b) (hBB : ∀ k, k < 2 → β k = β0 k), W 4 (mkL 14 [0, 1, 2, 3, 4, 5, 7, 8, 9, 12]) ac w := by
      intro ac w q23 F24 q7 F8 q15 F16 u N β S o22 o6 o14 d150 d151 d152 hNN hBB
      rw [hW]
      refine WD.one (i := 6) (by kernel_rfl) ?_
      have b157 : (h.buf).length ≤ 4194304 := LRd.le (RHost.buf (d := h) (S.arg hh))
      refine id (S.appFlat (α := TEntry) o14 ((RHost.buf (d := h) (S.arg hh))) (fun _ _ h => h) (by' := 32) (d := 12) (lx := 0) (ly := (h.buf).length) rfl rfl (by kernel_rfl) (show _ ≤ 4194304 by simp only [List.length_append, List.length_cons, List.length_nil]; omega) ?_)
      clear S; intro ac w N q153 F154 S up o155 d156
      have hb158 := fun b h => (⟨(up b (hNN b h).1 (hNN b h).2.2.1).1, (up b (hNN b h).1 (hNN b h).2.2.1).2.trans (hNN b h).2.1, (hNN b h).2.2.2⟩ : _ ∧ _ ∧ _)
      refine WD.stayK S (fun b h => ⟨(hb158 b h).1, (hb158 b h).2.1⟩) hBB (bx_app rfl) ?_
      have d159 : Disj F8 F154 := d156 _ d152 o6.sub
      have d160 : Disj F24 F154 := d156 _ d151 o22.sub
      replace o6 := o6.upF d152 up
      replace o22 := o22.upF d151 up
      clear up d156
      exact WD.ofW hW (by kernel_rfl) (hK116 ac w q153 F154 q23 F24 q7 F8 _ _ _ (S.prune (keep := [1, 2, 3, 8, 12, 13, 15]) (m := 3) (by kernel_rfl)) o155 o22 o6 (Disj.symm d160) (Disj.symm d159) d150 hb158 hBB)
    have hK161 : ∀ (ac : Act) (w : World) (q51 : GT.Ptr (List TEntry)) (F52 : Bl) (q7 : GT.Ptr (List (List Int))) (F8 : Bl) (u : World) (N : Bl) (β : Nat → Nat) (S : St Try.prog Try.f49.ntmps w0 NoB u N β ⟨[(1, .p 0 0), (2, .p 1 0), (8, .v (slv (h.mem).length q7.1)), (12, .v (slv ((([] : List TEntry) ++ h.buf)).length q51.1)), (15, .v (slv (h.iobuf).length ph.iobuf.1))], [GT.cells h ph, Zc THost]⟩ ac w) (o50 : Ow w0 NoB u N F52 (([] : List TEntry) ++ h.buf) q51) (o6 : Ow w0 NoB u N F8 h.mem q7) (d162 : Disj F52 F8) (hNN : ∀ b, N0 b → N b ∧ u.heap[b]? = u0.heap[b]?) (hBB : ∀ k, k < 2 → β k = β0 k), W 5 (mkL 14 [0, 1, 2, 3, 4, 5, 6, 8, 9]) ac w := by
      intro ac w q51 F52 q7 F8 u N β S o50 o6 d162 hNN hBB
      rw [hW]
      refine WD.many (rs := [7, 12]) (by kernel_rfl) rfl (List.forall_mem_cons.2 ⟨?_, List.forall_mem_cons.2 ⟨?_, List.forall_mem_nil _⟩⟩)
      · refine id (S.bs0 (α := TEntry) (d := 13) (by kernel_rfl) ?_)
        clear S; intro ac w N q163 F164 S up o165 d166
        have hb167 := fun b h => (⟨(up b (hNN b h).1).1, (up b (hNN b h).1).2.trans (hNN b h).2, d166 b (hNN b h).1⟩ : _ ∧ _ ∧ _)
        refine WD.stayK S (fun b h => ⟨(hb167 b h).1, (hb167 b h).2.1⟩) hBB (fun _ _ h => h) ?_
        have d168 : Disj F8 F164 := fun b x y => d166 b (o6.sub b x) y
        have d169 : Disj F52 F164 := fun b x y => d166 b (o50.sub b x) y
        replace o6 := o6.up up
        replace o50 := o50.up up
        clear up d166
        exact WD.ofW hW (by kernel_rfl) (hK128 ac w q51 F52 q163 F164 q7 F8 _ _ _ (S.prune (keep := [1, 2, 8, 12, 13, 15]) (m := 2) (by kernel_rfl)) o50 o165 o6 d169 d162 (Disj.symm d168) hb167 hBB)
      · refine S.stepq (i := 12) (keep := [1, 2, 3, 8, 12, 15]) (m := 3) (σ' := ⟨[(1, .p 0 0), (2, .p 1 0), (3, .p 2 0), (8, .v (slv (h.mem).length q7.1)), (12, .v (slv ((([] : List TEntry) ++ h.buf)).length q51.1)), (15, .v (slv (h.iobuf).length ph.iobuf.1))], [GT.cells h ph, Zc THost, Zc THost]⟩) .nil (by kernel_rfl) ?_
        clear S; intro ac w β S hβ
        have hB2 := fun k (hk : k < 2) => (hβ k (Nat.lt_of_lt_of_le hk (Nat.le_of_ble_eq_true rfl))).trans (hBB k hk)
        refine WD.stayK S (fun b h => ⟨(hNN b h).1, (hNN b h).2⟩) hB2 (bx_app rfl) ?_
        clear hβ
        exact WD.ofW hW (by kernel_rfl) (hK140 ac w q51 F52 q7 F8 _ _ _ (S.prune (keep := [1, 2, 3, 8, 12, 15]) (m := 3) (by kernel_rfl)) o50 o6 d162 hNN hB2)
    have hK170 : ∀ (ac : Act) (w : World) (q23 : GT.Ptr (List TEntry)) (F24 : Bl) (q7 : GT.Ptr (List (List Int))) (F8 : Bl) (q15 : GT.Ptr (List TEntry)) (F16 : Bl) (u : World) (N : Bl) (β : Nat → Nat) (S : St Try.prog Try.f49.ntmps w0 NoB u N β ⟨[(1, .p 0 0), (2, .p 1 0), (8, .v (slv (h.mem).length q7.1)), (9, .v (slv 0 q15.1)), (11, .v (slv (h.buf).length ph.buf.1)), (13, .v (slv 0 q23.1)), (15, .v (slv (h.iobuf).length ph.iobuf.1))], [GT.cells h ph, Zc THost]⟩ ac w) (o22 : Ow w0 NoB u N F24 ([] : List TEntry) q23) (o6 : Ow w0 NoB u N F8 h.mem q7) (o14 : Ow w0 NoB u N F16 ([] : List TEntry) q15) (d171 : Disj F24 F8) (d172 : Disj F24 F16) (d173 : Disj F8 F16) (hNN : ∀ b, N0 b → N b ∧ u.heap[b]? = u0.heap[b]? ∧ ¬ F16 b ∧ ¬ F24 b) (hBB : ∀ k, k < 2 → β k = β0 k), W 5 (mkL 14 [0, 1, 2, 3, 4, 5, 7, 8, 9]) ac w := by
      intro ac w q23 F24 q7 F8 q15 F16 u N β S o22 o6 o14 d171 d172 d173 hNN hBB
      rw [hW]
      refine WD.many (rs := [6, 12]) (by kernel_rfl) rfl (List.forall_mem_cons.2 ⟨?_, List.forall_mem_cons.2 ⟨?_, List.forall_mem_nil _⟩⟩)
      · have b178 : (h.buf).length ≤ 4194304 := LRd.le (RHost.buf (d := h) (S.arg hh))
        refine id (S.appFlat (α := TEntry) o14 ((RHost.buf (d := h) (S.arg hh))) (fun _ _ h => h) (by' := 32) (d := 12) (lx := 0) (ly := (h.buf).length) rfl rfl (by kernel_rfl) (show _ ≤ 4194304 by simp only [List.length_append, List.length_cons, List.length_nil]; omega) ?_)
        clear S; intro ac w N q174 F175 S up o176 d177
        have hb179 := fun b h => (⟨(up b (hNN b h).1 (hNN b h).2.2.1).1, (up b (hNN b h).1 (hNN b h).2.2.1).2.trans (hNN b h).2.1, (hNN b h).2.2.2⟩ : _ ∧ _ ∧ _)
        refine WD.stayK S (fun b h => ⟨(hb179 b h).1, (hb179 b h).2.1⟩) hBB (fun _ _ h => h) ?_
        have d180 : Disj F8 F175 := d177 _ d173 o6.sub
        have d181 : Disj F24 F175 := d177 _ d172 o22.sub
        replace o6 := o6.upF d173 up
        replace o22 := o22.upF d172 up
        clear up d177
        exact WD.ofW hW (by kernel_rfl) (hK128 ac w q174 F175 q23 F24 q7 F8 _ _ _ (S.prune (keep := [1, 2, 8, 12, 13, 15]) (m := 2) (by kernel_rfl)) o176 o22 o6 (Disj.symm d181) (Disj.symm d180) d171 hb179 hBB)
      · refine S.stepq (i := 12) (keep := [1, 2, 3, 8, 9, 11, 13, 15]) (m := 3) (σ' := ⟨[(1, .p 0 0), (2, .p 1 0), (3, .p 2 0), (8, .v (slv (h.mem).length q7.1)), (9, .v (slv 0 q15.1)), (11, .v (slv (h.buf).length ph.buf.1)), (13, .v (slv 0 q23.1)), (15, .v (slv (h.iobuf).length ph.iobuf.1))], [GT.cells h ph, Zc THost, Zc THost]⟩) .nil (by kernel_rfl) ?_
        clear S; intro ac w β S hβ
        have hB2 := fun k (hk : k < 2) => (hβ k (Nat.lt_of_lt_of_le hk (Nat.le_of_ble_eq_true rfl))).trans (hBB k hk)
        refine WD.stayK S (fun b h => ⟨(hNN b h).1, (hNN b h).2.1⟩) hB2 (bx_app rfl) ?_
        clear hβ
        exact WD.ofW hW (by kernel_rfl) (hK149 ac w q23 F24 q7 F8 q15 F16 _ _ _ (S.prune (keep := [1, 2, 3, 8, 9, 11, 13, 15]) (m := 3) (by kernel_rfl)) o22 o6 o14 d171 d172 d173 hNN hB2)
    have hK182 : ∀ (ac : Act) (w : World) (q7 : GT.Ptr (List (List Int))) (F8 : Bl) (q15 : GT.Ptr (List TEntry)) (F16 : Bl) (u : World) (N : Bl) (β : Nat → Nat) (S : St Try.prog Try.f49.ntmps w0 NoB u N β ⟨[(1, .p 0 0), (2, .p 1 0), (3, .p 2 0), (8, .v (slv (h.mem).length q7.1)), (9, .v (slv 0 q15.1)), (11, .v (slv (h.buf).length ph.buf.1)), (15, .v (slv (h.iobuf).length ph.iobuf.1))], [GT.cells h ph, Zc THost, Zc THost]⟩ ac w) (o6 : Ow w0 NoB u N F8 h.mem q7) (o14 : Ow w0 NoB u N F16 ([] : List TEntry) q15) (d183 : Disj F8 F16) (hNN : ∀ b, N0 b → N b ∧ u.heap[b]? = u0.heap[b]? ∧ ¬ F16 b) (hBB : ∀ k, k < 2 → β k = β0 k), W 5 (mkL 14 [0, 1, 2, 3, 4, 5, 8, 9, 12]) ac w := by
      intro ac w q7 F8 q15 F16 u N β S o6 o14 d183 hNN hBB
      rw [hW]
      refine WD.many (rs := [6, 7]) (by kernel_rfl) rfl (List.forall_mem_cons.2 ⟨?_, List.forall_mem_cons.2 ⟨?_, List.forall_mem_nil _⟩⟩)
      · have b188 : (h.buf).length ≤ 4194304 := LRd.le (RHost.buf (d := h) (S.arg hh))
        refine id (S.appFlat (α := TEntry) o14 ((RHost.buf (d := h) (S.arg hh))) (fun _ _ h => h) (by' := 32) (d := 12) (lx := 0) (ly := (h.buf).length) rfl rfl (by kernel_rfl) (show _ ≤ 4194304 by simp only [List.length_append, List.length_cons, List.length_nil]; omega) ?_)
        clear S; intro ac w N q184 F185 S up o186 d187
        have hb189 := fun b h => (⟨(up b (hNN b h).1 (hNN b h).2.2).1, (up b (hNN b h).1 (hNN b h).2.2).2.trans (hNN b h).2.1⟩ : _ ∧ _)
        refine WD.stayK S (fun b h => ⟨(hb189 b h).1, (hb189 b h).2⟩) hBB (bx_app rfl) ?_
        have d190 : Disj F8 F185 := d187 _ d183 o6.sub
        replace o6 := o6.upF d183 up
        clear up d187
        exact WD.ofW hW (by kernel_rfl) (hK140 ac w q184 F185 q7 F8 _ _ _ (S.prune (keep := [1, 2, 3, 8, 12, 15]) (m := 3) (by kernel_rfl)) o186 o6 (Disj.symm d190) hb189 hBB)
      · refine id (S.bs0 (α := TEntry) (d := 13) (by kernel_rfl) ?_)
        clear S; intro ac w N q191 F192 S up o193 d194
        have hb195 := fun b h => (⟨(up b (hNN b h).1).1, (up b (hNN b h).1).2.trans (hNN b h).2.1, (hNN b h).2.2, d194 b (hNN b h).1⟩ : _ ∧ _ ∧ _ ∧ _)
        refine WD.stayK S (fun b h => ⟨(hb195 b h).1, (hb195 b h).2.1⟩) hBB (bx_app rfl) ?_
        have d196 : Disj F8 F192 := fun b x y => d194 b (o6.sub b x) y
        have d197 : Disj F16 F192 := fun b x y => d194 b (o14.sub b x) y
        replace o6 := o6.up up
        replace o14 := o14.up up
        clear up d194
        exact WD.ofW hW (by kernel_rfl) (hK149 ac w q191 F192 q7 F8 q15 F16 _ _ _ (S.prune (keep := [1, 2, 3, 8, 9, 11, 13, 15]) (m := 3) (by kernel_rfl)) o193 o6 o14 (Disj.symm d196) (Disj.symm d197) d183 hb195 hBB)
    have hK198 : ∀ (ac : Act) (w : World) (q23 : GT.Ptr (List TEntry)) (F24 : Bl) (q7 : GT.Ptr (List (List Int))) (F8 : Bl) (u : World) (N : Bl) (β : Nat → Nat) (S : St Try.prog Try.f49.ntmps w0 NoB u N β ⟨[(1, .p 0 0), (2, .p 1 0), (3, .p 2 0), (8, .v (slv (h.mem).length q7.1)), (11, .v (slv (h.buf).length ph.buf.1)), (13, .v (slv 0 q23.1)), (15, .v (slv (h.iobuf).length ph.iobuf.1))], [GT.cells h ph, Zc THost, Zc THost]⟩ ac w) (o22 : Ow w0 NoB u N F24 ([] : List TEntry) q23) (o6 : Ow w0 NoB u N F8 h.mem q7) (d199 : Disj F24 F8) (hNN : ∀ b, N0 b → N b ∧ u.heap[b]? = u0.heap[b]? ∧ ¬ F24 b) (hBB : ∀ k, k < 2 → β k = β0 k), W 5 (mkL 14 [0, 1, 2, 4, 5, 7, 8, 9, 12]) ac w := by
      intro ac w q23 F24 q7 F8 u N β S o22 o6 d199 hNN hBB
      rw [hW]
      refine WD.one (i := 3) (by kernel_rfl) ?_
      refine id (S.bs0 (α := TEntry) (d := 9) (by kernel_rfl) ?_)
      clear S; intro ac w N q200 F201 S up o202 d203
      have hb204 := fun b h => (⟨(up b (hNN b h).1).1, (up b (hNN b h).1).2.trans (hNN b h).2.1, d203 b (hNN b h).1, (hNN b h).2.2⟩ : _ ∧ _ ∧ _ ∧ _)
      refine WD.stayK S (fun b h => ⟨(hb204 b h).1, (hb204 b h).2.1⟩) hBB (bx_app rfl) ?_
      have d205 : Disj F8 F201 := fun b x y => d203 b (o6.sub b x) y
      have d206 : Disj F24 F201 := fun b x y => d203 b (o22.sub b x) y
      replace o6 := o6.up up
      replace o22 := o22.up up
      clear up d203
      exact WD.ofW hW (by kernel_rfl) (hK149 ac w q23 F24 q7 F8 q200 F201 _ _ _ (S.prune (keep := [1, 2, 3, 8, 9, 11, 13, 15]) (m := 3) (by kernel_rfl)) o22 o6 o202 d199 d206 d205 hb204 hBB)
    have hK207 : ∀ (ac : Act) (w : World) (q23 : GT.Ptr (List TEntry)) (F24 : Bl) (q15 : GT.Ptr (List TEntry)) (F16 : Bl) (u : World) (N : Bl) (β : Nat → Nat) (S : St Try.prog Try.f49.ntmps w0 NoB u N β ⟨[(1, .p 0 0), (2, .p 1 0), (3, .p 2 0), (7, .v (slv (h.mem).length ph.mem.1)), (9, .v (slv 0 q15.1)), (11, .v (slv (h.buf).length ph.buf.1)), (13, .v (slv 0 q23.1)), (15, .v (slv (h.iobuf).length ph.iobuf.1))], [GT.cells h ph, Zc THost, Zc THost]⟩ ac w) (o22 : Ow w0 NoB u N F24 ([] : List TEntry) q23) (o14 : Ow w0 NoB u N F16 ([] : List TEntry) q15) (d208 : Disj F24 F16) (hNN : ∀ b, N0 b → N b ∧ u.heap[b]? = u0.heap[b]? ∧ ¬ F16 b ∧ ¬ F24 b) (hBB : ∀ k, k < 2 → β k = β0 k), W 5 (mkL 14 [0, 1, 3, 4, 5, 7, 8, 9, 12]) ac w := by
      intro ac w q23 F24 q15 F16 u N β S o22 o14 d208 hNN hBB
      rw [hW]
      refine WD.one (i := 2) (by kernel_rfl) ?_
      refine id (S.call1 (r := h.mem) (d := 8) (c_impl_copyMem w h.mem ph.mem (S.rd (RHost.mem (d := h) (S.arg hh)))) (by kernel_rfl) rfl ?_)
      clear S; intro ac w N q209 F210 S up o211 d212
      have hb213 := fun b h => (⟨(up b (hNN b h).1).1, (up b (hNN b h).1).2.trans (hNN b h).2.1, (hNN b h).2.2.1, (hNN b h).2.2.2⟩ : _ ∧ _ ∧ _ ∧ _)
      refine WD.stayK S (fun b h => ⟨(hb213 b h).1, (hb213 b h).2.1⟩) hBB (bx_app rfl) ?_
      have d214 : Disj F16 F210 := fun b x y => d212 b (o14.sub b x) y
      have d215 : Disj F24 F210 := fun b x y => d212 b (o22.sub b x) y
      replace o14 := o14.up up
      replace o22 := o22.up up
      clear up d212
      exact WD.ofW hW (by kernel_rfl) (hK149 ac w q23 F24 q209 F210 q15 F16 _ _ _ (S.prune (keep := [1, 2, 3, 8, 9, 11, 13, 15]) (m := 3) (by kernel_rfl)) o22 o211 o14 d215 d208 (Disj.symm d214) hb213 hBB)
    have hK216 : ∀ (ac : Act) (w : World) (q7 : GT.Ptr (List (List Int))) (F8 : Bl) (q15 : GT.Ptr (List TEntry)) (F16 : Bl) (u : World) (N : Bl) (β : Nat → Nat) (S : St Try.prog Try.f49.ntmps w0 NoB u N β ⟨[(1, .p 0 0), (2, .p 1 0), (8, .v (slv (h.mem).length q7.1)), (9, .v (slv 0 q15.1)), (11, .v (slv (h.buf).length ph.buf.1)), (15, .v (slv (h.iobuf).length ph.iobuf.1))], [GT.cells h ph, Zc THost]⟩ ac w) (o6 : Ow w0 NoB u N F8 h.mem q7) (o14 : Ow w0 NoB u N F16 ([] : List TEntry) q15) (d217 : Disj F8 F16) (hNN : ∀ b, N0 b → N b ∧ u.heap[b]? = u0.heap[b]? ∧ ¬ F16 b) (hBB : ∀ k, k < 2 → β k = β0 k), W 6 (mkL 14 [0, 1, 2, 3, 4, 5, 8, 9]) ac w := by
      intro ac w q7 F8 q15 F16 u N β S o6 o14 d217 hNN hBB
      rw [hW]
      refine WD.many (rs := [6, 7, 12]) (by kernel_rfl) rfl (List.forall_mem_cons.2 ⟨?_, List.forall_mem_cons.2 ⟨?_, List.forall_mem_cons.2 ⟨?_, List.forall_mem_nil _⟩⟩⟩)
      · have b222 : (h.buf).length ≤ 4194304 := LRd.le (RHost.buf (d := h) (S.arg hh))
        refine id (S.appFlat (α := TEntry) o14 ((RHost.buf (d := h) (S.arg hh))) (fun _ _ h => h) (by' := 32) (d := 12) (lx := 0) (ly := (h.buf).length) rfl rfl (by kernel_rfl) (show _ ≤ 4194304 by simp only [List.length_append, List.length_cons, List.length_nil]; omega) ?_)
        clear S; intro ac w N q218 F219 S up o220 d221
        have hb223 := fun b h => (⟨(up b (hNN b h).1 (hNN b h).2.2).1, (up b (hNN b h).1 (hNN b h).2.2).2.trans (hNN b h).2.1⟩ : _ ∧ _)
        refine WD.stayK S (fun b h => ⟨(hb223 b h).1, (hb223 b h).2⟩) hBB (fun _ _ h => h) ?_
        have d224 : Disj F8 F219 := d221 _ d217 o6.sub
        replace o6 := o6.upF d217 up
        clear up d221
        exact WD.ofW hW (by kernel_rfl) (hK161 ac w q218 F219 q7 F8 _ _ _ (S.prune (keep := [1, 2, 8, 12, 15]) (m := 2) (by kernel_rfl)) o220 o6 (Disj.symm d224) hb223 hBB)
      · refine id (S.bs0 (α := TEntry) (d := 13) (by kernel_rfl) ?_)
        clear S; intro ac w N q225 F226 S up o227 d228
        have hb229 := fun b h => (⟨(up b (hNN b h).1).1, (up b (hNN b h).1).2.trans (hNN b h).2.1, (hNN b h).2.2, d228 b (hNN b h).1⟩ : _ ∧ _ ∧ _ ∧ _)
        refine WD.stayK S (fun b h => ⟨(hb229 b h).1, (hb229 b h).2.1⟩) hBB (fun _ _ h => h) ?_
        have d230 : Disj F8 F226 := fun b x y => d228 b (o6.sub b x) y
        have d231 : Disj F16 F226 := fun b x y => d228 b (o14.sub b x) y
        replace o6 := o6.up up
        replace o14 := o14.up up
        clear up d228
        exact WD.ofW hW (by kernel_rfl) (hK170 ac w q225 F226 q7 F8 q15 F16 _ _ _ (S.prune (keep := [1, 2, 8, 9, 11, 13, 15]) (m := 2) (by kernel_rfl)) o227 o6 o14 (Disj.symm d230) (Disj.symm d231) d217 hb229 hBB)
      · refine S.stepq (i := 12) (keep := [1, 2, 3, 8, 9, 11, 15]) (m := 3) (σ' := ⟨[(1, .p 0 0), (2, .p 1 0), (3, .p 2 0), (8, .v (slv (h.mem).length q7.1)), (9, .v (slv 0 q15.1)), (11, .v (slv (h.buf).length ph.buf.1)), (15, .v (slv (h.iobuf).length ph.iobuf.1))], [GT.cells h ph, Zc THost, Zc THost]⟩) .nil (by kernel_rfl) ?_
        clear S; intro ac w β S hβ
        have hB2 := fun k (hk : k < 2) => (hβ k (Nat.lt_of_lt_of_le hk (Nat.le_of_ble_eq_true rfl))).trans (hBB k hk)
        refine WD.stayK S (fun b h => ⟨(hNN b h).1, (hNN b h).2.1⟩) hB2 (bx_app rfl) ?_
        clear hβ
        exact WD.ofW hW (by kernel_rfl) (hK182 ac w q7 F8 q15 F16 _ _ _ (S.prune (keep := [1, 2, 3, 8, 9, 11, 15]) (m := 3) (by kernel_rfl)) o6 o14 d217 hNN hB2)
    have hK232 : ∀ (ac : Act) (w : World) (q23 : GT.Ptr (List TEntry)) (F24 : Bl) (q7 : GT.Ptr (List (List Int))) (F8 : Bl) (u : World) (N : Bl) (β : Nat → Nat) (S : St Try.prog Try.f49.ntmps w0 NoB u N β ⟨[(1, .p 0 0), (2, .p 1 0), (8, .v (slv (h.mem).length q7.1)), (11, .v (slv (h.buf).length ph.buf.1)), (13, .v (slv 0 q23.1)), (15, .v (slv (h.iobuf).length ph.iobuf.1))], [GT.cells h ph, Zc THost]⟩ ac w) (o22 : Ow w0 NoB u N F24 ([] : List TEntry) q23) (o6 : Ow w0 NoB u N F8 h.mem q7) (d233 : Disj F24 F8) (hNN : ∀ b, N0 b → N b ∧ u.heap[b]? = u0.heap[b]? ∧ ¬ F24 b) (hBB : ∀ k, k < 2 → β k = β0 k), W 6 (mkL 14 [0, 1, 2, 4, 5, 7, 8, 9]) ac w := by
      intro ac w q23 F24 q7 F8 u N β S o22 o6 d233 hNN hBB
      rw [hW]
      refine WD.many (rs := [3, 12]) (by kernel_rfl) rfl (List.forall_mem_cons.2 ⟨?_, List.forall_mem_cons.2 ⟨?_, List.forall_mem_nil _⟩⟩)
      · refine id (S.bs0 (α := TEntry) (d := 9) (by kernel_rfl) ?_)
        clear S; intro ac w N q234 F235 S up o236 d237
        have hb238 := fun b h => (⟨(up b (hNN b h).1).1, (up b (hNN b h).1).2.trans (hNN b h).2.1, d237 b (hNN b h).1, (hNN b h).2.2⟩ : _ ∧ _ ∧ _ ∧ _)
        refine WD.stayK S (fun b h => ⟨(hb238 b h).1, (hb238 b h).2.1⟩) hBB (fun _ _ h => h) ?_
        have d239 : Disj F8 F235 := fun b x y => d237 b (o6.sub b x) y
        have d240 : Disj F24 F235 := fun b x y => d237 b (o22.sub b x) y
        replace o6 := o6.up up
        replace o22 := o22.up up
        clear up d237
        exact WD.ofW hW (by kernel_rfl) (hK170 ac w q23 F24 q7 F8 q234 F235 _ _ _ (S.prune (keep := [1, 2, 8, 9, 11, 13, 15]) (m := 2) (by kernel_rfl)) o22 o6 o236 d233 d240 d239 hb238 hBB)
      · refine S.stepq (i := 12) (keep := [1, 2, 3, 8, 11, 13, 15]) (m := 3) (σ' := ⟨[(1, .p 0 0), (2, .p 1 0), (3, .p 2 0), (8, .v (slv (h.mem).length q7.1)), (11, .v (slv (h.buf).length ph.buf.1)), (13, .v (slv 0 q23.1)), (15, .v (slv (h.iobuf).length ph.iobuf.1))], [GT.cells h ph, Zc THost, Zc THost]⟩) .nil (by kernel_rfl) ?_
        clear S; intro ac w β S hβ
        have hB2 := fun k (hk : k < 2) => (hβ k (Nat.lt_of_lt_of_le hk (Nat.le_of_ble_eq_true rfl))).trans (hBB k hk)
        refine WD.stayK S (fun b h => ⟨(hNN b h).1, (hNN b h).2.1⟩) hB2 (bx_app rfl) ?_
        clear hβ
        exact WD.ofW hW (by kernel_rfl) (hK198 ac w q23 F24 q7 F8 _ _ _ (S.prune (keep := [1, 2, 3, 8, 11, 13, 15]) (m := 3) (by kernel_rfl)) o22 o6 d233 hNN hB2)
    have hK241 : ∀ (ac : Act) (w : World) (q7 : GT.Ptr (List (List Int))) (F8 : Bl) (u : World) (N : Bl) (β : Nat → Nat) (S : St Try.prog Try.f49.ntmps w0 NoB u N β ⟨[(1, .p 0 0), (2, .p 1 0), (3, .p 2 0), (8, .v (slv (h.mem).length q7.1)), (11, .v (slv (h.buf).length ph.buf.1)), (15, .v (slv (h.iobuf).length ph.iobuf.1))], [GT.cells h ph, Zc THost, Zc THost]⟩ ac w) (o6 : Ow w0 NoB u N F8 h.mem q7) (hNN : ∀ b, N0 b → N b ∧ u.heap[b]? = u0.heap[b]?) (hBB : ∀ k, k < 2 → β k = β0 k), W 6 (mkL 14 [0, 1, 2, 4, 5, 8, 9, 12]) ac w := by
      intro ac w q7 F8 u N β S o6 hNN hBB
      rw [hW]
      refine WD.many (rs := [3, 7]) (by kernel_rfl) rfl (List.forall_mem_cons.2 ⟨?_, List.forall_mem_cons.2 ⟨?_, List.forall_mem_nil _⟩⟩)
      · refine id (S.bs0 (α := TEntry) (d := 9) (by kernel_rfl) ?_)
        clear S; intro ac w N q242 F243 S up o244 d245
        have hb246 := fun b h => (⟨(up b (hNN b h).1).1, (up b (hNN b h).1).2.trans (hNN b h).2, d245 b (hNN b h).1⟩ : _ ∧ _ ∧ _)
        refine WD.stayK S (fun b h => ⟨(hb246 b h).1, (hb246 b h).2.1⟩) hBB (bx_app rfl) ?_
        have d247 : Disj F8 F243 := fun b x y => d245 b (o6.sub b x) y
        replace o6 := o6.up up
        clear up d245
        exact WD.ofW hW (by kernel_rfl) (hK182 ac w q7 F8 q242 F243 _ _ _ (S.prune (keep := [1, 2, 3, 8, 9, 11, 15]) (m := 3) (by kernel_rfl)) o6 o244 d247 hb246 hBB)
      · refine id (S.bs0 (α := TEntry) (d := 13) (by kernel_rfl) ?_)
        clear S; intro ac w N q248 F249 S up o250 d251
        have hb252 := fun b h => (⟨(up b (hNN b h).1).1, (up b (hNN b h).1).2.trans (hNN b h).2, d251 b (hNN b h).1⟩ : _ ∧ _ ∧ _)
        refine WD.stayK S (fun b h => ⟨(hb252 b h).1, (hb252 b h).2.1⟩) hBB (bx_app rfl) ?_
        have d253 : Disj F8 F249 := fun b x y => d251 b (o6.sub b x) y
        replace o6 := o6.up up
        clear up d251
        exact WD.ofW hW (by kernel_rfl) (hK198 ac w q248 F249 q7 F8 _ _ _ (S.prune (keep := [1, 2, 3, 8, 11, 13, 15]) (m := 3) (by kernel_rfl)) o250 o6 (Disj.symm d253) hb252 hBB)
    have hK254 : ∀ (ac : Act) (w : World) (q23 : GT.Ptr (List TEntry)) (F24 : Bl) (q15 : GT.Ptr (List TEntry)) (F16 : Bl) (u : World) (N : Bl) (β : Nat → Nat) (S : St Try.prog Try.f49.ntmps w0 NoB u N β ⟨[(1, .p 0 0), (2, .p 1 0), (7, .v (slv (h.mem).length ph.mem.1)), (9, .v (slv 0 q15.1)), (11, .v (slv (h.buf).length ph.buf.1)), (13, .v (slv 0 q23.1)), (15, .v (slv (h.iobuf).length ph.iobuf.1))], [GT.cells h ph, Zc THost]⟩ ac w) (o22 : Ow w0 NoB u N F24 ([] : List TEntry) q23) (o14 : Ow w0 NoB u N F16 ([] : List TEntry) q15) (d255 : Disj F24 F16) (hNN : ∀ b, N0 b → N b ∧ u.heap[b]? = u0.heap[b]? ∧ ¬ F16 b ∧ ¬ F24 b) (hBB : ∀ k, k < 2 → β k = β0 k), W 6 (mkL 14 [0, 1, 3, 4, 5, 7, 8, 9]) ac w := by
      intro ac w q23 F24 q15 F16 u N β S o22 o14 d255 hNN hBB
      rw [hW]
      refine WD.many (rs := [2, 12]) (by kernel_rfl) rfl (List.forall_mem_cons.2 ⟨?_, List.forall_mem_cons.2 ⟨?_, List.forall_mem_nil _⟩⟩)
      · refine id (S.call1 (r := h.mem) (d := 8) (c_impl_copyMem w h.mem ph.mem (S.rd (RHost.mem (d := h) (S.arg hh)))) (by kernel_rfl) rfl ?_)
        clear S; intro ac w N q256 F257 S up o258 d259
        have hb260 := fun b h => (⟨(up b (hNN b h).1).1, (up b (hNN b h).1).2.trans (hNN b h).2.1, (hNN b h).2.2.1, (hNN b h).2.2.2⟩ : _ ∧ _ ∧ _ ∧ _)
        refine WD.stayK S (fun b h => ⟨(hb260 b h).1, (hb260 b h).2.1⟩) hBB (fun _ _ h => h) ?_
        have d261 : Disj F16 F257 := fun b x y => d259 b (o14.sub b x) y
        have d262 : Disj F24 F257 := fun b x y => d259 b (o22.sub b x) y
        replace o14 := o14.up up
        replace o22 := o22.up up
        clear up d259
        exact WD.ofW hW (by kernel_rfl) (hK170 ac w q23 F24 q256 F257 q15 F16 _ _ _ (S.prune (keep := [1, 2, 8, 9, 11, 13, 15]) (m := 2) (by kernel_rfl)) o22 o258 o14 d262 d255 (Disj.symm d261) hb260 hBB)
      · refine S.stepq (i := 12) (keep := [1, 2, 3, 7, 9, 11, 13, 15]) (m := 3) (σ' := ⟨[(1, .p 0 0), (2, .p 1 0), (3, .p 2 0), (7, .v (slv (h.mem).length ph.mem.1)), (9, .v (slv 0 q15.1)), (11, .v (slv (h.buf).length ph.buf.1)), (13, .v (slv 0 q23.1)), (15, .v (slv (h.iobuf).length ph.iobuf.1))], [GT.cells h ph, Zc THost, Zc THost]⟩) .nil (by kernel_rfl) ?_
        clear S; intro ac w β S hβ
        have hB2 := fun k (hk : k < 2) => (hβ k (Nat.lt_of_lt_of_le hk (Nat.le_of_ble_eq_true rfl))).trans (hBB k hk)
        refine WD.stayK S (fun b h => ⟨(hNN b h).1, (hNN b h).2.1⟩) hB2 (bx_app rfl) ?_
        clear hβ
        exact WD.ofW hW (by kernel_rfl) (hK207 ac w q23 F24 q15 F16 _ _ _ (S.prune (keep := [1, 2, 3, 7, 9, 11, 13, 15]) (m := 3) (by kernel_rfl)) o22 o14 d255 hNN hB2)
    have hK263 : ∀ (ac : Act) (w : World) (q15 : GT.Ptr (List TEntry)) (F16 : Bl) (u : World) (N : Bl) (β : Nat → Nat) (S : St Try.prog Try.f49.ntmps w0 NoB u N β ⟨[(1, .p 0 0), (2, .p 1 0), (3, .p 2 0), (7, .v (slv (h.mem).length ph.mem.1)), (9, .v (slv 0 q15.1)), (11, .v (slv (h.buf).length ph.buf.1)), (15, .v (slv (h.iobuf).length ph.iobuf.1))], [GT.cells h ph, Zc THost, Zc THost]⟩ ac w) (o14 : Ow w0 NoB u N F16 ([] : List TEntry) q15) (hNN : ∀ b, N0 b → N b ∧ u.heap[b]? = u0.heap[b]? ∧ ¬ F16 b) (hBB : ∀ k, k < 2 → β k = β0 k), W 6 (mkL 14 [0, 1, 3, 4, 5, 8, 9, 12]) ac w := by
      intro ac w q15 F16 u N β S o14 hNN hBB
      rw [hW]
      refine WD.many (rs := [2, 7]) (by kernel_rfl) rfl (List.forall_mem_cons.2 ⟨?_, List.forall_mem_cons.2 ⟨?_, List.forall_mem_nil _⟩⟩)
      · refine id (S.call1 (r := h.mem) (d := 8) (c_impl_copyMem w h.mem ph.mem (S.rd (RHost.mem (d := h) (S.arg hh)))) (by kernel_rfl) rfl ?_)
        clear S; intro ac w N q264 F265 S up o266 d267
        have hb268 := fun b h => (⟨(up b (hNN b h).1).1, (up b (hNN b h).1).2.trans (hNN b h).2.1, (hNN b h).2.2⟩ : _ ∧ _ ∧ _)
        refine WD.stayK S (fun b h => ⟨(hb268 b h).1, (hb268 b h).2.1⟩) hBB (bx_app rfl) ?_
        have d269 : Disj F16 F265 := fun b x y => d267 b (o14.sub b x) y
        replace o14 := o14.up up
        clear up d267
        exact WD.ofW hW (by kernel_rfl) (hK182 ac w q264 F265 q15 F16 _ _ _ (S.prune (keep := [1, 2, 3, 8, 9, 11, 15]) (m := 3) (by kernel_rfl)) o266 o14 (Disj.symm d269) hb268 hBB)
      · refine id (S.bs0 (α := TEntry) (d := 13) (by kernel_rfl) ?_)
        clear S; intro ac w N q270 F271 S up o272 d273
        have hb274 := fun b h => (⟨(up b (hNN b h).1).1, (up b (hNN b h).1).2.trans (hNN b h).2.1, (hNN b h).2.2, d273 b (hNN b h).1⟩ : _ ∧ _ ∧ _ ∧ _)
        refine WD.stayK S (fun b h => ⟨(hb274 b h).1, (hb274 b h).2.1⟩) hBB (bx_app rfl) ?_
        have d275 : Disj F16 F271 := fun b x y => d273 b (o14.sub b x) y
        replace o14 := o14.up up
        clear up d273
        exact WD.ofW hW (by kernel_rfl) (hK207 ac w q270 F271 q15 F16 _ _ _ (S.prune (keep := [1, 2, 3, 7, 9, 11, 13, 15]) (m := 3) (by kernel_rfl)) o272 o14 (Disj.symm d275) hb274 hBB)
    have hK276 : ∀ (ac : Act) (w : World) (q23 : GT.Ptr (List TEntry)) (F24 : Bl) (u : World) (N : Bl) (β : Nat → Nat) (S : St Try.prog Try.f49.ntmps w0 NoB u N β ⟨[(1, .p 0 0), (2, .p 1 0), (3, .p 2 0), (7, .v (slv (h.mem).length ph.mem.1)), (11, .v (slv (h.buf).length ph.buf.1)), (13, .v (slv 0 q23.1)), (15, .v (slv (h.iobuf).length ph.iobuf.1))], [GT.cells h ph, Zc THost, Zc THost]⟩ ac w) (o22 : Ow w0 NoB u N F24 ([] : List TEntry) q23) (hNN : ∀ b, N0 b → N b ∧ u.heap[b]? = u0.heap[b]? ∧ ¬ F24 b) (hBB : ∀ k, k < 2 → β k = β0 k), W 6 (mkL 14 [0, 1, 4, 5, 7, 8, 9, 12]) ac w := by
      intro ac w q23 F24 u N β S o22 hNN hBB
      rw [hW]
      refine WD.many (rs := [2, 3]) (by kernel_rfl) rfl (List.forall_mem_cons.2 ⟨?_, List.forall_mem_cons.2 ⟨?_, List.forall_mem_nil _⟩⟩)
      · refine id (S.call1 (r := h.mem) (d := 8) (c_impl_copyMem w h.mem ph.mem (S.rd (RHost.mem (d := h) (S.arg hh)))) (by kernel_rfl) rfl ?_)
        clear S; intro ac w N q277 F278 S up o279 d280
        have hb281 := fun b h => (⟨(up b (hNN b h).1).1, (up b (hNN b h).1).2.trans (hNN b h).2.1, (hNN b h).2.2⟩ : _ ∧ _ ∧ _)
        refine WD.stayK S (fun b h => ⟨(hb281 b h).1, (hb281 b h).2.1⟩) hBB (bx_app rfl) ?_
        have d282 : Disj F24 F278 := fun b x y => d280 b (o22.sub b x) y
        replace o22 := o22.up up
        clear up d280
        exact WD.ofW hW (by kernel_rfl) (hK198 ac w q23 F24 q277 F278 _ _ _ (S.prune (keep := [1, 2, 3, 8, 11, 13, 15]) (m := 3) (by kernel_rfl)) o22 o279 d282 hb281 hBB)
      · refine id (S.bs0 (α := TEntry) (d := 9) (by kernel_rfl) ?_)
        clear S; intro ac w N q283 F284 S up o285 d286
        have hb287 := fun b h => (⟨(up b (hNN b h).1).1, (up b (hNN b h).1).2.trans (hNN b h).2.1, d286 b (hNN b h).1, (hNN b h).2.2⟩ : _ ∧ _ ∧ _ ∧ _)
        refine WD.stayK S (fun b h => ⟨(hb287 b h).1, (hb287 b h).2.1⟩) hBB (bx_app rfl) ?_
        have d288 : Disj F24 F284 := fun b x y => d286 b (o22.sub b x) y
        replace o22 := o22.up up
        clear up d286
        exact WD.ofW hW (by kernel_rfl) (hK207 ac w q23 F24 q283 F284 _ _ _ (S.prune (keep := [1, 2, 3, 7, 9, 11, 13, 15]) (m := 3) (by kernel_rfl)) o22 o285 d288 hb287 hBB)
    have hK289 : ∀ (ac : Act) (w : World) (q7 : GT.Ptr (List (List Int))) (F8 : Bl) (u : World) (N : Bl) (β : Nat → Nat) (S : St Try.prog Try.f49.ntmps w0 NoB u N β ⟨[(1, .p 0 0), (2, .p 1 0), (8, .v (slv (h.mem).length q7.1)), (11, .v (slv (h.buf).length ph.buf.1)), (15, .v (slv (h.iobuf).length ph.iobuf.1))], [GT.cells h ph, Zc THost]⟩ ac w) (o6 : Ow w0 NoB u N F8 h.mem q7) (hNN : ∀ b, N0 b → N b ∧ u.heap[b]? = u0.heap[b]?) (hBB : ∀ k, k < 2 → β k = β0 k), W 7 (mkL 14 [0, 1, 2, 4, 5, 8, 9]) ac w := by
      intro ac w q7 F8 u N β S o6 hNN hBB
      rw [hW]
      refine WD.many (rs := [3, 7, 12]) (by kernel_rfl) rfl (List.forall_mem_cons.2 ⟨?_, List.forall_mem_cons.2 ⟨?_, List.forall_mem_cons.2 ⟨?_, List.forall_mem_nil _⟩⟩⟩)
      · refine id (S.bs0 (α := TEntry) (d := 9) (by kernel_rfl) ?_)
        clear S; intro ac w N q290 F291 S up o292 d293
        have hb294 := fun b h => (⟨(up b (hNN b h).1).1, (up b (hNN b h).1).2.trans (hNN b h).2, d293 b (hNN b h).1⟩ : _ ∧ _ ∧ _)
        refine WD.stayK S (fun b h => ⟨(hb294 b h).1, (hb294 b h).2.1⟩) hBB (fun _ _ h => h) ?_
        have d295 : Disj F8 F291 := fun b x y => d293 b (o6.sub b x) y
        replace o6 := o6.up up
        clear up d293
        exact WD.ofW hW (by kernel_rfl) (hK216 ac w q7 F8 q290 F291 _ _ _ (S.prune (keep := [1, 2, 8, 9, 11, 15]) (m := 2) (by kernel_rfl)) o6 o292 d295 hb294 hBB)
      · refine id (S.bs0 (α := TEntry) (d := 13) (by kernel_rfl) ?_)
        clear S; intro ac w N q296 F297 S up o298 d299
        have hb300 := fun b h => (⟨(up b (hNN b h).1).1, (up b (hNN b h).1).2.trans (hNN b h).2, d299 b (hNN b h).1⟩ : _ ∧ _ ∧ _)
        refine WD.stayK S (fun b h => ⟨(hb300 b h).1, (hb300 b h).2.1⟩) hBB (fun _ _ h => h) ?_
        have d301 : Disj F8 F297 := fun b x y => d299 b (o6.sub b x) y
        replace o6 := o6.up up
        clear up d299
        exact WD.ofW hW (by kernel_rfl) (hK232 ac w q296 F297 q7 F8 _ _ _ (S.prune (keep := [1, 2, 8, 11, 13, 15]) (m := 2) (by kernel_rfl)) o298 o6 (Disj.symm d301) hb300 hBB)
      · refine S.stepq (i := 12) (keep := [1, 2, 3, 8, 11, 15]) (m := 3) (σ' := ⟨[(1, .p 0 0), (2, .p 1 0), (3, .p 2 0), (8, .v (slv (h.mem).length q7.1)), (11, .v (slv (h.buf).length ph.buf.1)), (15, .v (slv (h.iobuf).length ph.iobuf.1))], [GT.cells h ph, Zc THost, Zc THost]⟩) .nil (by kernel_rfl) ?_
        clear S; intro ac w β S hβ
        have hB2 := fun k (hk : k < 2) => (hβ k (Nat.lt_of_lt_of_le hk (Nat.le_of_ble_eq_true rfl))).trans (hBB k hk)
        refine WD.stayK S (fun b h => ⟨(hNN b h).1, (hNN b h).2⟩) hB2 (bx_app rfl) ?_
        clear hβ
        exact WD.ofW hW (by kernel_rfl) (hK241 ac w q7 F8 _ _ _ (S.prune (keep := [1, 2, 3, 8, 11, 15]) (m := 3) (by kernel_rfl)) o6 hNN hB2)
    have hK302 : ∀ (ac : Act) (w : World) (q15 : GT.Ptr (List TEntry)) (F16 : Bl) (u : World) (N : Bl) (β : Nat → Nat) (S : St Try.prog Try.f49.ntmps w0 NoB u N β ⟨[(1, .p 0 0), (2, .p 1 0), (7, .v (slv (h.mem).length ph.mem.1)), (9, .v (slv 0 q15.1)), (11, .v (slv (h.buf).length ph.buf.1)), (15, .v (slv (h.iobuf).length ph.iobuf.1))], [GT.cells h ph, Zc THost]⟩ ac w) (o14 : Ow w0 NoB u N F16 ([] : List TEntry) q15) (hNN : ∀ b, N0 b → N b ∧ u.heap[b]? = u0.heap[b]? ∧ ¬ F16 b) (hBB : ∀ k, k < 2 → β k = β0 k), W 7 (mkL 14 [0, 1, 3, 4, 5, 8, 9]) ac w := by
      intro ac w q15 F16 u N β S o14 hNN hBB
      rw [hW]
      refine WD.many (rs := [2, 7, 12]) (by kernel_rfl) rfl (List.forall_mem_cons.2 ⟨?_, List.forall_mem_cons.2 ⟨?_, List.forall_mem_cons.2 ⟨?_, List.forall_mem_nil _⟩⟩⟩)
      · refine id (S.call1 (r := h.mem) (d := 8) (c_impl_copyMem w h.mem ph.mem (S.rd (RHost.mem (d := h) (S.arg hh)))) (by kernel_rfl) rfl ?_)
        clear S; intro ac w N q303 F304 S up o305 d306
        have hb307 := fun b h => (⟨(up b (hNN b h).1).1, (up b (hNN b h).1).2.trans (hNN b h).2.1, (hNN b h).2.2⟩ : _ ∧ _ ∧ _)
        refine WD.stayK S (fun b h => ⟨(hb307 b h).1, (hb307 b h).2.1⟩) hBB (fun _ _ h => h) ?_
        have d308 : Disj F16 F304 := fun b x y => d306 b (o14.sub b x) y
        replace o14 := o14.up up
        clear up d306
        exact WD.ofW hW (by kernel_rfl) (hK216 ac w q303 F304 q15 F16 _ _ _ (S.prune (keep := [1, 2, 8, 9, 11, 15]) (m := 2) (by kernel_rfl)) o305 o14 (Disj.symm d308) hb307 hBB)
      · refine id (S.bs0 (α := TEntry) (d := 13) (by kernel_rfl) ?_)
        clear S; intro ac w N q309 F310 S up o311 d312
        have hb313 := fun b h => (⟨(up b (hNN b h).1).1, (up b (hNN b h).1).2.trans (hNN b h).2.1, (hNN b h).2.2, d312 b (hNN b h).1⟩ : _ ∧ _ ∧ _ ∧ _)
        refine WD.stayK S (fun b h => ⟨(hb313 b h).1, (hb313 b h).2.1⟩) hBB (fun _ _ h => h) ?_
        have d314 : Disj F16 F310 := fun b x y => d312 b (o14.sub b x) y
        replace o14 := o14.up up
        clear up d312
        exact WD.ofW hW (by kernel_rfl) (hK254 ac w q309 F310 q15 F16 _ _ _ (S.prune (keep := [1, 2, 7, 9, 11, 13, 15]) (m := 2) (by kernel_rfl)) o311 o14 (Disj.symm d314) hb313 hBB)
      · refine S.stepq (i := 12) (keep := [1, 2, 3, 7, 9, 11, 15]) (m := 3) (σ' := ⟨[(1, .p 0 0), (2, .p 1 0), (3, .p 2 0), (7, .v (slv (h.mem).length ph.mem.1)), (9, .v (slv 0 q15.1)), (11, .v (slv (h.buf).length ph.buf.1)), (15, .v (slv (h.iobuf).length ph.iobuf.1))], [GT.cells h ph, Zc THost, Zc THost]⟩) .nil (by kernel_rfl) ?_
        clear S; intro ac w β S hβ
        have hB2 := fun k (hk : k < 2) => (hβ k (Nat.lt_of_lt_of_le hk (Nat.le_of_ble_eq_true rfl))).trans (hBB k hk)
        refine WD.stayK S (fun b h => ⟨(hNN b h).1, (hNN b h).2.1⟩) hB2 (bx_app rfl) ?_
        clear hβ
        exact WD.ofW hW (by kernel_rfl) (hK263 ac w q15 F16 _ _ _ (S.prune (keep := [1, 2, 3, 7, 9, 11, 15]) (m := 3) (by kernel_rfl)) o14 hNN hB2)
    have hK315 : ∀ (ac : Act) (w : World) (q23 : GT.Ptr (List TEntry)) (F24 : Bl) (u : World) (N : Bl) (β : Nat → Nat) (S : St Try.prog Try.f49.ntmps w0 NoB u N β ⟨[(1, .p 0 0), (2, .p 1 0), (7, .v (slv (h.mem).length ph.mem.1)), (11, .v (slv (h.buf).length ph.buf.1)), (13, .v (slv 0 q23.1)), (15, .v (slv (h.iobuf).length ph.iobuf.1))], [GT.cells h ph, Zc THost]⟩ ac w) (o22 : Ow w0 NoB u N F24 ([] : List TEntry) q23) (hNN : ∀ b, N0 b → N b ∧ u.heap[b]? = u0.heap[b]? ∧ ¬ F24 b) (hBB : ∀ k, k < 2 → β k = β0 k), W 7 (mkL 14 [0, 1, 4, 5, 7, 8, 9]) ac w := by
      intro ac w q23 F24 u N β S o22 hNN hBB
      rw [hW]
      refine WD.many (rs := [2, 3, 12]) (by kernel_rfl) rfl (List.forall_mem_cons.2 ⟨?_, List.forall_mem_cons.2 ⟨?_, List.forall_mem_cons.2 ⟨?_, List.forall_mem_nil _⟩⟩⟩)
      · refine id (S.call1 (r := h.mem) (d := 8) (c_impl_copyMem w h.mem ph.mem (S.rd (RHost.mem (d := h) (S.arg hh)))) (by kernel_rfl) rfl ?_)
        clear S; intro ac w N q316 F317 S up o318 d319
        have hb320 := fun b h => (⟨(up b (hNN b h).1).1, (up b (hNN b h).1).2.trans (hNN b h).2.1, (hNN b h).2.2⟩ : _ ∧ _ ∧ _)
        refine WD.stayK S (fun b h => ⟨(hb320 b h).1, (hb320 b h).2.1⟩) hBB (fun _ _ h => h) ?_
        have d321 : Disj F24 F317 := fun b x y => d319 b (o22.sub b x) y
        replace o22 := o22.up up
        clear up d319
        exact WD.ofW hW (by kernel_rfl) (hK232 ac w q23 F24 q316 F317 _ _ _ (S.prune (keep := [1, 2, 8, 11, 13, 15]) (m := 2) (by kernel_rfl)) o22 o318 d321 hb320 hBB)
      · refine id (S.bs0 (α := TEntry) (d := 9) (by kernel_rfl) ?_)
        clear S; intro ac w N q322 F323 S up o324 d325
        have hb326 := fun b h => (⟨(up b (hNN b h).1).1, (up b (hNN b h).1).2.trans (hNN b h).2.1, d325 b (hNN b h).1, (hNN b h).2.2⟩ : _ ∧ _ ∧ _ ∧ _)
        refine WD.stayK S (fun b h => ⟨(hb326 b h).1, (hb326 b h).2.1⟩) hBB (fun _ _ h => h) ?_
        have d327 : Disj F24 F323 := fun b x y => d325 b (o22.sub b x) y
        replace o22 := o22.up up
        clear up d325
        exact WD.ofW hW (by kernel_rfl) (hK254 ac w q23 F24 q322 F323 _ _ _ (S.prune (keep := [1, 2, 7, 9, 11, 13, 15]) (m := 2) (by kernel_rfl)) o22 o324 d327 hb326 hBB)
      · refine S.stepq (i := 12) (keep := [1, 2, 3, 7, 11, 13, 15]) (m := 3) (σ' := ⟨[(1, .p 0 0), (2, .p 1 0), (3, .p 2 0), (7, .v (slv (h.mem).length ph.mem.1)), (11, .v (slv (h.buf).length ph.buf.1)), (13, .v (slv 0 q23.1)), (15, .v (slv (h.iobuf).length ph.iobuf.1))], [GT.cells h ph, Zc THost, Zc THost]⟩) .nil (by kernel_rfl) ?_
        clear S; intro ac w β S hβ
        have hB2 := fun k (hk : k < 2) => (hβ k (Nat.lt_of_lt_of_le hk (Nat.le_of_ble_eq_true rfl))).trans (hBB k hk)
        refine WD.stayK S (fun b h => ⟨(hNN b h).1, (hNN b h).2.1⟩) hB2 (bx_app rfl) ?_
        clear hβ
        exact WD.ofW hW (by kernel_rfl) (hK276 ac w q23 F24 _ _ _ (S.prune (keep := [1, 2, 3, 7, 11, 13, 15]) (m := 3) (by kernel_rfl)) o22 hNN hB2)
    have hK328 : ∀ (ac : Act) (w : World)  (u : World) (N : Bl) (β : Nat → Nat) (S : St Try.prog Try.f49.ntmps w0 NoB u N β ⟨[(1, .p 0 0), (2, .p 1 0), (3, .p 2 0), (7, .v (slv (h.mem).length ph.mem.1)), (11, .v (slv (h.buf).length ph.buf.1)), (15, .v (slv (h.iobuf).length ph.iobuf.1))], [GT.cells h ph, Zc THost, Zc THost]⟩ ac w) (hNN : ∀ b, N0 b → N b ∧ u.heap[b]? = u0.heap[b]?) (hBB : ∀ k, k < 2 → β k = β0 k), W 7 (mkL 14 [0, 1, 4, 5, 8, 9, 12]) ac w := by
      intro ac w  u N β S hNN hBB
      rw [hW]
      refine WD.many (rs := [2, 3, 7]) (by kernel_rfl) rfl (List.forall_mem_cons.2 ⟨?_, List.forall_mem_cons.2 ⟨?_, List.forall_mem_cons.2 ⟨?_, List.forall_mem_nil _⟩⟩⟩)
      · refine id (S.call1 (r := h.mem) (d := 8) (c_impl_copyMem w h.mem ph.mem (S.rd (RHost.mem (d := h) (S.arg hh)))) (by kernel_rfl) rfl ?_)
        clear S; intro ac w N q329 F330 S up o331 d332
        have hb333 := fun b h => (⟨(up b (hNN b h).1).1, (up b (hNN b h).1).2.trans (hNN b h).2⟩ : _ ∧ _)
        refine WD.stayK S (fun b h => ⟨(hb333 b h).1, (hb333 b h).2⟩) hBB (bx_app rfl) ?_
        clear up d332
        exact WD.ofW hW (by kernel_rfl) (hK241 ac w q329 F330 _ _ _ (S.prune (keep := [1, 2, 3, 8, 11, 15]) (m := 3) (by kernel_rfl)) o331 hb333 hBB)
      · refine id (S.bs0 (α := TEntry) (d := 9) (by kernel_rfl) ?_)
        clear S; intro ac w N q334 F335 S up o336 d337
        have hb338 := fun b h => (⟨(up b (hNN b h).1).1, (up b (hNN b h).1).2.trans (hNN b h).2, d337 b (hNN b h).1⟩ : _ ∧ _ ∧ _)
        refine WD.stayK S (fun b h => ⟨(hb338 b h).1, (hb338 b h).2.1⟩) hBB (bx_app rfl) ?_
        clear up d337
        exact WD.ofW hW (by kernel_rfl) (hK263 ac w q334 F335 _ _ _ (S.prune (keep := [1, 2, 3, 7, 9, 11, 15]) (m := 3) (by kernel_rfl)) o336 hb338 hBB)
      · refine id (S.bs0 (α := TEntry) (d := 13) (by kernel_rfl) ?_)
        clear S; intro ac w N q339 F340 S up o341 d342
        have hb343 := fun b h => (⟨(up b (hNN b h).1).1, (up b (hNN b h).1).2.trans (hNN b h).2, d342 b (hNN b h).1⟩ : _ ∧ _ ∧ _)
        refine WD.stayK S (fun b h => ⟨(hb343 b h).1, (hb343 b h).2.1⟩) hBB (bx_app rfl) ?_
        clear up d342
        exact WD.ofW hW (by kernel_rfl) (hK276 ac w q339 F340 _ _ _ (S.prune (keep := [1, 2, 3, 7, 11, 13, 15]) (m := 3) (by kernel_rfl)) o341 hb343 hBB)
    have hNN : ∀ b, N0 b → N0 b ∧ u0.heap[b]? = u0.heap[b]? := fun b h => ⟨h, rfl⟩
    have hBB : ∀ k, k < 2 → β0 k = β0 k := fun _ _ => rfl
    rw [hW]
    refine WD.many (rs := [2, 3, 7, 12]) (by kernel_rfl) rfl (List.forall_mem_cons.2 ⟨?_, List.forall_mem_cons.2 ⟨?_, List.forall_mem_cons.2 ⟨?_, List.forall_mem_cons.2 ⟨?_, List.forall_mem_nil _⟩⟩⟩⟩)
    · refine id (S.call1 (r := h.mem) (d := 8) (c_impl_copyMem w h.mem ph.mem (S.rd (RHost.mem (d := h) (S.arg hh)))) (by kernel_rfl) rfl ?_)
      clear S; intro ac w N q344 F345 S up o346 d347
      have hb348 := fun b h => (⟨(up b (hNN b h).1).1, (up b (hNN b h).1).2.trans (hNN b h).2⟩ : _ ∧ _)
      refine WD.stayK S (fun b h => ⟨(hb348 b h).1, (hb348 b h).2⟩) hBB (fun _ _ h => h) ?_
      clear up d347
      exact WD.ofW hW (by kernel_rfl) (hK289 ac w q344 F345 _ _ _ (S.prune (keep := [1, 2, 8, 11, 15]) (m := 2) (by kernel_rfl)) o346 hb348 hBB)
    · refine id (S.bs0 (α := TEntry) (d := 9) (by kernel_rfl) ?_)
      clear S; intro ac w N q349 F350 S up o351 d352
      have hb353 := fun b h => (⟨(up b (hNN b h).1).1, (up b (hNN b h).1).2.trans (hNN b h).2, d352 b (hNN b h).1⟩ : _ ∧ _ ∧ _)
      refine WD.stayK S (fun b h => ⟨(hb353 b h).1, (hb353 b h).2.1⟩) hBB (fun _ _ h => h) ?_
      clear up d352
      exact WD.ofW hW (by kernel_rfl) (hK302 ac w q349 F350 _ _ _ (S.prune (keep := [1, 2, 7, 9, 11, 15]) (m := 2) (by kernel_rfl)) o351 hb353 hBB)
    · refine id (S.bs0 (α := TEntry) (d := 13) (by kernel_rfl) ?_)
      clear S; intro ac w N q354 F355 S up o356 d357
      have hb358 := fun b h => (⟨(up b (hNN b h).1).1, (up b (hNN b h).1).2.trans (hNN b h).2, d357 b (hNN b h).1⟩ : _ ∧ _ ∧ _)
      refine WD.stayK S (fun b h => ⟨(hb358 b h).1, (hb358 b h).2.1⟩) hBB (fun _ _ h => h) ?_
      clear up d357
      exact WD.ofW hW (by kernel_rfl) (hK315 ac w q354 F355 _ _ _ (S.prune (keep := [1, 2, 7, 11, 13, 15]) (m := 2) (by kernel_rfl)) o356 hb358 hBB)
    · refine S.stepq (i := 12) (keep := [1, 2, 3, 7, 11, 15]) (m := 3) (σ' := ⟨[(1, .p 0 0), (2, .p 1 0), (3, .p 2 0), (7, .v (slv (h.mem).length ph.mem.1)), (11, .v (slv (h.buf).length ph.buf.1)), (15, .v (slv (h.iobuf).length ph.iobuf.1))], [GT.cells h ph, Zc THost, Zc THost]⟩) .nil (by kernel_rfl) ?_
      clear S; intro ac w β S hβ
      have hB2 := fun k (hk : k < 2) => (hβ k (Nat.lt_of_lt_of_le hk (Nat.le_of_ble_eq_true rfl))).trans (hBB k hk)
      refine WD.stayK S (fun b h => ⟨(hNN b h).1, (hNN b h).2⟩) hB2 (bx_app rfl) ?_
      clear hβ
      exact WD.ofW hW (by kernel_rfl) (hK328 ac w  _ _ _ (S.prune (keep := [1, 2, 3, 7, 11, 15]) (m := 3) (by kernel_rfl))  hNN hB2)
  clear S
  rintro ac w ⟨q91, F92, q94, F95, q88, F89, u, N, β, S, o90, o93, o87, d359, d360, d361⟩
  refine id (nx_then (wp_seq (wp_seq (RG.start ?_))))
  refine S.q 4 [2, 3, 19, 20, 21] 3 ⟨[(2, .p 1 0), (3, .p 2 0), (19, .v (slv (h.mons).length ph.mons.1)), (20, .v (I ((h.mons).length : Int))), (21, .v (I 0))], [GT.cells h ph, Zc THost, [slv (h.mem).length q88.1, slv (([] : List TMon)).length (GT.pdflt (α := List TMon)).1, slv ((([] : List TEntry) ++ h.buf)).length q91.1, slv ((([] : List TEntry) ++ h.iobuf)).length q94.1]]⟩ .nil ?_; clear S; intro ac w β S
  refine RG.done rfl (nx_then (wp_block ?_))
  replace S := S.p [2, 3, 19, 20, 21] 3 ⟨[(2, .p 1 0), (3, .p 2 0), (19, .v (slv (h.mons).length ph.mons.1)), (20, .v (I ((h.mons).length : Int))), (21, .v (I 0))], [GT.cells h ph, Zc THost, [slv (h.mem).length q88.1, slv (([] : List TMon)).length (GT.pdflt (α := List TMon)).1, slv ((([] : List TEntry) ++ h.buf)).length q91.1, slv ((([] : List TEntry) ++ h.iobuf)).length q94.1]]⟩
  have o365 := S.nilOw (α := TMon)
  refine wp_loop_down (fun mm ac w => ∃ (i : Nat) (acc : List TMon) (q362 : GT.Ptr (List TMon)) (F363 : Bl) (u : World) (N : Bl) (β : Nat → Nat), mm = h.mons.length - i ∧ (i ≤ h.mons.length) ∧ (acc = h.mons.take i) ∧ St Try.prog Try.f49.ntmps w0 NoB u N β ⟨[(2, .p 1 0), (3, .p 2 0), (19, .v (slv (h.mons).length ph.mons.1)), (20, .v (I ((h.mons).length : Int))), (21, .v (I (i : Int)))], [GT.cells h ph, Zc THost, [slv (h.mem).length q88.1, slv (acc).length q362.1, slv ((([] : List TEntry) ++ h.buf)).length q91.1, slv ((([] : List TEntry) ++ h.iobuf)).length q94.1]]⟩ ac w ∧ Ow w0 NoB u N F363 acc q362 ∧ Ow w0 NoB u N F89 h.mem q88 ∧ Ow w0 NoB u N F92 (([] : List TEntry) ++ h.buf) q91 ∧ Ow w0 NoB u N F95 (([] : List TEntry) ++ h.iobuf) q94 ∧ Disj F363 F89 ∧ Disj F363 F92 ∧ Disj F363 F95) _ ⟨0, ([] : List TMon), (GT.pdflt (α := List TMon)), NoB, _, _, _, rfl, (by first | omega | (simp; done) | (simp; omega)), (by rfl), S.cast (by kernel_rfl), o365, o87, o90, o93, (Disj.symm (fun b _ h => False.elim h)), (Disj.symm (fun b _ h => False.elim h)), (Disj.symm (fun b _ h => False.elim h))⟩ ?_
  clear S o365 o87 o90 o93
  rintro mm ac w ⟨i, acc, q362, F363, u, N, β, rfl, hi, hacc, S, o364, o87, o90, o93, d366, d367, d368⟩
  have hlacc : acc.length = i := by rw [hacc]; simp; omega
  refine wp_seq (RG.start ?_)
  refine S.q 1 [2, 3, 19, 20, 21, 22] 3 ⟨[(2, .p 1 0), (3, .p 2 0), (19, .v (slv (h.mons).length ph.mons.1)), (20, .v (I ((h.mons).length : Int))), (21, .v (I (i : Int))), (22, .v (B (decide ((i : Int) < ((h.mons).length : Int)))))], [GT.cells h ph, Zc THost, [slv (h.mem).length q88.1, slv (acc).length q362.1, slv ((([] : List TEntry) ++ h.buf)).length q91.1, slv ((([] : List TEntry) ++ h.iobuf)).length q94.1]]⟩ .nil ?_; clear S; intro ac w β S
  refine RG.done rfl (nx_then (wp_seq ?_))
  refine S.c (decide ((i : Int) < ((h.mons).length : Int))) (fun h369 => ?_) (fun h369 => ?_)
  · have g370 : (i : Int) < ((h.mons).length : Int) := of_decide_eq_true h369
    refine wp_skip (nx_then (wp_seq (wp_block (wp_seq (RG.start ?_)))))
    refine S.q 4 [2, 3, 5, 19, 20, 21] 4 ⟨[(2, .p 1 0), (3, .p 2 0), (5, .p 3 0), (19, .v (slv (h.mons).length ph.mons.1)), (20, .v (I ((h.mons).length : Int))), (21, .v (I (i : Int)))], [GT.cells h ph, Zc THost, [slv (h.mem).length q88.1, slv (acc).length q362.1, slv ((([] : List TEntry) ++ h.buf)).length q91.1, slv ((([] : List TEntry) ++ h.iobuf)).length q94.1], GT.cells (el h.mons i) (ph.mons.2 i)]⟩ (.cons (Q_idx (RHost.mons (d := h) (S.arg hh)) (l := (h.mons).length) (k := i) (i := (i : Int)) rfl rfl (by omega) Try.underlying36 (by kernel_rfl)) (.cons (Q_el (RHost.mons (d := h) (S.arg hh)) (t := 46) (k := i) (by omega) rfl (by kernel_rfl) (by kernel_rfl)) .nil)) ?_; clear S; intro ac w β S
    refine RG.done rfl (nx_then ?_)
    refine S.draw0 (f := 8) 5 rfl rfl ?_
    clear S; intro w S
    refine S.hoist (i := 0) (path := [1, 0]) (keep := [2, 3, 5, 19, 20, 21, 25]) (m := 4) (σ' := ⟨[(2, .p 1 0), (3, .p 2 0), (5, .p 3 0), (19, .v (slv (h.mons).length ph.mons.1)), (20, .v (I ((h.mons).length : Int))), (21, .v (I (i : Int))), (25, .p 2 1)], [GT.cells h ph, Zc THost, [slv (h.mem).length q88.1, slv (acc).length q362.1, slv ((([] : List TEntry) ++ h.buf)).length q91.1, slv ((([] : List TEntry) ++ h.iobuf)).length q94.1], GT.cells (el h.mons i) (ph.mons.2 i)]⟩) (by kernel_rfl) (by kernel_rfl) .nil (by kernel_rfl) ?_
    clear S; intro ac S
    refine S.hoist (i := 1) (path := [1]) (keep := [2, 3, 5, 19, 20, 21, 26]) (m := 4) (σ' := ⟨[(2, .p 1 0), (3, .p 2 0), (5, .p 3 0), (19, .v (slv (h.mons).length ph.mons.1)), (20, .v (I ((h.mons).length : Int))), (21, .v (I (i : Int))), (26, .v (slv (acc).length q362.1))], [GT.cells h ph, Zc THost, [slv (h.mem).length q88.1, slv (acc).length q362.1, slv ((([] : List TEntry) ++ h.buf)).length q91.1, slv ((([] : List TEntry) ++ h.iobuf)).length q94.1], GT.cells (el h.mons i) (ph.mons.2 i)]⟩) (by kernel_rfl) (by kernel_rfl) .nil (by kernel_rfl) ?_
    clear S; intro ac S
    refine S.hoist (i := 2) (path := [3, 2]) (keep := [2, 3, 19, 20, 21, 26, 27]) (m := 4) (σ' := ⟨[(2, .p 1 0), (3, .p 2 0), (19, .v (slv (h.mons).length ph.mons.1)), (20, .v (I ((h.mons).length : Int))), (21, .v (I (i : Int))), (26, .v (slv (acc).length q362.1)), (27, .v (GT.val (el h.mons i) (ph.mons.2 i)))], [GT.cells h ph, Zc THost, [slv (h.mem).length q88.1, slv (acc).length q362.1, slv ((([] : List TEntry) ++ h.buf)).length q91.1, slv ((([] : List TEntry) ++ h.iobuf)).length q94.1], GT.cells (el h.mons i) (ph.mons.2 i)]⟩) (by kernel_rfl) (by kernel_rfl) .nil (by kernel_rfl) ?_
    clear S; intro ac S
    refine WD.one (i := 3) (by kernel_rfl) ?_
    refine id (S.call1 (r := (el h.mons i)) (d := 28) (c_impl_copyMon w (el h.mons i) (ph.mons.2 i) (S.rd (LRd.el (RHost.mons (d := h) (S.arg hh)) i (by omega)))) (by kernel_rfl) rfl ?_)
    clear S; intro ac w N q371 F372 S up o373 d374
    refine WD.next S up rfl ?_
    have d375 : Disj F363 F372 := fun b x y => d374 b (o364.sub b x) y
    have d376 : Disj F89 F372 := fun b x y => d374 b (o87.sub b x) y
    have d377 : Disj F92 F372 := fun b x y => d374 b (o90.sub b x) y
    have d378 : Disj F95 F372 := fun b x y => d374 b (o93.sub b x) y
    replace o364 := o364.up up
    replace o87 := o87.up up
    replace o90 := o90.up up
    replace o93 := o93.up up
    clear up d374
    have i394 : In64 (el h.mons i).pend := RMon.pend (d := (el h.mons i)) o373.rn
    have i395 : In64 (el h.mons i).traps := RMon.traps (d := (el h.mons i)) o373.rn
    have i399 : In64 (el h.mons i).owned := RMon.owned (d := (el h.mons i)) o373.rn
    obtain ⟨F379, F382, F385, F388, F391, F396, o380, o383, o386, o389, o392, o397, s381, s384, s387, s390, s393, s398, d400, d401, d402, d403, d404, d405, d406, d407, d408, d409, d410, d411, d412, d413, d414⟩ := sp_Mon o373
    refine WD.one (i := 4) (by kernel_rfl) ?_
    have o419 := ow_Mon (x := (el h.mons i)) (p := q371) o380 o383 o386 o389 o392 o397 d400 d401 d402 d403 d404 d405 d406 d407 d408 d409 d410 d411 d412 d413 d414 i394 i395 i399
    refine id (S.bs1 (α := TMon) (x := (el h.mons i)) (p := q371) o419.own o419.sub o419.young (d := 29) (by kernel_rfl) ?_)
    clear S; intro ac w N q415 F416 S up o417 d418
    refine WD.next S up rfl ?_
    have d420 : Disj F363 F416 := d418 _ (Disj.symm (Disj.or (Disj.part (Disj.symm d375) s381) (Disj.or (Disj.part (Disj.symm d375) s384) (Disj.or (Disj.part (Disj.symm d375) s387) (Disj.or (Disj.part (Disj.symm d375) s390) (Disj.or (Disj.part (Disj.symm d375) s393) (Disj.or (Disj.part (Disj.symm d375) s398) Disj.nob))))))) o364.sub
    have d421 : Disj F89 F416 := d418 _ (Disj.symm (Disj.or (Disj.part (Disj.symm d376) s381) (Disj.or (Disj.part (Disj.symm d376) s384) (Disj.or (Disj.part (Disj.symm d376) s387) (Disj.or (Disj.part (Disj.symm d376) s390) (Disj.or (Disj.part (Disj.symm d376) s393) (Disj.or (Disj.part (Disj.symm d376) s398) Disj.nob))))))) o87.sub
    have d422 : Disj F92 F416 := d418 _ (Disj.symm (Disj.or (Disj.part (Disj.symm d377) s381) (Disj.or (Disj.part (Disj.symm d377) s384) (Disj.or (Disj.part (Disj.symm d377) s387) (Disj.or (Disj.part (Disj.symm d377) s390) (Disj.or (Disj.part (Disj.symm d377) s393) (Disj.or (Disj.part (Disj.symm d377) s398) Disj.nob))))))) o90.sub
    have d423 : Disj F95 F416 := d418 _ (Disj.symm (Disj.or (Disj.part (Disj.symm d378) s381) (Disj.or (Disj.part (Disj.symm d378) s384) (Disj.or (Disj.part (Disj.symm d378) s387) (Disj.or (Disj.part (Disj.symm d378) s390) (Disj.or (Disj.part (Disj.symm d378) s393) (Disj.or (Disj.part (Disj.symm d378) s398) Disj.nob))))))) o93.sub
    replace o364 := o364.up up
    replace o87 := o87.up up
    replace o90 := o90.up up
    replace o93 := o93.up up
    clear up d418
    refine WD.one (i := 5) (by kernel_rfl) ?_
    refine id (S.appOwn (α := TMon) o364 o417 d420 (by' := 168) (d := 30) (lx := (acc).length) (ly := 1) rfl rfl (by kernel_rfl) (show _ ≤ 4194304 by simp only [List.length_append, List.length_cons, List.length_nil]; omega) ?_)
    clear S; intro ac w N q424 F425 S up o426 d427
    refine WD.last (by kernel_rfl) ?_
    have d428 : Disj F89 F425 := d427 _ (Disj.symm d366) d421 o87.sub
    have d429 : Disj F92 F425 := d427 _ (Disj.symm d367) d422 o90.sub
    have d430 : Disj F95 F425 := d427 _ (Disj.symm d368) d423 o93.sub
    replace o87 := o87.upF (Disj.symm d366) up
    replace o90 := o90.upF (Disj.symm d367) up
    replace o93 := o93.upF (Disj.symm d368) up
    clear up d427
    refine WD.one (i := 6) (by kernel_rfl) ?_
    refine S.stepq (i := 6) (keep := [2, 3, 19, 20, 21, 30, 31]) (m := 4) (σ' := ⟨[(2, .p 1 0), (3, .p 2 0), (19, .v (slv (h.mons).length ph.mons.1)), (20, .v (I ((h.mons).length : Int))), (21, .v (I (i : Int))), (30, .v (slv ((acc ++ [(el h.mons i)])).length q424.1)), (31, .p 2 1)], [GT.cells h ph, Zc THost, [slv (h.mem).length q88.1, slv (acc).length q362.1, slv ((([] : List TEntry) ++ h.buf)).length q91.1, slv ((([] : List TEntry) ++ h.iobuf)).length q94.1], GT.cells (el h.mons i) (ph.mons.2 i)]⟩) .nil (by kernel_rfl) ?_
    clear S; intro ac w β S hβ
    refine WD.last (by kernel_rfl) ?_
    clear hβ
    refine WD.one (i := 7) (by kernel_rfl) ?_
    refine S.stepq (i := 7) (keep := [2, 3, 19, 20, 21]) (m := 4) (σ' := ⟨[(2, .p 1 0), (3, .p 2 0), (19, .v (slv (h.mons).length ph.mons.1)), (20, .v (I ((h.mons).length : Int))), (21, .v (I (i : Int)))], [GT.cells h ph, Zc THost, [slv (h.mem).length q88.1, slv ((acc ++ [(el h.mons i)])).length q424.1, slv ((([] : List TEntry) ++ h.buf)).length q91.1, slv ((([] : List TEntry) ++ h.iobuf)).length q94.1], GT.cells (el h.mons i) (ph.mons.2 i)]⟩) .nil (by kernel_rfl) ?_
    clear S; intro ac w β S hβ
    refine WD.last (by kernel_rfl) ?_
    clear hβ
    refine WD.done (by kernel_rfl) ?_ _
    replace S := S.p [2, 3, 19, 20, 21] 3 ⟨[(2, .p 1 0), (3, .p 2 0), (19, .v (slv (h.mons).length ph.mons.1)), (20, .v (I ((h.mons).length : Int))), (21, .v (I (i : Int)))], [GT.cells h ph, Zc THost, [slv (h.mem).length q88.1, slv ((acc ++ [(el h.mons i)])).length q424.1, slv ((([] : List TEntry) ++ h.buf)).length q91.1, slv ((([] : List TEntry) ++ h.iobuf)).length q94.1]]⟩
    refine id (nx_block (nx_then (RG.start ?_)))
    refine S.q 2 [2, 3, 19, 20, 21] 3 ⟨[(2, .p 1 0), (3, .p 2 0), (19, .v (slv (h.mons).length ph.mons.1)), (20, .v (I ((h.mons).length : Int))), (21, .v (I ((i : Int) + 1)))], [GT.cells h ph, Zc THost, [slv (h.mem).length q88.1, slv ((acc ++ [(el h.mons i)])).length q424.1, slv ((([] : List TEntry) ++ h.buf)).length q91.1, slv ((([] : List TEntry) ++ h.iobuf)).length q94.1]]⟩ (.cons (Q_add (x := (i : Int)) (y := 1) ⟨by omega, by omega⟩) .nil) ?_; clear S; intro ac w β S
    refine RG.done rfl (nx_then ?_)
    replace S := S.p [2, 3, 19, 20, 21] 3 ⟨[(2, .p 1 0), (3, .p 2 0), (19, .v (slv (h.mons).length ph.mons.1)), (20, .v (I ((h.mons).length : Int))), (21, .v (I ((i : Int) + 1)))], [GT.cells h ph, Zc THost, [slv (h.mem).length q88.1, slv ((acc ++ [(el h.mons i)])).length q424.1, slv ((([] : List TEntry) ++ h.buf)).length q91.1, slv ((([] : List TEntry) ++ h.iobuf)).length q94.1]]⟩
    refine ⟨h.mons.length - (i + 1), by omega, i + 1, (acc ++ [(el h.mons i)]), q424, F425, _, _, _, rfl, ?_, ?_, S.cast (by kernel_rfl), o426, o87, o90, o93, (Disj.symm d428), (Disj.symm d429), (Disj.symm d430)⟩
    · clear S; first | omega | (simp [*]; done) | (simp [*]; omega)
    · clear S; (first | (rw [take_el (by omega), hacc]; done) | (rw [take_el (by omega), hacc]; simp; done))
  · have g431 : ¬ ((i : Int) < ((h.mons).length : Int)) := of_decide_eq_false h369
    refine wp_exit (ex_then (ex_then (ex_hit (nx_then (wp_seq (RG.start ?_))))))
    refine S.q 2 [2] 2 ⟨[(2, .p 1 0)], [GT.cells h ph, [slv (h.mem).length q88.1, slv (acc).length q362.1, slv ((([] : List TEntry) ++ h.buf)).length q91.1, slv ((([] : List TEntry) ++ h.iobuf)).length q94.1]]⟩ .nil ?_; clear S; intro ac w β S
    refine RG.done rfl (nx_then (wp_ret ?_))
    refine S.r [GT.val (⟨h.mem, acc, (([] : List TEntry) ++ h.buf), (([] : List TEntry) ++ h.iobuf)⟩ : THost) (⟨q88, q362, q91, q94⟩ : PHost)] ?_
    have o432 := ow_Host (x := (⟨h.mem, acc, (([] : List TEntry) ++ h.buf), (([] : List TEntry) ++ h.iobuf)⟩ : THost)) (p := (⟨q88, q362, q91, q94⟩ : PHost)) o87 o364 o90 o93 (Disj.symm d366) (Disj.symm d360) (Disj.symm d361) d367 d368 d359 
    exact ret1_of S (show h = (⟨h.mem, acc, (([] : List TEntry) ++ h.buf), (([] : List TEntry) ++ h.iobuf)⟩ : THost) by clear S; (rw [hacc, take_all (by omega)]; first | rfl | (simp; done))) rfl o432

set_option maxRecDepth 100000 in
theorem c_impl_has (w0 : World) (k : Int) (length : Int) (pre0 : -9223372036854775808 < length) : Calls Try.prog 50 [I k, I length].toArray w0 (fun e w' => e = .returned (B (f_within k 0 (length - 1))) ∧ Chg NoB w0 w') := by
  refine Calls.walk (args := [I k, I length]) NoB Try.func50 rfl rfl ?_
  intro ac β S
  refine wp_seq (RG.start ?_)
  refine S.q 1 [0, 1] 0 ⟨[(0, .v (I k)), (1, .v (I length))], []⟩ .nil ?_; clear S; intro ac w β S
  refine RG.done rfl (nx_then (wp_seq (RG.start ?_)))
  refine S.q 3 [0, 1, 7] 0 ⟨[(0, .v (I k)), (1, .v (I length)), (7, .v (B (decide (k ≥ 0))))], []⟩ .nil ?_; clear S; intro ac w β S
  rcases Bool.eq_false_or_eq_true (decide (k ≥ 0)) with h1 | h1 <;> rw [h1] at S
  · have g2 : k ≥ 0 := of_decide_eq_true h1
    refine S.q 5 [4] 0 ⟨[(4, .v (B (decide (k < length))))], []⟩ .nil ?_; clear S; intro ac w β S
    refine RG.done rfl (nx_then (wp_ret ?_))
    refine S.r [B (decide (k < length))] ?_
    exact ⟨retB (by clear S; (rw [Bool.eq_iff_iff]; simp [f_within]; omega)), S.chg⟩
  · have g3 : ¬ (k ≥ 0) := of_decide_eq_false h1
    refine S.q 5 [4] 0 ⟨[(4, .v (B false))], []⟩ .nil ?_; clear S; intro ac w β S
    refine RG.done rfl (nx_then (wp_ret ?_))
    refine S.r [B false] ?_
    exact ⟨retB (by clear S; (rw [Bool.eq_iff_iff]; simp [f_within]; omega)), S.chg⟩

set_option maxRecDepth 100000 in
theorem c_impl_NoSlot (w0 : World)  : Calls Try.prog 118 [].toArray w0 (fun e w' => e = .returned (GT.val (⟨-1, 0⟩ : TSlot) ()) ∧ Chg NoB w0 w') := by
  refine Calls.walk (args := []) NoB Try.func118 rfl rfl ?_
  intro ac β S
  refine wp_seq (RG.start ?_)
  refine S.q 1 [0] 1 ⟨[(0, .p 0 0)], [Zc TSlot]⟩ .nil ?_; clear S; intro ac w β S
  refine RG.done rfl (nx_then (wp_seq (RG.start ?_)))
  refine S.q 2 [0] 1 ⟨[(0, .p 0 0)], [[I (-1), I 0]]⟩ (.cons (Q_sem (s := Instr.build 120 [(0, I (-1))].toArray) (v := .agg [I (-1), I 0].toArray) (fun w => by kernel_rfl)) .nil) ?_; clear S; intro ac w β S
  refine RG.done rfl (nx_then (wp_ret ?_))
  refine S.r [GT.val (⟨(-1), 0⟩ : TSlot) ()] ?_
  exact ⟨retV (p := ()) (by clear S; first | rfl | (simp [id, *]; done) | (simp [id, *]; omega) | (simp_all [id]; done) | (simp_all [id]; omega)), S.chg⟩

set_option maxRecDepth 100000 in
theorem c_impl_Forget (w0 : World) (k : TKept) (pk : PKept) (hk : GT.rd KK (Lt w0.heap.size) w0 k pk) (page : Int) : Calls Try.prog 107 [GT.val k pk, I page].toArray w0 (Ret1 NoB w0 (f_forget k page : TKept)) := by
  refine Calls.walk (args := [GT.val k pk, I page]) NoB Try.func107 rfl rfl ?_
  intro ac β S
  have hlek_known : k.known.length ≤ 4194304 := LRd.le (RKept.known (d := k) hk)
  have hlek_slots : k.slots.length ≤ 4194304 := LRd.le (RKept.slots (d := k) hk)
  refine wp_seq (RG.start ?_)
  refine S.q 2 [1, 2, 4] 2 ⟨[(1, .v (I page)), (2, .p 0 0), (4, .p 1 0)], [GT.cells k pk, Zc TKept]⟩ .nil ?_; clear S; intro ac w β S
  refine RG.done rfl (nx_then (wp_seq (RG.start ?_)))
  refine S.q 1 [1, 2, 4, 6] 2 ⟨[(1, .v (I page)), (2, .p 0 0), (4, .p 1 0), (6, .v (GT.val k pk))], [GT.cells k pk, Zc TKept]⟩ .nil ?_; clear S; intro ac w β S
  refine RG.op rfl (S.call1 (r := k) (d := 7) (c_impl_copyKept w k pk (S.rd (S.arg hk))) (by kernel_rfl) rfl ?_)
  clear S; intro ac w N q1 F2 S up o3 d4
  clear up d4
  obtain ⟨F5, F8, o6, o9, s7, s10, d11⟩ := sp_Kept o3
  refine S.q 2 [1, 2, 4, 5] 3 ⟨[(1, .v (I page)), (2, .p 0 0), (4, .p 1 0), (5, .p 2 0)], [GT.cells k pk, Zc TKept, [slv (k.known).length q1.known.1, slv (k.slots).length q1.slots.1]]⟩ .nil ?_; clear S; intro ac w β S
  refine RG.done rfl (nx_then (wp_seq (wp_seq (RG.start ?_))))
  refine S.q 6 [1, 2, 4, 5, 13] 3 ⟨[(1, .v (I page)), (2, .p 0 0), (4, .p 1 0), (5, .p 2 0), (13, .v (B (f_within page 0 (((k.known).length : Int) - 1))))], [GT.cells k pk, Zc TKept, [slv (k.known).length q1.known.1, slv (k.slots).length q1.slots.1]]⟩ (.cons (Q_call fun w hw => c_impl_has w page ((k.known).length : Int) (by omega)) .nil) ?_; clear S; intro ac w β S
  rcases Bool.eq_false_or_eq_true (f_within page 0 (((k.known).length : Int) - 1)) with h12 | h12 <;> rw [h12] at S
  · have g13 := within_t h12
    refine S.q 6 [1, 4, 5, 19] 3 ⟨[(1, .v (I page)), (4, .p 1 0), (5, .p 2 0), (19, .v (B (f_within page 0 (((k.slots).length : Int) - 1))))], [GT.cells k pk, Zc TKept, [slv (k.known).length q1.known.1, slv (k.slots).length q1.slots.1]]⟩ (.cons (Q_call fun w hw => c_impl_has w page ((k.slots).length : Int) (by omega)) .nil) ?_; clear S; intro ac w β S
    refine RG.done rfl (nx_then ?_)
    refine S.c (f_within page 0 (((k.slots).length : Int) - 1)) (fun h14 => ?_) (fun h14 => ?_)
    · have g15 := within_t h14
      refine wp_seq (RG.start ?_)
      refine S.q 4 [1, 4, 5, 23] 3 ⟨[(1, .v (I page)), (4, .p 1 0), (5, .p 2 0), (23, .v (pt q1.known.1.b (q1.known.1.off + ((page).toNat) * 1)))], [GT.cells k pk, Zc TKept, [slv (k.known).length q1.known.1, slv (k.slots).length q1.slots.1]]⟩ (.cons (Q_idx o6.rn (l := (k.known).length) (k := (page).toNat) (i := page) rfl (by omega) (by omega) Try.underlying28 (by kernel_rfl)) .nil) ?_; clear S; intro ac w β S
      refine RG.op rfl (S.setEl (α := Bool) o6 (t := 4) (v := B false) (k := (page).toNat) (j := 0) (off := q1.known.1.off + ((page).toNat) * 1) (y := false) (q := ()) (Fy := NoB) (by kernel_rfl) (by kernel_rfl) (by omega) (by kernel_rfl) (by kernel_rfl) (Nat.le_of_ble_eq_true (by kernel_rfl)) (by kernel_rfl) (fun _ _ _ => ⟨NoB, trivial, fun _ h => False.elim h⟩) (fun b _ h => False.elim h) (fun b h => False.elim h) (fun b h => False.elim h) ?_)
      clear S; intro w N F17 q18 S up o16 d19 s20 n21
      have d22 : Disj F8 F17 := d19 _ (Disj.symm d11) (fun b _ h => False.elim h) o9.sub
      replace o9 := o9.upF (Disj.symm d11) up
      clear up d19 o6 n21
      have l23 : (k.known.set ((page).toNat) false).length = (k.known).length := List.length_set
      replace S := S.p [1, 4, 5, 23] 3 ⟨[(1, .v (I page)), (4, .p 1 0), (5, .p 2 0), (23, .v (pt q1.known.1.b (q1.known.1.off + ((page).toNat) * 1)))], [GT.cells k pk, Zc TKept, [slv (k.known).length q1.known.1, slv (k.slots).length q1.slots.1]]⟩
      replace S := S.cast (σ' := ⟨[(1, .v (I page)), (4, .p 1 0), (5, .p 2 0), (23, .v (pt q1.known.1.b (q1.known.1.off + ((page).toNat) * 1)))], [GT.cells k pk, Zc TKept, [slv ((k.known.set ((page).toNat) false)).length q1.known.1, slv (k.slots).length q1.slots.1]]⟩) (by rw [show ((k.known.set ((page).toNat) false)).length = (k.known).length by omega])
      replace S := S.p [1, 4, 5] 3 ⟨[(1, .v (I page)), (4, .p 1 0), (5, .p 2 0)], [GT.cells k pk, Zc TKept, [slv ((k.known.set ((page).toNat) false)).length q1.known.1, slv (k.slots).length q1.slots.1]]⟩
      refine RG.done rfl (nx_then ?_)
      refine S.draw0 (f := 6) 5 rfl rfl ?_
      clear S; intro w S
      refine S.hoist (i := 0) (path := [0]) (keep := [1, 4, 5, 24]) (m := 3) (σ' := ⟨[(1, .v (I page)), (4, .p 1 0), (5, .p 2 0), (24, .p 2 1)], [GT.cells k pk, Zc TKept, [slv ((k.known.set ((page).toNat) false)).length q1.known.1, slv (k.slots).length q1.slots.1]]⟩) (by kernel_rfl) (by kernel_rfl) .nil (by kernel_rfl) ?_
      clear S; intro ac S
      refine S.hoist (i := 1) (path := [1]) (keep := [1, 4, 5, 25]) (m := 3) (σ' := ⟨[(1, .v (I page)), (4, .p 1 0), (5, .p 2 0), (25, .v (slv (k.slots).length q1.slots.1))], [GT.cells k pk, Zc TKept, [slv ((k.known.set ((page).toNat) false)).length q1.known.1, slv (k.slots).length q1.slots.1]]⟩) (by kernel_rfl) (by kernel_rfl) .nil (by kernel_rfl) ?_
      clear S; intro ac S
      refine S.hoist (i := 2) (path := [2]) (keep := [4, 5, 25, 26]) (m := 3) (σ' := ⟨[(4, .p 1 0), (5, .p 2 0), (25, .v (slv (k.slots).length q1.slots.1)), (26, .v (I page))], [GT.cells k pk, Zc TKept, [slv ((k.known.set ((page).toNat) false)).length q1.known.1, slv (k.slots).length q1.slots.1]]⟩) (by kernel_rfl) (by kernel_rfl) .nil (by kernel_rfl) ?_
      clear S; intro ac S
      refine WD.one (i := 3) (by kernel_rfl) ?_
      refine S.stepq (i := 3) (keep := [4, 5, 25, 26, 27]) (m := 3) (σ' := ⟨[(4, .p 1 0), (5, .p 2 0), (25, .v (slv (k.slots).length q1.slots.1)), (26, .v (I page)), (27, .v (GT.val ((⟨-1, 0⟩ : TSlot)) ()))], [GT.cells k pk, Zc TKept, [slv ((k.known.set ((page).toNat) false)).length q1.known.1, slv (k.slots).length q1.slots.1]]⟩) (.cons (Q_call fun w hw => c_impl_NoSlot w ) .nil) (by kernel_rfl) ?_
      clear S; intro ac w β S hβ
      refine WD.stay S hβ (fun _ _ h => h) ?_
      clear hβ
      refine S.hoist (i := 4) (path := [4]) (keep := [4, 5, 27, 28]) (m := 3) (σ' := ⟨[(4, .p 1 0), (5, .p 2 0), (27, .v (GT.val ((⟨-1, 0⟩ : TSlot)) ())), (28, .v (pt q1.slots.1.b (q1.slots.1.off + ((page).toNat) * 2)))], [GT.cells k pk, Zc TKept, [slv ((k.known.set ((page).toNat) false)).length q1.known.1, slv (k.slots).length q1.slots.1]]⟩) (by kernel_rfl) (by kernel_rfl) (.cons (Q_idx o9.rn (l := (k.slots).length) (k := (page).toNat) (i := page) rfl (by omega) (by omega) Try.underlying42 (by kernel_rfl)) .nil) (by kernel_rfl) ?_
      clear S; intro ac S
      refine WD.one (i := 5) (by kernel_rfl) ?_
      have e24 : RSlot (el k.slots ((page).toNat)) := (LRd.el o9.rn ((page).toNat) (by omega))
      refine id (S.setEl (α := TSlot) o9 (t := 120) (v := GT.val ((⟨-1, 0⟩ : TSlot)) ()) (k := (page).toNat) (j := 0) (off := q1.slots.1.off + ((page).toNat) * 2) (y := ((⟨-1, 0⟩ : TSlot))) (q := ()) (Fy := NoB) (by kernel_rfl) (by kernel_rfl) (by omega) (by kernel_rfl) (by kernel_rfl) (Nat.le_of_ble_eq_true (by kernel_rfl)) (by kernel_rfl) (fun _ _ _ => ⟨NoB, ((show RSlot ⟨-1, 0⟩ from ⟨⟨by decide, by decide⟩, ⟨by decide, by decide⟩⟩)), fun _ h => False.elim h⟩) (fun b _ h => False.elim h) (fun b h => False.elim h) (fun b h => False.elim h) ?_)
      clear S; intro w N F26 q27 S up o25 d28 s29 n30
      refine WD.last (by kernel_rfl) ?_
      have d31 : Disj F17 F26 := d28 _ (Disj.symm d22) (fun b _ h => False.elim h) o16.sub
      replace o16 := o16.upF (Disj.symm d22) up
      clear up d28 o9 n30
      have l32 : (k.slots.set ((page).toNat) ((⟨-1, 0⟩ : TSlot))).length = (k.slots).length := List.length_set
      replace S := S.p [4, 5, 27, 28] 3 ⟨[(4, .p 1 0), (5, .p 2 0), (27, .v (GT.val ((⟨-1, 0⟩ : TSlot)) ())), (28, .v (pt q1.slots.1.b (q1.slots.1.off + ((page).toNat) * 2)))], [GT.cells k pk, Zc TKept, [slv ((k.known.set ((page).toNat) false)).length q1.known.1, slv (k.slots).length q1.slots.1]]⟩
      replace S := S.cast (σ' := ⟨[(4, .p 1 0), (5, .p 2 0), (27, .v (GT.val ((⟨-1, 0⟩ : TSlot)) ())), (28, .v (pt q1.slots.1.b (q1.slots.1.off + ((page).toNat) * 2)))], [GT.cells k pk, Zc TKept, [slv ((k.known.set ((page).toNat) false)).length q1.known.1, slv ((k.slots.set ((page).toNat) ((⟨-1, 0⟩ : TSlot)))).length q1.slots.1]]⟩) (by rw [show ((k.slots.set ((page).toNat) ((⟨-1, 0⟩ : TSlot)))).length = (k.slots).length by omega])
      refine WD.done (by kernel_rfl) ?_ _
      replace S := S.p [4, 5] 3 ⟨[(4, .p 1 0), (5, .p 2 0)], [GT.cells k pk, Zc TKept, [slv ((k.known.set ((page).toNat) false)).length q1.known.1, slv ((k.slots.set ((page).toNat) ((⟨-1, 0⟩ : TSlot)))).length q1.slots.1]]⟩
      refine id (nx_then (wp_seq (RG.start ?_)))
      refine S.q 2 [4] 2 ⟨[(4, .p 1 0)], [GT.cells k pk, [slv ((k.known.set ((page).toNat) false)).length q1.known.1, slv ((k.slots.set ((page).toNat) ((⟨-1, 0⟩ : TSlot)))).length q1.slots.1]]⟩ .nil ?_; clear S; intro ac w β S
      refine RG.done rfl (nx_then (wp_ret ?_))
      refine S.r [GT.val (⟨(k.known.set ((page).toNat) false), (k.slots.set ((page).toNat) ((⟨-1, 0⟩ : TSlot)))⟩ : TKept) (⟨(q1.known.1, q18), (q1.slots.1, q27)⟩ : PKept)] ?_
      have o33 := ow_Kept (x := (⟨(k.known.set ((page).toNat) false), (k.slots.set ((page).toNat) ((⟨-1, 0⟩ : TSlot)))⟩ : TKept)) (p := (⟨(q1.known.1, q18), (q1.slots.1, q27)⟩ : PKept)) o16 o25 d31 
      exact ret1_of S (show f_forget k page = (⟨(k.known.set ((page).toNat) false), (k.slots.set ((page).toNat) ((⟨-1, 0⟩ : TSlot)))⟩ : TKept) by clear S; (unfold f_forget; (repeat' split) <;> first | rfl | (exfalso; omega) | (exfalso; simp_all; done))) rfl o33
    · have g34 := within_f h14
      refine wp_skip (nx_then (wp_seq (RG.start ?_)))
      refine S.q 2 [4] 2 ⟨[(4, .p 1 0)], [GT.cells k pk, [slv (k.known).length q1.known.1, slv (k.slots).length q1.slots.1]]⟩ .nil ?_; clear S; intro ac w β S
      refine RG.done rfl (nx_then (wp_ret ?_))
      refine S.r [GT.val k q1] ?_
      have o35 := ow_Kept (x := k) (p := q1) o6 o9 d11 
      exact ret1_of S (show f_forget k page = k by clear S; (unfold f_forget; (repeat' split) <;> first | rfl | (exfalso; omega) | (exfalso; simp_all; done))) rfl o35
  · have g36 := within_f h12
    refine S.q 6 [1, 4, 5, 19] 3 ⟨[(1, .v (I page)), (4, .p 1 0), (5, .p 2 0), (19, .v (B false))], [GT.cells k pk, Zc TKept, [slv (k.known).length q1.known.1, slv (k.slots).length q1.slots.1]]⟩ .nil ?_; clear S; intro ac w β S
    refine RG.done rfl (nx_then ?_)
    refine S.c false (fun hx => by cases hx) (fun _ => ?_)
    refine wp_skip (nx_then (wp_seq (RG.start ?_)))
    refine S.q 2 [4] 2 ⟨[(4, .p 1 0)], [GT.cells k pk, [slv (k.known).length q1.known.1, slv (k.slots).length q1.slots.1]]⟩ .nil ?_; clear S; intro ac w β S
    refine RG.done rfl (nx_then (wp_ret ?_))
    refine S.r [GT.val k q1] ?_
    have o37 := ow_Kept (x := k) (p := q1) o6 o9 d11 
    exact ret1_of S (show f_forget k page = k by clear S; (unfold f_forget; (repeat' split) <;> first | rfl | (exfalso; omega) | (exfalso; simp_all; done))) rfl o37

set_option maxRecDepth 100000 in
theorem c_impl_ForgetAll (w0 : World) (k : TKept) (pk : PKept) (hk : GT.rd KK (Lt w0.heap.size) w0 k pk) : Calls Try.prog 78 [GT.val k pk].toArray w0 (Ret1 NoB w0 (f_forgetAll k : TKept)) := by
  refine Calls.walk (args := [GT.val k pk]) NoB Try.func78 rfl rfl ?_
  intro ac β S
  have hlek_known : k.known.length ≤ 4194304 := LRd.le (RKept.known (d := k) hk)
  have hlek_slots : k.slots.length ≤ 4194304 := LRd.le (RKept.slots (d := k) hk)
  refine wp_seq (RG.start ?_)
  refine S.q 2 [1, 2] 2 ⟨[(1, .p 0 0), (2, .p 1 0)], [GT.cells k pk, Zc TKept]⟩ .nil ?_; clear S; intro ac w β S
  refine RG.done rfl (nx_then (wp_seq (RG.start ?_)))
  refine S.q 1 [1, 2, 5] 2 ⟨[(1, .p 0 0), (2, .p 1 0), (5, .v (GT.val k pk))], [GT.cells k pk, Zc TKept]⟩ .nil ?_; clear S; intro ac w β S
  refine RG.op rfl (S.call1 (r := k) (d := 6) (c_impl_copyKept w k pk (S.rd (S.arg hk))) (by kernel_rfl) rfl ?_)
  clear S; intro ac w N q1 F2 S up o3 d4
  clear up d4
  obtain ⟨F5, F8, o6, o9, s7, s10, d11⟩ := sp_Kept o3
  refine S.q 2 [1, 2, 3] 3 ⟨[(1, .p 0 0), (2, .p 1 0), (3, .p 2 0)], [GT.cells k pk, Zc TKept, [slv (k.known).length q1.known.1, slv (k.slots).length q1.slots.1]]⟩ .nil ?_; clear S; intro ac w β S
  refine RG.done rfl (nx_then (wp_seq (wp_seq (RG.start ?_))))
  refine S.q 4 [2, 3, 9, 10] 3 ⟨[(2, .p 1 0), (3, .p 2 0), (9, .v (I ((k.known).length : Int))), (10, .v (I 0))], [GT.cells k pk, Zc TKept, [slv (k.known).length q1.known.1, slv (k.slots).length q1.slots.1]]⟩ .nil ?_; clear S; intro ac w β S
  refine RG.done rfl (nx_then (wp_block ?_))
  replace S := S.p [2, 3, 9, 10] 3 ⟨[(2, .p 1 0), (3, .p 2 0), (9, .v (I ((k.known).length : Int))), (10, .v (I 0))], [GT.cells k pk, Zc TKept, [slv (k.known).length q1.known.1, slv (k.slots).length q1.slots.1]]⟩
  refine wp_loop_down (fun mm ac w => ∃ (i : Nat) (kn : List Bool) (sl : List TSlot) (q12 : GT.Ptr (List Bool)) (F13 : Bl) (q15 : GT.Ptr (List TSlot)) (F16 : Bl) (u : World) (N : Bl) (β : Nat → Nat), mm = k.known.length - i ∧ (i ≤ k.known.length) ∧ ((⟨kn, sl⟩ : TKept) = f_forgetUpto k i) ∧ St Try.prog Try.f78.ntmps w0 NoB u N β ⟨[(2, .p 1 0), (3, .p 2 0), (9, .v (I ((k.known).length : Int))), (10, .v (I (i : Int)))], [GT.cells k pk, Zc TKept, [slv (kn).length q12.1, slv (sl).length q15.1]]⟩ ac w ∧ Ow w0 NoB u N F13 kn q12 ∧ Ow w0 NoB u N F16 sl q15 ∧ Disj F13 F16) _ ⟨0, k.known, k.slots, q1.known, F5, q1.slots, F8, _, _, _, rfl, (by first | omega | (simp; done) | (simp; omega)), (by rfl), S.cast (by kernel_rfl), o6, o9, d11⟩ ?_
  clear S o6 o9
  rintro mm ac w ⟨i, kn, sl, q12, F13, q15, F16, u, N, β, rfl, hi, hf, S, o14, o17, d18⟩
  have hfl := forgetUpto_len k i; rw [← hf] at hfl; simp only at hfl
  refine wp_seq (RG.start ?_)
  refine S.q 1 [2, 3, 9, 10, 11] 3 ⟨[(2, .p 1 0), (3, .p 2 0), (9, .v (I ((k.known).length : Int))), (10, .v (I (i : Int))), (11, .v (B (decide ((i : Int) < ((k.known).length : Int)))))], [GT.cells k pk, Zc TKept, [slv (kn).length q12.1, slv (sl).length q15.1]]⟩ .nil ?_; clear S; intro ac w β S
  refine RG.done rfl (nx_then (wp_seq ?_))
  refine S.c (decide ((i : Int) < ((k.known).length : Int))) (fun h19 => ?_) (fun h19 => ?_)
  · have g20 : (i : Int) < ((k.known).length : Int) := of_decide_eq_true h19
    refine wp_skip (nx_then (wp_seq (wp_block (wp_seq (RG.start ?_)))))
    refine S.q 2 [2, 3, 4, 9, 10] 3 ⟨[(2, .p 1 0), (3, .p 2 0), (4, .v (I (i : Int))), (9, .v (I ((k.known).length : Int))), (10, .v (I (i : Int)))], [GT.cells k pk, Zc TKept, [slv (kn).length q12.1, slv (sl).length q15.1]]⟩ .nil ?_; clear S; intro ac w β S
    refine RG.done rfl (nx_then (RG.start ?_))
    refine S.q 2 [2, 3, 9, 10, 13, 14] 3 ⟨[(2, .p 1 0), (3, .p 2 0), (9, .v (I ((k.known).length : Int))), (10, .v (I (i : Int))), (13, .v (GT.val (⟨kn, sl⟩ : TKept) (⟨q12, q15⟩ : PKept))), (14, .v (I (i : Int)))], [GT.cells k pk, Zc TKept, [slv (kn).length q12.1, slv (sl).length q15.1]]⟩ .nil ?_; clear S; intro ac w β S
    refine RG.op rfl (S.call1 (r := f_forget (⟨kn, sl⟩ : TKept) (i : Int)) (d := 15) (c_impl_Forget w (⟨kn, sl⟩ : TKept) (⟨q12, q15⟩ : PKept) (S.rd (show GT.rd KK _ _ (⟨kn, sl⟩ : TKept) (⟨q12, q15⟩ : PKept) from ⟨o14.rn, o17.rn⟩)) (i : Int)) (by kernel_rfl) rfl ?_)
    clear S; intro ac w N q21 F22 S up o23 d24
    have d25 : Disj F13 F22 := fun b x y => d24 b (o14.sub b x) y
    have d26 : Disj F16 F22 := fun b x y => d24 b (o17.sub b x) y
    replace o14 := o14.up up
    replace o17 := o17.up up
    clear up d24
    obtain ⟨F27, F30, o28, o31, s29, s32, d33⟩ := sp_Kept o23
    refine S.q 1 [2, 3, 9, 10] 3 ⟨[(2, .p 1 0), (3, .p 2 0), (9, .v (I ((k.known).length : Int))), (10, .v (I (i : Int)))], [GT.cells k pk, Zc TKept, [slv ((f_forget (⟨kn, sl⟩ : TKept) (i : Int)).known).length q21.known.1, slv ((f_forget (⟨kn, sl⟩ : TKept) (i : Int)).slots).length q21.slots.1]]⟩ .nil ?_; clear S; intro ac w β S
    refine RG.done rfl (nx_block (nx_then (RG.start ?_)))
    refine S.q 2 [2, 3, 9, 10] 3 ⟨[(2, .p 1 0), (3, .p 2 0), (9, .v (I ((k.known).length : Int))), (10, .v (I ((i : Int) + 1)))], [GT.cells k pk, Zc TKept, [slv ((f_forget (⟨kn, sl⟩ : TKept) (i : Int)).known).length q21.known.1, slv ((f_forget (⟨kn, sl⟩ : TKept) (i : Int)).slots).length q21.slots.1]]⟩ (.cons (Q_add (x := (i : Int)) (y := 1) ⟨by omega, by omega⟩) .nil) ?_; clear S; intro ac w β S
    refine RG.done rfl (nx_then ?_)
    replace S := S.p [2, 3, 9, 10] 3 ⟨[(2, .p 1 0), (3, .p 2 0), (9, .v (I ((k.known).length : Int))), (10, .v (I ((i : Int) + 1)))], [GT.cells k pk, Zc TKept, [slv ((f_forget (⟨kn, sl⟩ : TKept) (i : Int)).known).length q21.known.1, slv ((f_forget (⟨kn, sl⟩ : TKept) (i : Int)).slots).length q21.slots.1]]⟩
    refine ⟨k.known.length - (i + 1), by omega, i + 1, (f_forget (⟨kn, sl⟩ : TKept) (i : Int)).known, (f_forget (⟨kn, sl⟩ : TKept) (i : Int)).slots, q21.known, F27, q21.slots, F30, _, _, _, rfl, ?_, ?_, S.cast (by kernel_rfl), o28, o31, d33⟩
    · clear S; first | omega | (simp [*]; done) | (simp [*]; omega)
    · clear S; (rw [forgetUpto_step, ← hf])
  · have g34 : ¬ ((i : Int) < ((k.known).length : Int)) := of_decide_eq_false h19
    refine wp_exit (ex_then (ex_then (ex_hit (nx_then (wp_seq (RG.start ?_))))))
    refine S.q 2 [2] 2 ⟨[(2, .p 1 0)], [GT.cells k pk, [slv (kn).length q12.1, slv (sl).length q15.1]]⟩ .nil ?_; clear S; intro ac w β S
    refine RG.done rfl (nx_then (wp_ret ?_))
    refine S.r [GT.val (⟨kn, sl⟩ : TKept) (⟨q12, q15⟩ : PKept)] ?_
    have o35 := ow_Kept (x := (⟨kn, sl⟩ : TKept)) (p := (⟨q12, q15⟩ : PKept)) o14 o17 d18 
    exact ret1_of S (show f_forgetAll k = (⟨kn, sl⟩ : TKept) by clear S; (unfold f_forgetAll; rw [show k.known.length = i by omega, ← hf])) rfl o35

set_option maxRecDepth 100000 in
theorem c_impl_Cold (w0 : World) (h : THost) (ph : PHost) (hh : GT.rd KK (Lt w0.heap.size) w0 h ph) : Calls Try.prog 29 [GT.val h ph].toArray w0 (Ret1 NoB w0 (f_cold h : THost)) := by
  refine Calls.walk (args := [GT.val h ph]) NoB Try.func29 rfl rfl ?_
  intro ac β S
  have hleh_mem : h.mem.length ≤ 4194304 := LRd.le (RHost.mem (d := h) hh)
  have hleh_mons : h.mons.length ≤ 4194304 := LRd.le (RHost.mons (d := h) hh)
  have hleh_buf : h.buf.length ≤ 4194304 := LRd.le (RHost.buf (d := h) hh)
  have hleh_iobuf : h.iobuf.length ≤ 4194304 := LRd.le (RHost.iobuf (d := h) hh)
  refine wp_seq (RG.start ?_)
  refine S.q 2 [1, 2] 2 ⟨[(1, .p 0 0), (2, .p 1 0)], [GT.cells h ph, Zc THost]⟩ .nil ?_; clear S; intro ac w β S
  refine RG.done rfl (nx_then (wp_seq (RG.start ?_)))
  refine S.q 1 [2, 7] 2 ⟨[(2, .p 1 0), (7, .v (GT.val h ph))], [GT.cells h ph, Zc THost]⟩ .nil ?_; clear S; intro ac w β S
  refine RG.op rfl (S.call1 (r := h) (d := 8) (c_impl_copyHost w h ph (S.rd (S.arg hh))) (by kernel_rfl) rfl ?_)
  clear S; intro ac w N q1 F2 S up o3 d4
  clear up d4
  obtain ⟨F5, F8, F11, F14, o6, o9, o12, o15, s7, s10, s13, s16, d17, d18, d19, d20, d21, d22⟩ := sp_Host o3
  refine S.q 2 [2, 3] 3 ⟨[(2, .p 1 0), (3, .p 2 0)], [GT.cells h ph, Zc THost, [slv (h.mem).length q1.mem.1, slv (h.mons).length q1.mons.1, slv (h.buf).length q1.buf.1, slv (h.iobuf).length q1.iobuf.1]]⟩ .nil ?_; clear S; intro ac w β S
  refine RG.done rfl (nx_then (wp_seq (wp_seq (RG.start ?_))))
  refine S.q 4 [2, 3, 11, 12] 3 ⟨[(2, .p 1 0), (3, .p 2 0), (11, .v (I ((h.mons).length : Int))), (12, .v (I 0))], [GT.cells h ph, Zc THost, [slv (h.mem).length q1.mem.1, slv (h.mons).length q1.mons.1, slv (h.buf).length q1.buf.1, slv (h.iobuf).length q1.iobuf.1]]⟩ .nil ?_; clear S; intro ac w β S
  refine RG.done rfl (nx_then (wp_block ?_))
  replace S := S.p [2, 3, 11, 12] 3 ⟨[(2, .p 1 0), (3, .p 2 0), (11, .v (I ((h.mons).length : Int))), (12, .v (I 0))], [GT.cells h ph, Zc THost, [slv (h.mem).length q1.mem.1, slv (h.mons).length q1.mons.1, slv (h.buf).length q1.buf.1, slv (h.iobuf).length q1.iobuf.1]]⟩
  refine wp_loop_down (fun mm ac w => ∃ (i : Nat) (ms : List TMon) (q23 : GT.Ptr (List TMon)) (F24 : Bl) (u : World) (N : Bl) (β : Nat → Nat), mm = h.mons.length - i ∧ (i ≤ h.mons.length) ∧ (ms.length = h.mons.length) ∧ (ms.take i = (h.mons.take i).map f_coldMon) ∧ (ms.drop i = h.mons.drop i) ∧ St Try.prog Try.f29.ntmps w0 NoB u N β ⟨[(2, .p 1 0), (3, .p 2 0), (11, .v (I ((h.mons).length : Int))), (12, .v (I (i : Int)))], [GT.cells h ph, Zc THost, [slv (h.mem).length q1.mem.1, slv (ms).length q23.1, slv (h.buf).length q1.buf.1, slv (h.iobuf).length q1.iobuf.1]]⟩ ac w ∧ Ow w0 NoB u N F24 ms q23 ∧ Ow w0 NoB u N F5 h.mem q1.mem ∧ Ow w0 NoB u N F11 h.buf q1.buf ∧ Ow w0 NoB u N F14 h.iobuf q1.iobuf ∧ Disj F24 F5 ∧ Disj F24 F11 ∧ Disj F24 F14) _ ⟨0, h.mons, q1.mons, F8, _, _, _, rfl, (by first | omega | (simp; done) | (simp; omega)), (by rfl), (by rfl), (by rfl), S.cast (by kernel_rfl), o9, o6, o12, o15, (Disj.symm d17), d20, d21⟩ ?_
  clear S o12 o15 o6 o9
  rintro mm ac w ⟨i, ms, q23, F24, u, N, β, rfl, hi, hl, hT, hD, S, o25, o6, o12, o15, d26, d27, d28⟩
  have hel := el_of_drop hD
  refine wp_seq (RG.start ?_)
  refine S.q 1 [2, 3, 11, 12, 13] 3 ⟨[(2, .p 1 0), (3, .p 2 0), (11, .v (I ((h.mons).length : Int))), (12, .v (I (i : Int))), (13, .v (B (decide ((i : Int) < ((h.mons).length : Int)))))], [GT.cells h ph, Zc THost, [slv (h.mem).length q1.mem.1, slv (ms).length q23.1, slv (h.buf).length q1.buf.1, slv (h.iobuf).length q1.iobuf.1]]⟩ .nil ?_; clear S; intro ac w β S
  refine RG.done rfl (nx_then (wp_seq ?_))
  refine S.c (decide ((i : Int) < ((h.mons).length : Int))) (fun h29 => ?_) (fun h29 => ?_)
  · have g30 : (i : Int) < ((h.mons).length : Int) := of_decide_eq_true h29
    refine wp_skip (nx_then (wp_seq (wp_block (wp_seq (RG.start ?_)))))
    refine S.q 2 [2, 3, 4, 11, 12] 3 ⟨[(2, .p 1 0), (3, .p 2 0), (4, .v (I (i : Int))), (11, .v (I ((h.mons).length : Int))), (12, .v (I (i : Int)))], [GT.cells h ph, Zc THost, [slv (h.mem).length q1.mem.1, slv (ms).length q23.1, slv (h.buf).length q1.buf.1, slv (h.iobuf).length q1.iobuf.1]]⟩ .nil ?_; clear S; intro ac w β S
    refine RG.done rfl (nx_then (wp_seq (RG.start ?_)))
    have b31 : ((el ms i).tables).length ≤ 4194304 := LRd.le (RMon.tables (d := (el ms i)) (LRd.el o25.rn i (by omega)))
    refine S.q 8 [2, 3, 4, 11, 12, 20, 21, 22] 3 ⟨[(2, .p 1 0), (3, .p 2 0), (4, .v (I (i : Int))), (11, .v (I ((h.mons).length : Int))), (12, .v (I (i : Int))), (20, .v (slv ((el ms i).tables).length ((q23.2 i).tables).1)), (21, .v (I (((el ms i).tables).length : Int))), (22, .v (I 0))], [GT.cells h ph, Zc THost, [slv (h.mem).length q1.mem.1, slv (ms).length q23.1, slv (h.buf).length q1.buf.1, slv (h.iobuf).length q1.iobuf.1]]⟩ (.cons (Q_idx o25.rn (l := (ms).length) (k := i) (i := (i : Int)) rfl rfl (by omega) Try.underlying36 (by kernel_rfl)) (.cons (Q_cell o25.rn (t := 44) (k := i) (j := 7) (v := slv ((el ms i).tables).length ((q23.2 i).tables).1) (by omega) (by kernel_rfl) (by kernel_rfl)) .nil)) ?_; clear S; intro ac w β S
    refine RG.done rfl (nx_then (wp_block ?_))
    replace S := S.p [2, 3, 4, 11, 12, 20, 21, 22] 3 ⟨[(2, .p 1 0), (3, .p 2 0), (4, .v (I (i : Int))), (11, .v (I ((h.mons).length : Int))), (12, .v (I (i : Int))), (20, .v (slv ((el ms i).tables).length ((q23.2 i).tables).1)), (21, .v (I (((el ms i).tables).length : Int))), (22, .v (I 0))], [GT.cells h ph, Zc THost, [slv (h.mem).length q1.mem.1, slv (ms).length q23.1, slv (h.buf).length q1.buf.1, slv (h.iobuf).length q1.iobuf.1]]⟩
    refine wp_loop_down (fun mm ac w => ∃ (g : Nat) (ms2 : List TMon) (tb : List TKept) (q32 : GT.Ptr (List TMon)) (F33 : Bl) (u : World) (N : Bl) (β : Nat → Nat), mm = (el h.mons i).tables.length - g ∧ (g ≤ (el h.mons i).tables.length) ∧ (ms2 = ms.set i { el ms i with tables := tb }) ∧ (tb.length = (el h.mons i).tables.length) ∧ (tb.take g = ((el h.mons i).tables.take g).map f_forgetAll) ∧ (tb.drop g = (el h.mons i).tables.drop g) ∧ St Try.prog Try.f29.ntmps w0 NoB u N β ⟨[(2, .p 1 0), (3, .p 2 0), (4, .v (I (i : Int))), (11, .v (I ((h.mons).length : Int))), (12, .v (I (i : Int))), (20, .v (slv ((el ms2 i).tables).length ((q32.2 i).tables).1)), (21, .v (I (((el ms i).tables).length : Int))), (22, .v (I (g : Int)))], [GT.cells h ph, Zc THost, [slv (h.mem).length q1.mem.1, slv (ms2).length q32.1, slv (h.buf).length q1.buf.1, slv (h.iobuf).length q1.iobuf.1]]⟩ ac w ∧ Ow w0 NoB u N F33 ms2 q32 ∧ Ow w0 NoB u N F5 h.mem q1.mem ∧ Ow w0 NoB u N F11 h.buf q1.buf ∧ Ow w0 NoB u N F14 h.iobuf q1.iobuf ∧ Disj F33 F5 ∧ Disj F33 F11 ∧ Disj F33 F14) _ ⟨0, ms, (el ms i).tables, q23, F24, _, _, _, rfl, (by omega), (by exact (set_self_el (by omega)).symm), (by rw [hel]), (by rfl), (by rw [hel]), S.cast (by kernel_rfl), o25, o6, o12, o15, d26, d27, d28⟩ ?_
    clear S o12 o15 o25 o6
    rintro mm ac w ⟨g, ms2, tb, q32, F33, u, N, β, rfl, hg, hm2, htl, htT, htD, S, o34, o6, o12, o15, d35, d36, d37⟩
    have hl2 : (el h.mons i).tables.length ≤ 4194304 := LRd.le (RMon.tables (d := el h.mons i) (LRd.el (RHost.mons (d := h) hh) i (by omega)))
    have hem : el ms2 i = { el ms i with tables := tb } := by rw [hm2]; exact el_set_self (by omega)
    have hml : ms2.length = h.mons.length := by rw [hm2, List.length_set]; exact hl
    have hen : (el ms2 i).tables.length = (el h.mons i).tables.length := by rw [hem]; exact htl
    have hen1 : (el ms i).tables.length = (el h.mons i).tables.length := by rw [hel]
    refine wp_seq (RG.start ?_)
    refine S.q 1 [2, 3, 4, 11, 12, 20, 21, 22, 23] 3 ⟨[(2, .p 1 0), (3, .p 2 0), (4, .v (I (i : Int))), (11, .v (I ((h.mons).length : Int))), (12, .v (I (i : Int))), (20, .v (slv ((el ms2 i).tables).length ((q32.2 i).tables).1)), (21, .v (I (((el ms i).tables).length : Int))), (22, .v (I (g : Int))), (23, .v (B (decide ((g : Int) < (((el ms i).tables).length : Int)))))], [GT.cells h ph, Zc THost, [slv (h.mem).length q1.mem.1, slv (ms2).length q32.1, slv (h.buf).length q1.buf.1, slv (h.iobuf).length q1.iobuf.1]]⟩ .nil ?_; clear S; intro ac w β S
    refine RG.done rfl (nx_then (wp_seq ?_))
    refine S.c (decide ((g : Int) < (((el ms i).tables).length : Int))) (fun h38 => ?_) (fun h38 => ?_)
    · have g39 : (g : Int) < (((el ms i).tables).length : Int) := of_decide_eq_true h38
      refine wp_skip (nx_then (wp_seq (wp_block (wp_seq (RG.start ?_)))))
      refine S.q 6 [2, 3, 4, 5, 6, 11, 12, 20, 21, 22] 4 ⟨[(2, .p 1 0), (3, .p 2 0), (4, .v (I (i : Int))), (5, .v (I (g : Int))), (6, .p 3 0), (11, .v (I ((h.mons).length : Int))), (12, .v (I (i : Int))), (20, .v (slv ((el ms2 i).tables).length ((q32.2 i).tables).1)), (21, .v (I (((el ms i).tables).length : Int))), (22, .v (I (g : Int)))], [GT.cells h ph, Zc THost, [slv (h.mem).length q1.mem.1, slv (ms2).length q32.1, slv (h.buf).length q1.buf.1, slv (h.iobuf).length q1.iobuf.1], GT.cells (el ((el ms2 i).tables) g) (((q32.2 i).tables).2 g)]⟩ (.cons (Q_idx (RMon.tables (d := (el ms2 i)) (LRd.el o34.rn i (by omega))) (l := ((el ms2 i).tables).length) (k := g) (i := (g : Int)) rfl rfl (by omega) Try.underlying44 (by kernel_rfl)) (.cons (Q_el (RMon.tables (d := (el ms2 i)) (LRd.el o34.rn i (by omega))) (t := 101) (k := g) (by omega) rfl (by kernel_rfl) (by kernel_rfl)) .nil)) ?_; clear S; intro ac w β S
      refine RG.done rfl (nx_then ?_)
      refine S.draw0 (f := 11) 10 rfl rfl ?_
      clear S; intro w S
      refine S.hoist (i := 0) (path := [0]) (keep := [2, 3, 4, 5, 6, 11, 12, 20, 21, 22, 27]) (m := 4) (σ' := ⟨[(2, .p 1 0), (3, .p 2 0), (4, .v (I (i : Int))), (5, .v (I (g : Int))), (6, .p 3 0), (11, .v (I ((h.mons).length : Int))), (12, .v (I (i : Int))), (20, .v (slv ((el ms2 i).tables).length ((q32.2 i).tables).1)), (21, .v (I (((el ms i).tables).length : Int))), (22, .v (I (g : Int))), (27, .p 2 1)], [GT.cells h ph, Zc THost, [slv (h.mem).length q1.mem.1, slv (ms2).length q32.1, slv (h.buf).length q1.buf.1, slv (h.iobuf).length q1.iobuf.1], GT.cells (el ((el ms2 i).tables) g) (((q32.2 i).tables).2 g)]⟩) (by kernel_rfl) (by kernel_rfl) .nil (by kernel_rfl) ?_
      clear S; intro ac S
      refine S.hoist (i := 1) (path := [1]) (keep := [2, 3, 4, 5, 6, 11, 12, 20, 21, 22, 28]) (m := 4) (σ' := ⟨[(2, .p 1 0), (3, .p 2 0), (4, .v (I (i : Int))), (5, .v (I (g : Int))), (6, .p 3 0), (11, .v (I ((h.mons).length : Int))), (12, .v (I (i : Int))), (20, .v (slv ((el ms2 i).tables).length ((q32.2 i).tables).1)), (21, .v (I (((el ms i).tables).length : Int))), (22, .v (I (g : Int))), (28, .v (slv (ms2).length q32.1))], [GT.cells h ph, Zc THost, [slv (h.mem).length q1.mem.1, slv (ms2).length q32.1, slv (h.buf).length q1.buf.1, slv (h.iobuf).length q1.iobuf.1], GT.cells (el ((el ms2 i).tables) g) (((q32.2 i).tables).2 g)]⟩) (by kernel_rfl) (by kernel_rfl) .nil (by kernel_rfl) ?_
      clear S; intro ac S
      refine S.hoist (i := 2) (path := [2]) (keep := [2, 3, 4, 5, 6, 11, 12, 20, 21, 22, 28, 29]) (m := 4) (σ' := ⟨[(2, .p 1 0), (3, .p 2 0), (4, .v (I (i : Int))), (5, .v (I (g : Int))), (6, .p 3 0), (11, .v (I ((h.mons).length : Int))), (12, .v (I (i : Int))), (20, .v (slv ((el ms2 i).tables).length ((q32.2 i).tables).1)), (21, .v (I (((el ms i).tables).length : Int))), (22, .v (I (g : Int))), (28, .v (slv (ms2).length q32.1)), (29, .v (I (i : Int)))], [GT.cells h ph, Zc THost, [slv (h.mem).length q1.mem.1, slv (ms2).length q32.1, slv (h.buf).length q1.buf.1, slv (h.iobuf).length q1.iobuf.1], GT.cells (el ((el ms2 i).tables) g) (((q32.2 i).tables).2 g)]⟩) (by kernel_rfl) (by kernel_rfl) .nil (by kernel_rfl) ?_
      clear S; intro ac S
      refine S.hoist (i := 3) (path := [3]) (keep := [2, 3, 4, 5, 6, 11, 12, 20, 21, 22, 30]) (m := 4) (σ' := ⟨[(2, .p 1 0), (3, .p 2 0), (4, .v (I (i : Int))), (5, .v (I (g : Int))), (6, .p 3 0), (11, .v (I ((h.mons).length : Int))), (12, .v (I (i : Int))), (20, .v (slv ((el ms2 i).tables).length ((q32.2 i).tables).1)), (21, .v (I (((el ms i).tables).length : Int))), (22, .v (I (g : Int))), (30, .v (pt q32.1.b (q32.1.off + i * 9)))], [GT.cells h ph, Zc THost, [slv (h.mem).length q1.mem.1, slv (ms2).length q32.1, slv (h.buf).length q1.buf.1, slv (h.iobuf).length q1.iobuf.1], GT.cells (el ((el ms2 i).tables) g) (((q32.2 i).tables).2 g)]⟩) (by kernel_rfl) (by kernel_rfl) (.cons (Q_idx o34.rn (l := (ms2).length) (k := i) (i := (i : Int)) rfl rfl (by omega) Try.underlying36 (by kernel_rfl)) .nil) (by kernel_rfl) ?_
      clear S; intro ac S
      refine S.hoist (i := 4) (path := [4]) (keep := [2, 3, 4, 5, 6, 11, 12, 20, 21, 22, 31]) (m := 4) (σ' := ⟨[(2, .p 1 0), (3, .p 2 0), (4, .v (I (i : Int))), (5, .v (I (g : Int))), (6, .p 3 0), (11, .v (I ((h.mons).length : Int))), (12, .v (I (i : Int))), (20, .v (slv ((el ms2 i).tables).length ((q32.2 i).tables).1)), (21, .v (I (((el ms i).tables).length : Int))), (22, .v (I (g : Int))), (31, .v (pt q32.1.b (q32.1.off + i * 9 + 7)))], [GT.cells h ph, Zc THost, [slv (h.mem).length q1.mem.1, slv (ms2).length q32.1, slv (h.buf).length q1.buf.1, slv (h.iobuf).length q1.iobuf.1], GT.cells (el ((el ms2 i).tables) g) (((q32.2 i).tables).2 g)]⟩) (by kernel_rfl) (by kernel_rfl) .nil (by kernel_rfl) ?_
      clear S; intro ac S
      refine S.hoist (i := 5) (path := [5]) (keep := [2, 3, 4, 5, 6, 11, 12, 20, 21, 22, 32]) (m := 4) (σ' := ⟨[(2, .p 1 0), (3, .p 2 0), (4, .v (I (i : Int))), (5, .v (I (g : Int))), (6, .p 3 0), (11, .v (I ((h.mons).length : Int))), (12, .v (I (i : Int))), (20, .v (slv ((el ms2 i).tables).length ((q32.2 i).tables).1)), (21, .v (I (((el ms i).tables).length : Int))), (22, .v (I (g : Int))), (32, .v (slv ((el ms2 i).tables).length ((q32.2 i).tables).1))], [GT.cells h ph, Zc THost, [slv (h.mem).length q1.mem.1, slv (ms2).length q32.1, slv (h.buf).length q1.buf.1, slv (h.iobuf).length q1.iobuf.1], GT.cells (el ((el ms2 i).tables) g) (((q32.2 i).tables).2 g)]⟩) (by kernel_rfl) (by kernel_rfl) (.cons (Q_cell o34.rn (t := 44) (k := i) (j := 7) (v := slv ((el ms2 i).tables).length ((q32.2 i).tables).1) (by omega) (by kernel_rfl) (by kernel_rfl)) .nil) (by kernel_rfl) ?_
      clear S; intro ac S
      refine S.hoist (i := 6) (path := [6]) (keep := [2, 3, 4, 6, 11, 12, 20, 21, 22, 32, 33]) (m := 4) (σ' := ⟨[(2, .p 1 0), (3, .p 2 0), (4, .v (I (i : Int))), (6, .p 3 0), (11, .v (I ((h.mons).length : Int))), (12, .v (I (i : Int))), (20, .v (slv ((el ms2 i).tables).length ((q32.2 i).tables).1)), (21, .v (I (((el ms i).tables).length : Int))), (22, .v (I (g : Int))), (32, .v (slv ((el ms2 i).tables).length ((q32.2 i).tables).1)), (33, .v (I (g : Int)))], [GT.cells h ph, Zc THost, [slv (h.mem).length q1.mem.1, slv (ms2).length q32.1, slv (h.buf).length q1.buf.1, slv (h.iobuf).length q1.iobuf.1], GT.cells (el ((el ms2 i).tables) g) (((q32.2 i).tables).2 g)]⟩) (by kernel_rfl) (by kernel_rfl) .nil (by kernel_rfl) ?_
      clear S; intro ac S
      refine S.hoist (i := 7) (path := [7]) (keep := [2, 3, 4, 11, 12, 20, 21, 22, 32, 33, 34]) (m := 4) (σ' := ⟨[(2, .p 1 0), (3, .p 2 0), (4, .v (I (i : Int))), (11, .v (I ((h.mons).length : Int))), (12, .v (I (i : Int))), (20, .v (slv ((el ms2 i).tables).length ((q32.2 i).tables).1)), (21, .v (I (((el ms i).tables).length : Int))), (22, .v (I (g : Int))), (32, .v (slv ((el ms2 i).tables).length ((q32.2 i).tables).1)), (33, .v (I (g : Int))), (34, .v (GT.val (el ((el ms2 i).tables) g) (((q32.2 i).tables).2 g)))], [GT.cells h ph, Zc THost, [slv (h.mem).length q1.mem.1, slv (ms2).length q32.1, slv (h.buf).length q1.buf.1, slv (h.iobuf).length q1.iobuf.1], GT.cells (el ((el ms2 i).tables) g) (((q32.2 i).tables).2 g)]⟩) (by kernel_rfl) (by kernel_rfl) .nil (by kernel_rfl) ?_
      clear S; intro ac S
      refine WD.one (i := 8) (by kernel_rfl) ?_
      refine id (S.call1 (r := f_forgetAll (el ((el ms2 i).tables) g)) (d := 35) (c_impl_ForgetAll w (el ((el ms2 i).tables) g) (((q32.2 i).tables).2 g) (S.rd (LRd.el (RMon.tables (d := (el ms2 i)) (LRd.el o34.rn i (by omega))) g (by omega)))) (by kernel_rfl) rfl ?_)
      clear S; intro ac w N q40 F41 S up o42 d43
      refine WD.next S up rfl ?_
      have d44 : Disj F33 F41 := fun b x y => d43 b (o34.sub b x) y
      have d45 : Disj F5 F41 := fun b x y => d43 b (o6.sub b x) y
      have d46 : Disj F11 F41 := fun b x y => d43 b (o12.sub b x) y
      have d47 : Disj F14 F41 := fun b x y => d43 b (o15.sub b x) y
      replace o34 := o34.up up
      replace o6 := o6.up up
      replace o12 := o12.up up
      replace o15 := o15.up up
      clear up d43
      obtain ⟨F48, F51, o49, o52, s50, s53, d54⟩ := sp_Kept o42
      refine S.hoist (i := 9) (path := [9]) (keep := [2, 3, 4, 11, 12, 20, 21, 22, 35, 36]) (m := 4) (σ' := ⟨[(2, .p 1 0), (3, .p 2 0), (4, .v (I (i : Int))), (11, .v (I ((h.mons).length : Int))), (12, .v (I (i : Int))), (20, .v (slv ((el ms2 i).tables).length ((q32.2 i).tables).1)), (21, .v (I (((el ms i).tables).length : Int))), (22, .v (I (g : Int))), (35, .v (GT.val (f_forgetAll (el ((el ms2 i).tables) g)) q40)), (36, .v (pt ((q32.2 i).tables).1.b (((q32.2 i).tables).1.off + g * 2)))], [GT.cells h ph, Zc THost, [slv (h.mem).length q1.mem.1, slv (ms2).length q32.1, slv (h.buf).length q1.buf.1, slv (h.iobuf).length q1.iobuf.1], GT.cells (el ((el ms2 i).tables) g) (((q32.2 i).tables).2 g)]⟩) (by kernel_rfl) (by kernel_rfl) (.cons (Q_idx (RMon.tables (d := (el ms2 i)) (LRd.el o34.rn i (by omega))) (l := ((el ms2 i).tables).length) (k := g) (i := (g : Int)) rfl rfl (by omega) Try.underlying44 (by kernel_rfl)) .nil) (by kernel_rfl) ?_
      clear S; intro ac S
      refine WD.one (i := 10) (by kernel_rfl) ?_
      obtain ⟨F55, o56, s57, b58⟩ := foc2_Mon_tables o34 (k := i) (show i < (ms2).length by omega)
      have l59 := LRd.le o56.rn
      have n60 := o56.sub
      have o65 := ow_Kept (x := (f_forgetAll (el ((el ms2 i).tables) g))) (p := q40) o49 o52 d54 
      refine id (S.setEl (α := TKept) o56 (t := 101) (v := GT.val (f_forgetAll (el ((el ms2 i).tables) g)) q40) (k := g) (j := 0) (off := ((q32.2 i).tables).1.off + g * 2) (y := (f_forgetAll (el ((el ms2 i).tables) g))) (q := q40) (Fy := (uniB [F48, F51])) (by kernel_rfl) (by kernel_rfl) (by omega) (by kernel_rfl) (by kernel_rfl) (Nat.le_of_ble_eq_true (by kernel_rfl)) (by kernel_rfl) (fun _ _ _ => ⟨(uniB [F48, F51]), o65.own, fun _ h => .inr h⟩) (Disj.symm (Disj.or (Disj.symm (Disj.part (Disj.symm (Disj.part (Disj.symm d44) s50)) s57)) (Disj.or (Disj.symm (Disj.part (Disj.symm (Disj.part (Disj.symm d44) s53)) s57)) Disj.nob))) o65.sub o65.young ?_)
      clear S; intro w N F62 q63 S up o61 d64 s66 n67
      refine WD.last (by kernel_rfl) ?_
      have d68 : Disj F5 F62 := d64 _ (Disj.symm (Disj.part d35 s57)) (Disj.symm (Disj.or (Disj.part (Disj.symm d45) s50) (Disj.or (Disj.part (Disj.symm d45) s53) Disj.nob))) o6.sub
      have d69 : Disj F11 F62 := d64 _ (Disj.symm (Disj.part d36 s57)) (Disj.symm (Disj.or (Disj.part (Disj.symm d46) s50) (Disj.or (Disj.part (Disj.symm d46) s53) Disj.nob))) o12.sub
      have d70 : Disj F14 F62 := d64 _ (Disj.symm (Disj.part d37 s57)) (Disj.symm (Disj.or (Disj.part (Disj.symm d47) s50) (Disj.or (Disj.part (Disj.symm d47) s53) Disj.nob))) o15.sub
      replace o6 := o6.upF (Disj.symm (Disj.part d35 s57)) up
      replace o12 := o12.upF (Disj.symm (Disj.part d36 s57)) up
      replace o15 := o15.upF (Disj.symm (Disj.part d37 s57)) up
      clear d64 o56
      obtain ⟨p71, o72, c73⟩ := b58 _ _ _ _ _ (uniB [F48, F51]) up o61 s66 (Disj.symm (Disj.or (Disj.part (Disj.symm d44) s50) (Disj.or (Disj.part (Disj.symm d44) s53) Disj.nob))) (by show [slv _ _] = [slv _ _]; rw [List.length_set]) (fun b h => n67 b (n60 b h))
      clear up o61 n67
      have l74 : ((ms2).set i ({ el ms2 i with tables := (((el ms2 i).tables).set g (f_forgetAll (el ((el ms2 i).tables) g))) })).length = (ms2).length := List.length_set
      replace S := S.p [2, 3, 4, 11, 12, 20, 21, 22, 35, 36] 4 ⟨[(2, .p 1 0), (3, .p 2 0), (4, .v (I (i : Int))), (11, .v (I ((h.mons).length : Int))), (12, .v (I (i : Int))), (20, .v (slv ((el ms2 i).tables).length ((q32.2 i).tables).1)), (21, .v (I (((el ms i).tables).length : Int))), (22, .v (I (g : Int))), (35, .v (GT.val (f_forgetAll (el ((el ms2 i).tables) g)) q40)), (36, .v (pt ((q32.2 i).tables).1.b (((q32.2 i).tables).1.off + g * 2)))], [GT.cells h ph, Zc THost, [slv (h.mem).length q1.mem.1, slv (ms2).length q32.1, slv (h.buf).length q1.buf.1, slv (h.iobuf).length q1.iobuf.1], GT.cells (el ((el ms2 i).tables) g) (((q32.2 i).tables).2 g)]⟩
      replace S := S.cast (σ' := ⟨[(2, .p 1 0), (3, .p 2 0), (4, .v (I (i : Int))), (11, .v (I ((h.mons).length : Int))), (12, .v (I (i : Int))), (20, .v (slv ((el ms2 i).tables).length ((q32.2 i).tables).1)), (21, .v (I (((el ms i).tables).length : Int))), (22, .v (I (g : Int))), (35, .v (GT.val (f_forgetAll (el ((el ms2 i).tables) g)) q40)), (36, .v (pt ((q32.2 i).tables).1.b (((q32.2 i).tables).1.off + g * 2)))], [GT.cells h ph, Zc THost, [slv (h.mem).length q1.mem.1, slv (((ms2).set i ({ el ms2 i with tables := (((el ms2 i).tables).set g (f_forgetAll (el ((el ms2 i).tables) g))) }))).length q32.1, slv (h.buf).length q1.buf.1, slv (h.iobuf).length q1.iobuf.1], GT.cells (el ((el ms2 i).tables) g) (((q32.2 i).tables).2 g)]⟩) (by rw [show (((ms2).set i ({ el ms2 i with tables := (((el ms2 i).tables).set g (f_forgetAll (el ((el ms2 i).tables) g))) }))).length = (ms2).length by omega])
      replace S := S.p [2, 3, 4, 11, 12, 20, 21, 22, 35, 36] 4 ⟨[(2, .p 1 0), (3, .p 2 0), (4, .v (I (i : Int))), (11, .v (I ((h.mons).length : Int))), (12, .v (I (i : Int))), (20, .v (slv ((el ms2 i).tables).length ((q32.2 i).tables).1)), (21, .v (I (((el ms i).tables).length : Int))), (22, .v (I (g : Int))), (35, .v (GT.val (f_forgetAll (el ((el ms2 i).tables) g)) q40)), (36, .v (pt ((q32.2 i).tables).1.b (((q32.2 i).tables).1.off + g * 2)))], [GT.cells h ph, Zc THost, [slv (h.mem).length q1.mem.1, slv (((ms2).set i ({ el ms2 i with tables := (((el ms2 i).tables).set g (f_forgetAll (el ((el ms2 i).tables) g))) }))).length q32.1, slv (h.buf).length q1.buf.1, slv (h.iobuf).length q1.iobuf.1], GT.cells (el ((el ms2 i).tables) g) (((q32.2 i).tables).2 g)]⟩
      have v75 : slv ((el ((ms2).set i ({ el ms2 i with tables := (((el ms2 i).tables).set g (f_forgetAll (el ((el ms2 i).tables) g))) })) i).tables).length (((q32.1, p71).2 i).tables).1 = slv ((el ms2 i).tables).length ((q32.2 i).tables).1 := congrArg (fun l => l.getD 7 undef) (c73 i)
      replace S := S.cast (σ' := ⟨[(2, .p 1 0), (3, .p 2 0), (4, .v (I (i : Int))), (11, .v (I ((h.mons).length : Int))), (12, .v (I (i : Int))), (20, .v (slv ((el ((ms2).set i ({ el ms2 i with tables := (((el ms2 i).tables).set g (f_forgetAll (el ((el ms2 i).tables) g))) })) i).tables).length (((q32.1, p71).2 i).tables).1)), (21, .v (I (((el ms i).tables).length : Int))), (22, .v (I (g : Int))), (35, .v (GT.val (f_forgetAll (el ((el ms2 i).tables) g)) q40)), (36, .v (pt ((q32.2 i).tables).1.b (((q32.2 i).tables).1.off + g * 2)))], [GT.cells h ph, Zc THost, [slv (h.mem).length q1.mem.1, slv (((ms2).set i ({ el ms2 i with tables := (((el ms2 i).tables).set g (f_forgetAll (el ((el ms2 i).tables) g))) }))).length q32.1, slv (h.buf).length q1.buf.1, slv (h.iobuf).length q1.iobuf.1], GT.cells (el ((el ms2 i).tables) g) (((q32.2 i).tables).2 g)]⟩) (by rw [v75])
      refine WD.done (by kernel_rfl) ?_ _
      replace S := S.p [2, 3, 4, 11, 12, 20, 21, 22] 3 ⟨[(2, .p 1 0), (3, .p 2 0), (4, .v (I (i : Int))), (11, .v (I ((h.mons).length : Int))), (12, .v (I (i : Int))), (20, .v (slv ((el ((ms2).set i ({ el ms2 i with tables := (((el ms2 i).tables).set g (f_forgetAll (el ((el ms2 i).tables) g))) })) i).tables).length (((q32.1, p71).2 i).tables).1)), (21, .v (I (((el ms i).tables).length : Int))), (22, .v (I (g : Int)))], [GT.cells h ph, Zc THost, [slv (h.mem).length q1.mem.1, slv (((ms2).set i ({ el ms2 i with tables := (((el ms2 i).tables).set g (f_forgetAll (el ((el ms2 i).tables) g))) }))).length q32.1, slv (h.buf).length q1.buf.1, slv (h.iobuf).length q1.iobuf.1]]⟩
      refine id (nx_block (nx_then (RG.start ?_)))
      refine S.q 2 [2, 3, 4, 11, 12, 20, 21, 22] 3 ⟨[(2, .p 1 0), (3, .p 2 0), (4, .v (I (i : Int))), (11, .v (I ((h.mons).length : Int))), (12, .v (I (i : Int))), (20, .v (slv ((el ((ms2).set i ({ el ms2 i with tables := (((el ms2 i).tables).set g (f_forgetAll (el ((el ms2 i).tables) g))) })) i).tables).length (((q32.1, p71).2 i).tables).1)), (21, .v (I (((el ms i).tables).length : Int))), (22, .v (I ((g : Int) + 1)))], [GT.cells h ph, Zc THost, [slv (h.mem).length q1.mem.1, slv (((ms2).set i ({ el ms2 i with tables := (((el ms2 i).tables).set g (f_forgetAll (el ((el ms2 i).tables) g))) }))).length q32.1, slv (h.buf).length q1.buf.1, slv (h.iobuf).length q1.iobuf.1]]⟩ (.cons (Q_add (x := (g : Int)) (y := 1) ⟨by omega, by omega⟩) .nil) ?_; clear S; intro ac w β S
      refine RG.done rfl (nx_then ?_)
      replace S := S.p [2, 3, 4, 11, 12, 20, 21, 22] 3 ⟨[(2, .p 1 0), (3, .p 2 0), (4, .v (I (i : Int))), (11, .v (I ((h.mons).length : Int))), (12, .v (I (i : Int))), (20, .v (slv ((el ((ms2).set i ({ el ms2 i with tables := (((el ms2 i).tables).set g (f_forgetAll (el ((el ms2 i).tables) g))) })) i).tables).length (((q32.1, p71).2 i).tables).1)), (21, .v (I (((el ms i).tables).length : Int))), (22, .v (I ((g : Int) + 1)))], [GT.cells h ph, Zc THost, [slv (h.mem).length q1.mem.1, slv (((ms2).set i ({ el ms2 i with tables := (((el ms2 i).tables).set g (f_forgetAll (el ((el ms2 i).tables) g))) }))).length q32.1, slv (h.buf).length q1.buf.1, slv (h.iobuf).length q1.iobuf.1]]⟩
      refine ⟨(el h.mons i).tables.length - (g + 1), by omega, g + 1, ((ms2).set i ({ el ms2 i with tables := (((el ms2 i).tables).set g (f_forgetAll (el ((el ms2 i).tables) g))) })), (tb.set g (f_forgetAll (el tb g))), (q32.1, p71), (Or F33 F62), _, _, _, rfl, ?_, ?_, ?_, ?_, ?_, S.cast (by kernel_rfl), o72, o6, o12, o15, (Disj.symm (Disj.symm (Disj.or d35 (Disj.symm d68)))), (Disj.symm (Disj.symm (Disj.or d36 (Disj.symm d69)))), (Disj.symm (Disj.symm (Disj.or d37 (Disj.symm d70))))⟩
      · clear S; omega
      · clear S; (rw [hem]; rw [hm2, List.set_set])
      · clear S; (rw [List.length_set]; exact htl)
      · clear S; (rw [take_set_succ (by omega), map_step (by omega), htT, el_of_drop htD])
      · clear S; (rw [drop_set_self]; exact drop_more htD)
    · have g76 : ¬ ((g : Int) < (((el ms i).tables).length : Int)) := of_decide_eq_false h38
      refine wp_exit (ex_then (ex_then (ex_hit (nx_block (nx_then (RG.start ?_))))))
      refine S.q 2 [2, 3, 11, 12] 3 ⟨[(2, .p 1 0), (3, .p 2 0), (11, .v (I ((h.mons).length : Int))), (12, .v (I ((i : Int) + 1)))], [GT.cells h ph, Zc THost, [slv (h.mem).length q1.mem.1, slv (ms2).length q32.1, slv (h.buf).length q1.buf.1, slv (h.iobuf).length q1.iobuf.1]]⟩ (.cons (Q_add (x := (i : Int)) (y := 1) ⟨by omega, by omega⟩) .nil) ?_; clear S; intro ac w β S
      refine RG.done rfl (nx_then ?_)
      replace S := S.p [2, 3, 11, 12] 3 ⟨[(2, .p 1 0), (3, .p 2 0), (11, .v (I ((h.mons).length : Int))), (12, .v (I ((i : Int) + 1)))], [GT.cells h ph, Zc THost, [slv (h.mem).length q1.mem.1, slv (ms2).length q32.1, slv (h.buf).length q1.buf.1, slv (h.iobuf).length q1.iobuf.1]]⟩
      refine ⟨h.mons.length - (i + 1), by omega, i + 1, ms2, q32, F33, _, _, _, rfl, ?_, ?_, ?_, ?_, S.cast (by kernel_rfl), o34, o6, o12, o15, d35, d36, d37⟩
      · clear S; first | omega | (simp [*]; done) | (simp [*]; omega)
      · clear S; (rw [hm2, List.length_set]; exact hl)
      · clear S; (rw [hm2, take_set_succ (by omega), map_step (by omega), hT, hel, cold_step (by omega) htl htT])
      · clear S; (rw [hm2, drop_set_self]; exact drop_more hD)
  · have g77 : ¬ ((i : Int) < ((h.mons).length : Int)) := of_decide_eq_false h29
    refine wp_exit (ex_then (ex_then (ex_hit (nx_then (wp_seq (RG.start ?_))))))
    refine S.q 2 [2, 3] 3 ⟨[(2, .p 1 0), (3, .p 2 0)], [GT.cells h ph, Zc THost, [slv (h.mem).length q1.mem.1, slv (ms).length q23.1, slv (([] : List TEntry)).length (GT.pdflt (α := List TEntry)).1, slv (h.iobuf).length q1.iobuf.1]]⟩ .nil ?_; clear S; intro ac w β S
    refine RG.done rfl (nx_then (wp_seq (RG.start ?_)))
    refine S.q 2 [2, 3] 3 ⟨[(2, .p 1 0), (3, .p 2 0)], [GT.cells h ph, Zc THost, [slv (h.mem).length q1.mem.1, slv (ms).length q23.1, slv (([] : List TEntry)).length (GT.pdflt (α := List TEntry)).1, slv (([] : List TEntry)).length (GT.pdflt (α := List TEntry)).1]]⟩ .nil ?_; clear S; intro ac w β S
    refine RG.done rfl (nx_then (wp_seq (RG.start ?_)))
    refine S.q 2 [2] 2 ⟨[(2, .p 1 0)], [GT.cells h ph, [slv (h.mem).length q1.mem.1, slv (ms).length q23.1, slv (([] : List TEntry)).length (GT.pdflt (α := List TEntry)).1, slv (([] : List TEntry)).length (GT.pdflt (α := List TEntry)).1]]⟩ .nil ?_; clear S; intro ac w β S
    refine RG.done rfl (nx_then (wp_ret ?_))
    refine S.r [GT.val (⟨h.mem, ms, ([] : List TEntry), ([] : List TEntry)⟩ : THost) (⟨q1.mem, q23, (GT.pdflt (α := List TEntry)), (GT.pdflt (α := List TEntry))⟩ : PHost)] ?_
    have o78 := S.nilOw (α := TEntry)
    have o79 := S.nilOw (α := TEntry)
    have o80 := ow_Host (x := (⟨h.mem, ms, ([] : List TEntry), ([] : List TEntry)⟩ : THost)) (p := (⟨q1.mem, q23, (GT.pdflt (α := List TEntry)), (GT.pdflt (α := List TEntry))⟩ : PHost)) o6 o25 o78 o79 (Disj.symm d26) (fun b _ h => False.elim h) (fun b _ h => False.elim h) (fun b _ h => False.elim h) (fun b _ h => False.elim h) (fun b _ h => False.elim h) 
    exact ret1_of S (show f_cold h = (⟨h.mem, ms, ([] : List TEntry), ([] : List TEntry)⟩ : THost) by clear S; (unfold f_cold; rw [take_all (by omega), take_all (by omega)] at hT; rw [hT])) rfl o80

set_option maxRecDepth 100000 in
theorem c_laws_eqIntS (w0 : World) (a : List Int) (pa : LP Int) (ha : GT.rd KK (Lt w0.heap.size) w0 a pa) (b : List Int) (pb : LP Int) (hb : GT.rd KK (Lt w0.heap.size) w0 b pb) : Calls Try.prog 58 [slv (a).length pa.1, slv (b).length pb.1].toArray w0 (fun e w' => e = .returned (B (decide (a = b))) ∧ Chg NoB w0 w') := by
  refine Calls.walk (args := [slv (a).length pa.1, slv (b).length pb.1]) NoB Try.func58 rfl rfl ?_
  intro ac β S
  have hlea : a.length ≤ 4194304 := LRd.le ha
  have hleb : b.length ≤ 4194304 := LRd.le hb
  refine wp_seq (RG.start ?_)
  refine S.q 1 [0, 1] 0 ⟨[(0, .v (slv (a).length pa.1)), (1, .v (slv (b).length pb.1))], []⟩ .nil ?_; clear S; intro ac w β S
  refine RG.done rfl (nx_then (wp_seq (wp_seq (RG.start ?_))))
  refine S.q 5 [0, 1, 10] 0 ⟨[(0, .v (slv (a).length pa.1)), (1, .v (slv (b).length pb.1)), (10, .v (B (((a).length : Int) != ((b).length : Int))))], []⟩ .nil ?_; clear S; intro ac w β S
  refine RG.done rfl (nx_then ?_)
  refine S.c (((a).length : Int) != ((b).length : Int)) (fun h1 => ?_) (fun h1 => ?_)
  · have g2 : ¬ (((a).length : Int) = ((b).length : Int)) := bne_iff_ne.1 h1
    refine wp_seq (RG.start ?_)
    refine S.q 1 [4] 0 ⟨[(4, .v (B false))], []⟩ .nil ?_; clear S; intro ac w β S
    refine RG.done rfl (nx_then (wp_ret (rt_then ?_)))
    refine S.r [B false] ?_
    exact ⟨retB (by clear S; first | (simp; intro e; subst e; simp_all; done) | (simp; rw [take_all (by omega), take_all (by omega)] at he; exact he) | (simp; exact take_ne (by simp_all))), S.chg⟩
  · have g3 : ((a).length : Int) = ((b).length : Int) := ne_f h1
    refine wp_skip (nx_then (wp_seq (wp_seq (RG.start ?_))))
    refine S.q 1 [0, 1, 5] 0 ⟨[(0, .v (slv (a).length pa.1)), (1, .v (slv (b).length pb.1)), (5, .v (I 0))], []⟩ .nil ?_; clear S; intro ac w β S
    refine RG.done rfl (nx_then (wp_block ?_))
    replace S := S.p [0, 1, 5] 0 ⟨[(0, .v (slv (a).length pa.1)), (1, .v (slv (b).length pb.1)), (5, .v (I 0))], []⟩
    refine wp_loop_down (fun mm ac w => ∃ (k : Nat)  (u : World) (N : Bl) (β : Nat → Nat), mm = a.length - k ∧ (k ≤ a.length) ∧ (a.length = b.length) ∧ (a.take k = b.take k) ∧ St Try.prog Try.f58.ntmps w0 NoB u N β ⟨[(0, .v (slv (a).length pa.1)), (1, .v (slv (b).length pb.1)), (5, .v (I (k : Int)))], []⟩ ac w) _ ⟨0, _, _, _, rfl, (by first | omega | (simp; done) | (simp; omega)), (by first | omega | (simp; done) | (simp; omega)), (by simp), S.cast (by kernel_rfl)⟩ ?_
    clear S
    rintro mm ac w ⟨k, u, N, β, rfl, hk, hab, he, S⟩
    refine wp_seq (wp_seq (RG.start ?_))
    refine S.q 4 [0, 1, 5, 14] 0 ⟨[(0, .v (slv (a).length pa.1)), (1, .v (slv (b).length pb.1)), (5, .v (I (k : Int))), (14, .v (B (decide ((k : Int) < ((a).length : Int)))))], []⟩ .nil ?_; clear S; intro ac w β S
    refine RG.done rfl (nx_then ?_)
    refine S.c (decide ((k : Int) < ((a).length : Int))) (fun h4 => ?_) (fun h4 => ?_)
    · have g5 : (k : Int) < ((a).length : Int) := of_decide_eq_true h4
      refine wp_skip (nx_then (wp_seq (wp_block (wp_seq ?_))))
      refine S.drawn (keep := [0, 1, 5, 25]) (m := 0) (σ' := ⟨[(0, .v (slv (a).length pa.1)), (1, .v (slv (b).length pb.1)), (5, .v (I (k : Int))), (25, .v (B ((el a k) != (el b k))))], []⟩) (.cons (Q_idx (S.arg ha) (l := (a).length) (k := k) (i := (k : Int)) rfl rfl (by omega) Try.underlying30 (by kernel_rfl)) (.cons (Q_el1 (S.arg ha) (t := 3) (k := k) (by omega) rfl (by kernel_rfl)) (.cons (Q_idx (S.arg hb) (l := (b).length) (k := k) (i := (k : Int)) rfl rfl (by omega) Try.underlying30 (by kernel_rfl)) (.cons (Q_el1 (S.arg hb) (t := 3) (k := k) (by omega) rfl (by kernel_rfl)) .nil)))) rfl (by kernel_rfl) (by kernel_rfl) ?_
      clear S; intro ac w S
      refine id (nx_then ?_)
      refine S.c ((el a k) != (el b k)) (fun h6 => ?_) (fun h6 => ?_)
      · have g7 : ¬ ((el a k) = (el b k)) := bne_iff_ne.1 h6
        refine wp_seq (RG.start ?_)
        refine S.q 1 [4] 0 ⟨[(4, .v (B false))], []⟩ .nil ?_; clear S; intro ac w β S
        refine RG.done rfl (nx_then (wp_ret (rt_block (rt_then (rt_then (rt_block (rt_then ?_)))))))
        refine S.r [B false] ?_
        exact ⟨retB (by clear S; first | (simp; intro e; subst e; simp_all; done) | (simp; rw [take_all (by omega), take_all (by omega)] at he; exact he) | (simp; exact take_ne (by simp_all))), S.chg⟩
      · have g8 : (el a k) = (el b k) := ne_f h6
        refine wp_skip (nx_block (nx_then (RG.start ?_)))
        refine S.q 3 [0, 1, 5] 0 ⟨[(0, .v (slv (a).length pa.1)), (1, .v (slv (b).length pb.1)), (5, .v (I ((k : Int) + 1)))], []⟩ (.cons (Q_add (x := (k : Int)) (y := 1) ⟨by omega, by omega⟩) .nil) ?_; clear S; intro ac w β S
        refine RG.done rfl (nx_then ?_)
        replace S := S.p [0, 1, 5] 0 ⟨[(0, .v (slv (a).length pa.1)), (1, .v (slv (b).length pb.1)), (5, .v (I ((k : Int) + 1)))], []⟩
        refine ⟨a.length - (k + 1), by omega, k + 1, _, _, _, rfl, ?_, ?_, ?_, S.cast (by kernel_rfl)⟩
        · clear S; first | omega | (simp [*]; done) | (simp [*]; omega)
        · clear S; first | omega | (simp [*]; done) | (simp [*]; omega)
        · clear S; exact take_eq_step (by omega) (by omega) he (by simp_all)
    · have g9 : ¬ ((k : Int) < ((a).length : Int)) := of_decide_eq_false h4
      refine wp_exit (ex_then (ex_then (ex_hit (nx_then (wp_seq (RG.start ?_))))))
      refine S.q 1 [4] 0 ⟨[(4, .v (B true))], []⟩ .nil ?_; clear S; intro ac w β S
      refine RG.done rfl (nx_then (wp_ret ?_))
      refine S.r [B true] ?_
      exact ⟨retB (by clear S; first | (simp; intro e; subst e; simp_all; done) | (simp; rw [take_all (by omega), take_all (by omega)] at he; exact he) | (simp; exact take_ne (by simp_all))), S.chg⟩

set_option maxRecDepth 100000 in
theorem c_laws_eqIntSS (w0 : World) (a : List (List Int)) (pa : LP (List Int)) (ha : GT.rd KK (Lt w0.heap.size) w0 a pa) (b : List (List Int)) (pb : LP (List Int)) (hb : GT.rd KK (Lt w0.heap.size) w0 b pb) : Calls Try.prog 52 [slv (a).length pa.1, slv (b).length pb.1].toArray w0 (fun e w' => e = .returned (B (decide (a = b))) ∧ Chg NoB w0 w') := by
  refine Calls.walk (args := [slv (a).length pa.1, slv (b).length pb.1]) NoB Try.func52 rfl rfl ?_
  intro ac β S
  have hlea : a.length ≤ 4194304 := LRd.le ha
  have hleb : b.length ≤ 4194304 := LRd.le hb
  refine wp_seq (RG.start ?_)
  refine S.q 1 [0, 1] 0 ⟨[(0, .v (slv (a).length pa.1)), (1, .v (slv (b).length pb.1))], []⟩ .nil ?_; clear S; intro ac w β S
  refine RG.done rfl (nx_then (wp_seq (wp_seq (RG.start ?_))))
  refine S.q 5 [0, 1, 10] 0 ⟨[(0, .v (slv (a).length pa.1)), (1, .v (slv (b).length pb.1)), (10, .v (B (((a).length : Int) != ((b).length : Int))))], []⟩ .nil ?_; clear S; intro ac w β S
  refine RG.done rfl (nx_then ?_)
  refine S.c (((a).length : Int) != ((b).length : Int)) (fun h1 => ?_) (fun h1 => ?_)
  · have g2 : ¬ (((a).length : Int) = ((b).length : Int)) := bne_iff_ne.1 h1
    refine wp_seq (RG.start ?_)
    refine S.q 1 [4] 0 ⟨[(4, .v (B false))], []⟩ .nil ?_; clear S; intro ac w β S
    refine RG.done rfl (nx_then (wp_ret (rt_then ?_)))
    refine S.r [B false] ?_
    exact ⟨retB (by clear S; first | (simp; intro e; subst e; simp_all; done) | (simp; rw [take_all (by omega), take_all (by omega)] at he; exact he) | (simp; exact take_ne (by simp_all))), S.chg⟩
  · have g3 : ((a).length : Int) = ((b).length : Int) := ne_f h1
    refine wp_skip (nx_then (wp_seq (wp_seq (RG.start ?_))))
    refine S.q 1 [0, 1, 5] 0 ⟨[(0, .v (slv (a).length pa.1)), (1, .v (slv (b).length pb.1)), (5, .v (I 0))], []⟩ .nil ?_; clear S; intro ac w β S
    refine RG.done rfl (nx_then (wp_block ?_))
    replace S := S.p [0, 1, 5] 0 ⟨[(0, .v (slv (a).length pa.1)), (1, .v (slv (b).length pb.1)), (5, .v (I 0))], []⟩
    refine wp_loop_down (fun mm ac w => ∃ (k : Nat)  (u : World) (N : Bl) (β : Nat → Nat), mm = a.length - k ∧ (k ≤ a.length) ∧ (a.length = b.length) ∧ (a.take k = b.take k) ∧ St Try.prog Try.f52.ntmps w0 NoB u N β ⟨[(0, .v (slv (a).length pa.1)), (1, .v (slv (b).length pb.1)), (5, .v (I (k : Int)))], []⟩ ac w) _ ⟨0, _, _, _, rfl, (by first | omega | (simp; done) | (simp; omega)), (by first | omega | (simp; done) | (simp; omega)), (by simp), S.cast (by kernel_rfl)⟩ ?_
    clear S
    rintro mm ac w ⟨k, u, N, β, rfl, hk, hab, he, S⟩
    refine wp_seq (wp_seq (RG.start ?_))
    refine S.q 4 [0, 1, 5, 14] 0 ⟨[(0, .v (slv (a).length pa.1)), (1, .v (slv (b).length pb.1)), (5, .v (I (k : Int))), (14, .v (B (decide ((k : Int) < ((a).length : Int)))))], []⟩ .nil ?_; clear S; intro ac w β S
    refine RG.done rfl (nx_then ?_)
    refine S.c (decide ((k : Int) < ((a).length : Int))) (fun h4 => ?_) (fun h4 => ?_)
    · have g5 : (k : Int) < ((a).length : Int) := of_decide_eq_true h4
      refine wp_skip (nx_then (wp_seq (wp_block (wp_seq ?_))))
      refine S.drawn (keep := [0, 1, 5, 26]) (m := 0) (σ' := ⟨[(0, .v (slv (a).length pa.1)), (1, .v (slv (b).length pb.1)), (5, .v (I (k : Int))), (26, .v (B (!(decide ((el a k) = (el b k))))))], []⟩) (.cons (Q_idx (S.arg ha) (l := (a).length) (k := k) (i := (k : Int)) rfl rfl (by omega) Try.underlying22 (by kernel_rfl)) (.cons (Q_el1 (S.arg ha) (t := 30) (k := k) (by omega) rfl (by kernel_rfl)) (.cons (Q_idx (S.arg hb) (l := (b).length) (k := k) (i := (k : Int)) rfl rfl (by omega) Try.underlying22 (by kernel_rfl)) (.cons (Q_el1 (S.arg hb) (t := 30) (k := k) (by omega) rfl (by kernel_rfl)) (.cons (Q_call fun w hw => c_laws_eqIntS w (el a k) (pa.2 k) (rd_of (LRd.el (S.arg ha) k (by omega)) hw) (el b k) (pb.2 k) (rd_of (LRd.el (S.arg hb) k (by omega)) hw)) .nil))))) rfl (by kernel_rfl) (by kernel_rfl) ?_
      clear S; intro ac w S
      refine id (nx_then ?_)
      refine S.c (!(decide ((el a k) = (el b k)))) (fun h6 => ?_) (fun h6 => ?_)
      · have h7 : (decide ((el a k) = (el b k))) = false := not_t h6
        have g8 := of_decide_eq_false h7
        refine wp_seq (RG.start ?_)
        refine S.q 1 [4] 0 ⟨[(4, .v (B false))], []⟩ .nil ?_; clear S; intro ac w β S
        refine RG.done rfl (nx_then (wp_ret (rt_block (rt_then (rt_then (rt_block (rt_then ?_)))))))
        refine S.r [B false] ?_
        exact ⟨retB (by clear S; first | (simp; intro e; subst e; simp_all; done) | (simp; rw [take_all (by omega), take_all (by omega)] at he; exact he) | (simp; exact take_ne (by simp_all))), S.chg⟩
      · have h9 : (decide ((el a k) = (el b k))) = true := not_f h6
        have g10 := of_decide_eq_true h9
        refine wp_skip (nx_block (nx_then (RG.start ?_)))
        refine S.q 3 [0, 1, 5] 0 ⟨[(0, .v (slv (a).length pa.1)), (1, .v (slv (b).length pb.1)), (5, .v (I ((k : Int) + 1)))], []⟩ (.cons (Q_add (x := (k : Int)) (y := 1) ⟨by omega, by omega⟩) .nil) ?_; clear S; intro ac w β S
        refine RG.done rfl (nx_then ?_)
        replace S := S.p [0, 1, 5] 0 ⟨[(0, .v (slv (a).length pa.1)), (1, .v (slv (b).length pb.1)), (5, .v (I ((k : Int) + 1)))], []⟩
        refine ⟨a.length - (k + 1), by omega, k + 1, _, _, _, rfl, ?_, ?_, ?_, S.cast (by kernel_rfl)⟩
        · clear S; first | omega | (simp [*]; done) | (simp [*]; omega)
        · clear S; first | omega | (simp [*]; done) | (simp [*]; omega)
        · clear S; exact take_eq_step (by omega) (by omega) he (by simp_all)
    · have g11 : ¬ ((k : Int) < ((a).length : Int)) := of_decide_eq_false h4
      refine wp_exit (ex_then (ex_then (ex_hit (nx_then (wp_seq (RG.start ?_))))))
      refine S.q 1 [4] 0 ⟨[(4, .v (B true))], []⟩ .nil ?_; clear S; intro ac w β S
      refine RG.done rfl (nx_then (wp_ret ?_))
      refine S.r [B true] ?_
      exact ⟨retB (by clear S; first | (simp; intro e; subst e; simp_all; done) | (simp; rw [take_all (by omega), take_all (by omega)] at he; exact he) | (simp; exact take_ne (by simp_all))), S.chg⟩

set_option maxRecDepth 100000 in
theorem c_laws_eqSlot (w0 : World) (a : TSlot) (b : TSlot) : Calls Try.prog 94 [GT.val a (), GT.val b ()].toArray w0 (fun e w' => e = .returned (B (decide (a = b))) ∧ Chg NoB w0 w') := by
  refine Calls.walk (args := [GT.val a (), GT.val b ()]) NoB Try.func94 rfl rfl ?_
  intro ac β S
  refine wp_seq (RG.start ?_)
  refine S.q 3 [2, 3] 2 ⟨[(2, .p 0 0), (3, .p 1 0)], [GT.cells a (), GT.cells b ()]⟩ .nil ?_; clear S; intro ac w β S
  refine RG.done rfl (nx_then (wp_seq (wp_seq (RG.start ?_))))
  refine S.q 5 [2, 3, 9] 2 ⟨[(2, .p 0 0), (3, .p 1 0), (9, .v (B (a.page != b.page)))], [GT.cells a (), GT.cells b ()]⟩ .nil ?_; clear S; intro ac w β S
  refine RG.done rfl (nx_then ?_)
  refine S.c (a.page != b.page) (fun h1 => ?_) (fun h1 => ?_)
  · have g2 : ¬ (a.page = b.page) := bne_iff_ne.1 h1
    refine wp_seq (RG.start ?_)
    refine S.q 1 [4] 0 ⟨[(4, .v (B false))], []⟩ .nil ?_; clear S; intro ac w β S
    refine RG.done rfl (nx_then (wp_ret (rt_then ?_)))
    refine S.r [B false] ?_
    exact ⟨retB (by clear S; first | (simp [TSlot.ext_iff, *]; done) | (simp_all [TSlot.ext_iff]; done)), S.chg⟩
  · have g3 : a.page = b.page := ne_f h1
    refine wp_skip (nx_then (wp_seq (wp_seq (RG.start ?_))))
    refine S.q 5 [14] 0 ⟨[(14, .v (B (a.rights != b.rights)))], []⟩ .nil ?_; clear S; intro ac w β S
    refine RG.done rfl (nx_then ?_)
    refine S.c (a.rights != b.rights) (fun h4 => ?_) (fun h4 => ?_)
    · have g5 : ¬ (a.rights = b.rights) := bne_iff_ne.1 h4
      refine wp_seq (RG.start ?_)
      refine S.q 1 [4] 0 ⟨[(4, .v (B false))], []⟩ .nil ?_; clear S; intro ac w β S
      refine RG.done rfl (nx_then (wp_ret (rt_then ?_)))
      refine S.r [B false] ?_
      exact ⟨retB (by clear S; first | (simp [TSlot.ext_iff, *]; done) | (simp_all [TSlot.ext_iff]; done)), S.chg⟩
    · have g6 : a.rights = b.rights := ne_f h4
      refine wp_skip (nx_then (wp_seq (RG.start ?_)))
      refine S.q 1 [4] 0 ⟨[(4, .v (B true))], []⟩ .nil ?_; clear S; intro ac w β S
      refine RG.done rfl (nx_then (wp_ret ?_))
      refine S.r [B true] ?_
      exact ⟨retB (by clear S; first | (simp [TSlot.ext_iff, *]; done) | (simp_all [TSlot.ext_iff]; done)), S.chg⟩

set_option maxRecDepth 100000 in
theorem c_laws_eqSlotS (w0 : World) (a : List TSlot) (pa : LP TSlot) (ha : GT.rd KK (Lt w0.heap.size) w0 a pa) (b : List TSlot) (pb : LP TSlot) (hb : GT.rd KK (Lt w0.heap.size) w0 b pb) : Calls Try.prog 55 [slv (a).length pa.1, slv (b).length pb.1].toArray w0 (fun e w' => e = .returned (B (decide (a = b))) ∧ Chg NoB w0 w') := by
  refine Calls.walk (args := [slv (a).length pa.1, slv (b).length pb.1]) NoB Try.func55 rfl rfl ?_
  intro ac β S
  have hlea : a.length ≤ 4194304 := LRd.le ha
  have hleb : b.length ≤ 4194304 := LRd.le hb
  refine wp_seq (RG.start ?_)
  refine S.q 1 [0, 1] 0 ⟨[(0, .v (slv (a).length pa.1)), (1, .v (slv (b).length pb.1))], []⟩ .nil ?_; clear S; intro ac w β S
  refine RG.done rfl (nx_then (wp_seq (wp_seq (RG.start ?_))))
  refine S.q 5 [0, 1, 10] 0 ⟨[(0, .v (slv (a).length pa.1)), (1, .v (slv (b).length pb.1)), (10, .v (B (((a).length : Int) != ((b).length : Int))))], []⟩ .nil ?_; clear S; intro ac w β S
  refine RG.done rfl (nx_then ?_)
  refine S.c (((a).length : Int) != ((b).length : Int)) (fun h1 => ?_) (fun h1 => ?_)
  · have g2 : ¬ (((a).length : Int) = ((b).length : Int)) := bne_iff_ne.1 h1
    refine wp_seq (RG.start ?_)
    refine S.q 1 [4] 0 ⟨[(4, .v (B false))], []⟩ .nil ?_; clear S; intro ac w β S
    refine RG.done rfl (nx_then (wp_ret (rt_then ?_)))
    refine S.r [B false] ?_
    exact ⟨retB (by clear S; first | (simp; intro e; subst e; simp_all; done) | (simp; rw [take_all (by omega), take_all (by omega)] at he; exact he) | (simp; exact take_ne (by simp_all))), S.chg⟩
  · have g3 : ((a).length : Int) = ((b).length : Int) := ne_f h1
    refine wp_skip (nx_then (wp_seq (wp_seq (RG.start ?_))))
    refine S.q 1 [0, 1, 5] 0 ⟨[(0, .v (slv (a).length pa.1)), (1, .v (slv (b).length pb.1)), (5, .v (I 0))], []⟩ .nil ?_; clear S; intro ac w β S
    refine RG.done rfl (nx_then (wp_block ?_))
    replace S := S.p [0, 1, 5] 0 ⟨[(0, .v (slv (a).length pa.1)), (1, .v (slv (b).length pb.1)), (5, .v (I 0))], []⟩
    refine wp_loop_down (fun mm ac w => ∃ (k : Nat)  (u : World) (N : Bl) (β : Nat → Nat), mm = a.length - k ∧ (k ≤ a.length) ∧ (a.length = b.length) ∧ (a.take k = b.take k) ∧ St Try.prog Try.f55.ntmps w0 NoB u N β ⟨[(0, .v (slv (a).length pa.1)), (1, .v (slv (b).length pb.1)), (5, .v (I (k : Int)))], []⟩ ac w) _ ⟨0, _, _, _, rfl, (by first | omega | (simp; done) | (simp; omega)), (by first | omega | (simp; done) | (simp; omega)), (by simp), S.cast (by kernel_rfl)⟩ ?_
    clear S
    rintro mm ac w ⟨k, u, N, β, rfl, hk, hab, he, S⟩
    refine wp_seq (wp_seq (RG.start ?_))
    refine S.q 4 [0, 1, 5, 14] 0 ⟨[(0, .v (slv (a).length pa.1)), (1, .v (slv (b).length pb.1)), (5, .v (I (k : Int))), (14, .v (B (decide ((k : Int) < ((a).length : Int)))))], []⟩ .nil ?_; clear S; intro ac w β S
    refine RG.done rfl (nx_then ?_)
    refine S.c (decide ((k : Int) < ((a).length : Int))) (fun h4 => ?_) (fun h4 => ?_)
    · have g5 : (k : Int) < ((a).length : Int) := of_decide_eq_true h4
      refine wp_skip (nx_then (wp_seq (wp_block (wp_seq ?_))))
      refine S.drawn (keep := [0, 1, 5, 26]) (m := 0) (σ' := ⟨[(0, .v (slv (a).length pa.1)), (1, .v (slv (b).length pb.1)), (5, .v (I (k : Int))), (26, .v (B (!(decide ((el a k) = (el b k))))))], []⟩) (.cons (Q_idx (S.arg ha) (l := (a).length) (k := k) (i := (k : Int)) rfl rfl (by omega) Try.underlying42 (by kernel_rfl)) (.cons (Q_el (S.arg ha) (t := 120) (k := k) (by omega) rfl (by kernel_rfl) (by kernel_rfl)) (.cons (Q_idx (S.arg hb) (l := (b).length) (k := k) (i := (k : Int)) rfl rfl (by omega) Try.underlying42 (by kernel_rfl)) (.cons (Q_el (S.arg hb) (t := 120) (k := k) (by omega) rfl (by kernel_rfl) (by kernel_rfl)) (.cons (Q_call fun w hw => c_laws_eqSlot w (el a k) (el b k)) .nil))))) rfl (by kernel_rfl) (by kernel_rfl) ?_
      clear S; intro ac w S
      refine id (nx_then ?_)
      refine S.c (!(decide ((el a k) = (el b k)))) (fun h6 => ?_) (fun h6 => ?_)
      · have h7 : (decide ((el a k) = (el b k))) = false := not_t h6
        have g8 := of_decide_eq_false h7
        refine wp_seq (RG.start ?_)
        refine S.q 1 [4] 0 ⟨[(4, .v (B false))], []⟩ .nil ?_; clear S; intro ac w β S
        refine RG.done rfl (nx_then (wp_ret (rt_block (rt_then (rt_then (rt_block (rt_then ?_)))))))
        refine S.r [B false] ?_
        exact ⟨retB (by clear S; first | (simp; intro e; subst e; simp_all; done) | (simp; rw [take_all (by omega), take_all (by omega)] at he; exact he) | (simp; exact take_ne (by simp_all))), S.chg⟩
      · have h9 : (decide ((el a k) = (el b k))) = true := not_f h6
        have g10 := of_decide_eq_true h9
        refine wp_skip (nx_block (nx_then (RG.start ?_)))
        refine S.q 3 [0, 1, 5] 0 ⟨[(0, .v (slv (a).length pa.1)), (1, .v (slv (b).length pb.1)), (5, .v (I ((k : Int) + 1)))], []⟩ (.cons (Q_add (x := (k : Int)) (y := 1) ⟨by omega, by omega⟩) .nil) ?_; clear S; intro ac w β S
        refine RG.done rfl (nx_then ?_)
        replace S := S.p [0, 1, 5] 0 ⟨[(0, .v (slv (a).length pa.1)), (1, .v (slv (b).length pb.1)), (5, .v (I ((k : Int) + 1)))], []⟩
        refine ⟨a.length - (k + 1), by omega, k + 1, _, _, _, rfl, ?_, ?_, ?_, S.cast (by kernel_rfl)⟩
        · clear S; first | omega | (simp [*]; done) | (simp [*]; omega)
        · clear S; first | omega | (simp [*]; done) | (simp [*]; omega)
        · clear S; exact take_eq_step (by omega) (by omega) he (by simp_all)
    · have g11 : ¬ ((k : Int) < ((a).length : Int)) := of_decide_eq_false h4
      refine wp_exit (ex_then (ex_then (ex_hit (nx_then (wp_seq (RG.start ?_))))))
      refine S.q 1 [4] 0 ⟨[(4, .v (B true))], []⟩ .nil ?_; clear S; intro ac w β S
      refine RG.done rfl (nx_then (wp_ret ?_))
      refine S.r [B true] ?_
      exact ⟨retB (by clear S; first | (simp; intro e; subst e; simp_all; done) | (simp; rw [take_all (by omega), take_all (by omega)] at he; exact he) | (simp; exact take_ne (by simp_all))), S.chg⟩

set_option maxRecDepth 100000 in
theorem c_laws_eqBoolS (w0 : World) (a : List Bool) (pa : LP Bool) (ha : GT.rd KK (Lt w0.heap.size) w0 a pa) (b : List Bool) (pb : LP Bool) (hb : GT.rd KK (Lt w0.heap.size) w0 b pb) : Calls Try.prog 56 [slv (a).length pa.1, slv (b).length pb.1].toArray w0 (fun e w' => e = .returned (B (decide (a = b))) ∧ Chg NoB w0 w') := by
  refine Calls.walk (args := [slv (a).length pa.1, slv (b).length pb.1]) NoB Try.func56 rfl rfl ?_
  intro ac β S
  have hlea : a.length ≤ 4194304 := LRd.le ha
  have hleb : b.length ≤ 4194304 := LRd.le hb
  refine wp_seq (RG.start ?_)
  refine S.q 1 [0, 1] 0 ⟨[(0, .v (slv (a).length pa.1)), (1, .v (slv (b).length pb.1))], []⟩ .nil ?_; clear S; intro ac w β S
  refine RG.done rfl (nx_then (wp_seq (wp_seq (RG.start ?_))))
  refine S.q 5 [0, 1, 10] 0 ⟨[(0, .v (slv (a).length pa.1)), (1, .v (slv (b).length pb.1)), (10, .v (B (((a).length : Int) != ((b).length : Int))))], []⟩ .nil ?_; clear S; intro ac w β S
  refine RG.done rfl (nx_then ?_)
  refine S.c (((a).length : Int) != ((b).length : Int)) (fun h1 => ?_) (fun h1 => ?_)
  · have g2 : ¬ (((a).length : Int) = ((b).length : Int)) := bne_iff_ne.1 h1
    refine wp_seq (RG.start ?_)
    refine S.q 1 [4] 0 ⟨[(4, .v (B false))], []⟩ .nil ?_; clear S; intro ac w β S
    refine RG.done rfl (nx_then (wp_ret (rt_then ?_)))
    refine S.r [B false] ?_
    exact ⟨retB (by clear S; first | (simp; intro e; subst e; simp_all; done) | (simp; rw [take_all (by omega), take_all (by omega)] at he; exact he) | (simp; exact take_ne (by simp_all))), S.chg⟩
  · have g3 : ((a).length : Int) = ((b).length : Int) := ne_f h1
    refine wp_skip (nx_then (wp_seq (wp_seq (RG.start ?_))))
    refine S.q 1 [0, 1, 5] 0 ⟨[(0, .v (slv (a).length pa.1)), (1, .v (slv (b).length pb.1)), (5, .v (I 0))], []⟩ .nil ?_; clear S; intro ac w β S
    refine RG.done rfl (nx_then (wp_block ?_))
    replace S := S.p [0, 1, 5] 0 ⟨[(0, .v (slv (a).length pa.1)), (1, .v (slv (b).length pb.1)), (5, .v (I 0))], []⟩
    refine wp_loop_down (fun mm ac w => ∃ (k : Nat)  (u : World) (N : Bl) (β : Nat → Nat), mm = a.length - k ∧ (k ≤ a.length) ∧ (a.length = b.length) ∧ (a.take k = b.take k) ∧ St Try.prog Try.f56.ntmps w0 NoB u N β ⟨[(0, .v (slv (a).length pa.1)), (1, .v (slv (b).length pb.1)), (5, .v (I (k : Int)))], []⟩ ac w) _ ⟨0, _, _, _, rfl, (by first | omega | (simp; done) | (simp; omega)), (by first | omega | (simp; done) | (simp; omega)), (by simp), S.cast (by kernel_rfl)⟩ ?_
    clear S
    rintro mm ac w ⟨k, u, N, β, rfl, hk, hab, he, S⟩
    refine wp_seq (wp_seq (RG.start ?_))
    refine S.q 4 [0, 1, 5, 14] 0 ⟨[(0, .v (slv (a).length pa.1)), (1, .v (slv (b).length pb.1)), (5, .v (I (k : Int))), (14, .v (B (decide ((k : Int) < ((a).length : Int)))))], []⟩ .nil ?_; clear S; intro ac w β S
    refine RG.done rfl (nx_then ?_)
    refine S.c (decide ((k : Int) < ((a).length : Int))) (fun h4 => ?_) (fun h4 => ?_)
    · have g5 : (k : Int) < ((a).length : Int) := of_decide_eq_true h4
      refine wp_skip (nx_then (wp_seq (wp_block (wp_seq ?_))))
      refine S.drawn (keep := [0, 1, 5, 25]) (m := 0) (σ' := ⟨[(0, .v (slv (a).length pa.1)), (1, .v (slv (b).length pb.1)), (5, .v (I (k : Int))), (25, .v (B (!((el a k) == (el b k)))))], []⟩) (.cons (Q_idx (S.arg ha) (l := (a).length) (k := k) (i := (k : Int)) rfl rfl (by omega) Try.underlying28 (by kernel_rfl)) (.cons (Q_el1 (S.arg ha) (t := 4) (k := k) (by omega) rfl (by kernel_rfl)) (.cons (Q_idx (S.arg hb) (l := (b).length) (k := k) (i := (k : Int)) rfl rfl (by omega) Try.underlying28 (by kernel_rfl)) (.cons (Q_el1 (S.arg hb) (t := 4) (k := k) (by omega) rfl (by kernel_rfl)) .nil)))) rfl (by kernel_rfl) (by kernel_rfl) ?_
      clear S; intro ac w S
      refine id (nx_then ?_)
      refine S.c (!((el a k) == (el b k))) (fun h6 => ?_) (fun h6 => ?_)
      · have h7 : ((el a k) == (el b k)) = false := not_t h6
        have g8 : ¬ ((el a k) = (el b k)) := ne_of_beq_false h7
        refine wp_seq (RG.start ?_)
        refine S.q 1 [4] 0 ⟨[(4, .v (B false))], []⟩ .nil ?_; clear S; intro ac w β S
        refine RG.done rfl (nx_then (wp_ret (rt_block (rt_then (rt_then (rt_block (rt_then ?_)))))))
        refine S.r [B false] ?_
        exact ⟨retB (by clear S; first | (simp; intro e; subst e; simp_all; done) | (simp; rw [take_all (by omega), take_all (by omega)] at he; exact he) | (simp; exact take_ne (by simp_all))), S.chg⟩
      · have h9 : ((el a k) == (el b k)) = true := not_f h6
        have g10 : (el a k) = (el b k) := eq_of_beq h9
        refine wp_skip (nx_block (nx_then (RG.start ?_)))
        refine S.q 3 [0, 1, 5] 0 ⟨[(0, .v (slv (a).length pa.1)), (1, .v (slv (b).length pb.1)), (5, .v (I ((k : Int) + 1)))], []⟩ (.cons (Q_add (x := (k : Int)) (y := 1) ⟨by omega, by omega⟩) .nil) ?_; clear S; intro ac w β S
        refine RG.done rfl (nx_then ?_)
        replace S := S.p [0, 1, 5] 0 ⟨[(0, .v (slv (a).length pa.1)), (1, .v (slv (b).length pb.1)), (5, .v (I ((k : Int) + 1)))], []⟩
        refine ⟨a.length - (k + 1), by omega, k + 1, _, _, _, rfl, ?_, ?_, ?_, S.cast (by kernel_rfl)⟩
        · clear S; first | omega | (simp [*]; done) | (simp [*]; omega)
        · clear S; first | omega | (simp [*]; done) | (simp [*]; omega)
        · clear S; exact take_eq_step (by omega) (by omega) he (by simp_all)
    · have g11 : ¬ ((k : Int) < ((a).length : Int)) := of_decide_eq_false h4
      refine wp_exit (ex_then (ex_then (ex_hit (nx_then (wp_seq (RG.start ?_))))))
      refine S.q 1 [4] 0 ⟨[(4, .v (B true))], []⟩ .nil ?_; clear S; intro ac w β S
      refine RG.done rfl (nx_then (wp_ret ?_))
      refine S.r [B true] ?_
      exact ⟨retB (by clear S; first | (simp; intro e; subst e; simp_all; done) | (simp; rw [take_all (by omega), take_all (by omega)] at he; exact he) | (simp; exact take_ne (by simp_all))), S.chg⟩

set_option maxRecDepth 100000 in
theorem c_laws_eqIns (w0 : World) (a : TIns) (b : TIns) : Calls Try.prog 122 [GT.val a (), GT.val b ()].toArray w0 (fun e w' => e = .returned (B (decide (a = b))) ∧ Chg NoB w0 w') := by
  refine Calls.walk (args := [GT.val a (), GT.val b ()]) NoB Try.func122 rfl rfl ?_
  intro ac β S
  refine wp_seq (RG.start ?_)
  refine S.q 3 [2, 3] 2 ⟨[(2, .p 0 0), (3, .p 1 0)], [GT.cells a (), GT.cells b ()]⟩ .nil ?_; clear S; intro ac w β S
  refine RG.done rfl (nx_then (wp_seq (wp_seq (RG.start ?_))))
  refine S.q 5 [2, 3, 9] 2 ⟨[(2, .p 0 0), (3, .p 1 0), (9, .v (B (a.opc != b.opc)))], [GT.cells a (), GT.cells b ()]⟩ .nil ?_; clear S; intro ac w β S
  refine RG.done rfl (nx_then ?_)
  refine S.c (a.opc != b.opc) (fun h1 => ?_) (fun h1 => ?_)
  · have g2 : ¬ (a.opc = b.opc) := bne_iff_ne.1 h1
    refine wp_seq (RG.start ?_)
    refine S.q 1 [4] 0 ⟨[(4, .v (B false))], []⟩ .nil ?_; clear S; intro ac w β S
    refine RG.done rfl (nx_then (wp_ret (rt_then ?_)))
    refine S.r [B false] ?_
    exact ⟨retB (by clear S; first | (simp [TIns.ext_iff, *]; done) | (simp_all [TIns.ext_iff]; done)), S.chg⟩
  · have g3 : a.opc = b.opc := ne_f h1
    refine wp_skip (nx_then (wp_seq (wp_seq (RG.start ?_))))
    refine S.q 5 [14] 0 ⟨[(14, .v (B (a.x != b.x)))], []⟩ .nil ?_; clear S; intro ac w β S
    refine RG.done rfl (nx_then ?_)
    refine S.c (a.x != b.x) (fun h4 => ?_) (fun h4 => ?_)
    · have g5 : ¬ (a.x = b.x) := bne_iff_ne.1 h4
      refine wp_seq (RG.start ?_)
      refine S.q 1 [4] 0 ⟨[(4, .v (B false))], []⟩ .nil ?_; clear S; intro ac w β S
      refine RG.done rfl (nx_then (wp_ret (rt_then ?_)))
      refine S.r [B false] ?_
      exact ⟨retB (by clear S; first | (simp [TIns.ext_iff, *]; done) | (simp_all [TIns.ext_iff]; done)), S.chg⟩
    · have g6 : a.x = b.x := ne_f h4
      refine wp_skip (nx_then (wp_seq (RG.start ?_)))
      refine S.q 1 [4] 0 ⟨[(4, .v (B true))], []⟩ .nil ?_; clear S; intro ac w β S
      refine RG.done rfl (nx_then (wp_ret ?_))
      refine S.r [B true] ?_
      exact ⟨retB (by clear S; first | (simp [TIns.ext_iff, *]; done) | (simp_all [TIns.ext_iff]; done)), S.chg⟩

set_option maxRecDepth 100000 in
theorem c_laws_eqInsS (w0 : World) (a : List TIns) (pa : LP TIns) (ha : GT.rd KK (Lt w0.heap.size) w0 a pa) (b : List TIns) (pb : LP TIns) (hb : GT.rd KK (Lt w0.heap.size) w0 b pb) : Calls Try.prog 114 [slv (a).length pa.1, slv (b).length pb.1].toArray w0 (fun e w' => e = .returned (B (decide (a = b))) ∧ Chg NoB w0 w') := by
  refine Calls.walk (args := [slv (a).length pa.1, slv (b).length pb.1]) NoB Try.func114 rfl rfl ?_
  intro ac β S
  have hlea : a.length ≤ 4194304 := LRd.le ha
  have hleb : b.length ≤ 4194304 := LRd.le hb
  refine wp_seq (RG.start ?_)
  refine S.q 1 [0, 1] 0 ⟨[(0, .v (slv (a).length pa.1)), (1, .v (slv (b).length pb.1))], []⟩ .nil ?_; clear S; intro ac w β S
  refine RG.done rfl (nx_then (wp_seq (wp_seq (RG.start ?_))))
  refine S.q 5 [0, 1, 10] 0 ⟨[(0, .v (slv (a).length pa.1)), (1, .v (slv (b).length pb.1)), (10, .v (B (((a).length : Int) != ((b).length : Int))))], []⟩ .nil ?_; clear S; intro ac w β S
  refine RG.done rfl (nx_then ?_)
  refine S.c (((a).length : Int) != ((b).length : Int)) (fun h1 => ?_) (fun h1 => ?_)
  · have g2 : ¬ (((a).length : Int) = ((b).length : Int)) := bne_iff_ne.1 h1
    refine wp_seq (RG.start ?_)
    refine S.q 1 [4] 0 ⟨[(4, .v (B false))], []⟩ .nil ?_; clear S; intro ac w β S
    refine RG.done rfl (nx_then (wp_ret (rt_then ?_)))
    refine S.r [B false] ?_
    exact ⟨retB (by clear S; first | (simp; intro e; subst e; simp_all; done) | (simp; rw [take_all (by omega), take_all (by omega)] at he; exact he) | (simp; exact take_ne (by simp_all))), S.chg⟩
  · have g3 : ((a).length : Int) = ((b).length : Int) := ne_f h1
    refine wp_skip (nx_then (wp_seq (wp_seq (RG.start ?_))))
    refine S.q 1 [0, 1, 5] 0 ⟨[(0, .v (slv (a).length pa.1)), (1, .v (slv (b).length pb.1)), (5, .v (I 0))], []⟩ .nil ?_; clear S; intro ac w β S
    refine RG.done rfl (nx_then (wp_block ?_))
    replace S := S.p [0, 1, 5] 0 ⟨[(0, .v (slv (a).length pa.1)), (1, .v (slv (b).length pb.1)), (5, .v (I 0))], []⟩
    refine wp_loop_down (fun mm ac w => ∃ (k : Nat)  (u : World) (N : Bl) (β : Nat → Nat), mm = a.length - k ∧ (k ≤ a.length) ∧ (a.length = b.length) ∧ (a.take k = b.take k) ∧ St Try.prog Try.f114.ntmps w0 NoB u N β ⟨[(0, .v (slv (a).length pa.1)), (1, .v (slv (b).length pb.1)), (5, .v (I (k : Int)))], []⟩ ac w) _ ⟨0, _, _, _, rfl, (by first | omega | (simp; done) | (simp; omega)), (by first | omega | (simp; done) | (simp; omega)), (by simp), S.cast (by kernel_rfl)⟩ ?_
    clear S
    rintro mm ac w ⟨k, u, N, β, rfl, hk, hab, he, S⟩
    refine wp_seq (wp_seq (RG.start ?_))
    refine S.q 4 [0, 1, 5, 14] 0 ⟨[(0, .v (slv (a).length pa.1)), (1, .v (slv (b).length pb.1)), (5, .v (I (k : Int))), (14, .v (B (decide ((k : Int) < ((a).length : Int)))))], []⟩ .nil ?_; clear S; intro ac w β S
    refine RG.done rfl (nx_then ?_)
    refine S.c (decide ((k : Int) < ((a).length : Int))) (fun h4 => ?_) (fun h4 => ?_)
    · have g5 : (k : Int) < ((a).length : Int) := of_decide_eq_true h4
      refine wp_skip (nx_then (wp_seq (wp_block (wp_seq ?_))))
      refine S.drawn (keep := [0, 1, 5, 26]) (m := 0) (σ' := ⟨[(0, .v (slv (a).length pa.1)), (1, .v (slv (b).length pb.1)), (5, .v (I (k : Int))), (26, .v (B (!(decide ((el a k) = (el b k))))))], []⟩) (.cons (Q_idx (S.arg ha) (l := (a).length) (k := k) (i := (k : Int)) rfl rfl (by omega) Try.underlying123 (by kernel_rfl)) (.cons (Q_el (S.arg ha) (t := 148) (k := k) (by omega) rfl (by kernel_rfl) (by kernel_rfl)) (.cons (Q_idx (S.arg hb) (l := (b).length) (k := k) (i := (k : Int)) rfl rfl (by omega) Try.underlying123 (by kernel_rfl)) (.cons (Q_el (S.arg hb) (t := 148) (k := k) (by omega) rfl (by kernel_rfl) (by kernel_rfl)) (.cons (Q_call fun w hw => c_laws_eqIns w (el a k) (el b k)) .nil))))) rfl (by kernel_rfl) (by kernel_rfl) ?_
      clear S; intro ac w S
      refine id (nx_then ?_)
      refine S.c (!(decide ((el a k) = (el b k)))) (fun h6 => ?_) (fun h6 => ?_)
      · have h7 : (decide ((el a k) = (el b k))) = false := not_t h6
        have g8 := of_decide_eq_false h7
        refine wp_seq (RG.start ?_)
        refine S.q 1 [4] 0 ⟨[(4, .v (B false))], []⟩ .nil ?_; clear S; intro ac w β S
        refine RG.done rfl (nx_then (wp_ret (rt_block (rt_then (rt_then (rt_block (rt_then ?_)))))))
        refine S.r [B false] ?_
        exact ⟨retB (by clear S; first | (simp; intro e; subst e; simp_all; done) | (simp; rw [take_all (by omega), take_all (by omega)] at he; exact he) | (simp; exact take_ne (by simp_all))), S.chg⟩
      · have h9 : (decide ((el a k) = (el b k))) = true := not_f h6
        have g10 := of_decide_eq_true h9
        refine wp_skip (nx_block (nx_then (RG.start ?_)))
        refine S.q 3 [0, 1, 5] 0 ⟨[(0, .v (slv (a).length pa.1)), (1, .v (slv (b).length pb.1)), (5, .v (I ((k : Int) + 1)))], []⟩ (.cons (Q_add (x := (k : Int)) (y := 1) ⟨by omega, by omega⟩) .nil) ?_; clear S; intro ac w β S
        refine RG.done rfl (nx_then ?_)
        replace S := S.p [0, 1, 5] 0 ⟨[(0, .v (slv (a).length pa.1)), (1, .v (slv (b).length pb.1)), (5, .v (I ((k : Int) + 1)))], []⟩
        refine ⟨a.length - (k + 1), by omega, k + 1, _, _, _, rfl, ?_, ?_, ?_, S.cast (by kernel_rfl)⟩
        · clear S; first | omega | (simp [*]; done) | (simp [*]; omega)
        · clear S; first | omega | (simp [*]; done) | (simp [*]; omega)
        · clear S; exact take_eq_step (by omega) (by omega) he (by simp_all)
    · have g11 : ¬ ((k : Int) < ((a).length : Int)) := of_decide_eq_false h4
      refine wp_exit (ex_then (ex_then (ex_hit (nx_then (wp_seq (RG.start ?_))))))
      refine S.q 1 [4] 0 ⟨[(4, .v (B true))], []⟩ .nil ?_; clear S; intro ac w β S
      refine RG.done rfl (nx_then (wp_ret ?_))
      refine S.r [B true] ?_
      exact ⟨retB (by clear S; first | (simp; intro e; subst e; simp_all; done) | (simp; rw [take_all (by omega), take_all (by omega)] at he; exact he) | (simp; exact take_ne (by simp_all))), S.chg⟩

set_option maxRecDepth 100000 in
theorem c_laws_eqCtl (w0 : World) (a : TCtl) (b : TCtl) : Calls Try.prog 115 [GT.val a (), GT.val b ()].toArray w0 (fun e w' => e = .returned (B (decide (a = b))) ∧ Chg NoB w0 w') := by
  refine Calls.walk (args := [GT.val a (), GT.val b ()]) NoB Try.func115 rfl rfl ?_
  intro ac β S
  refine wp_seq (RG.start ?_)
  refine S.q 3 [2, 3] 2 ⟨[(2, .p 0 0), (3, .p 1 0)], [GT.cells a (), GT.cells b ()]⟩ .nil ?_; clear S; intro ac w β S
  refine RG.done rfl (nx_then (wp_seq (wp_seq (RG.start ?_))))
  refine S.q 5 [2, 3, 9] 2 ⟨[(2, .p 0 0), (3, .p 1 0), (9, .v (B (a.traps != b.traps)))], [GT.cells a (), GT.cells b ()]⟩ .nil ?_; clear S; intro ac w β S
  refine RG.done rfl (nx_then ?_)
  refine S.c (a.traps != b.traps) (fun h1 => ?_) (fun h1 => ?_)
  · have g2 : ¬ (a.traps = b.traps) := bne_iff_ne.1 h1
    refine wp_seq (RG.start ?_)
    refine S.q 1 [4] 0 ⟨[(4, .v (B false))], []⟩ .nil ?_; clear S; intro ac w β S
    refine RG.done rfl (nx_then (wp_ret (rt_then ?_)))
    refine S.r [B false] ?_
    exact ⟨retB (by clear S; first | (simp [TCtl.ext_iff, *]; done) | (simp_all [TCtl.ext_iff]; done)), S.chg⟩
  · have g3 : a.traps = b.traps := ne_f h1
    refine wp_skip (nx_then (wp_seq (wp_seq (RG.start ?_))))
    refine S.q 5 [2, 3, 14] 2 ⟨[(2, .p 0 0), (3, .p 1 0), (14, .v (B (a.post != b.post)))], [GT.cells a (), GT.cells b ()]⟩ .nil ?_; clear S; intro ac w β S
    refine RG.done rfl (nx_then ?_)
    refine S.c (a.post != b.post) (fun h4 => ?_) (fun h4 => ?_)
    · have g5 : ¬ (a.post = b.post) := bne_iff_ne.1 h4
      refine wp_seq (RG.start ?_)
      refine S.q 1 [4] 0 ⟨[(4, .v (B false))], []⟩ .nil ?_; clear S; intro ac w β S
      refine RG.done rfl (nx_then (wp_ret (rt_then ?_)))
      refine S.r [B false] ?_
      exact ⟨retB (by clear S; first | (simp [TCtl.ext_iff, *]; done) | (simp_all [TCtl.ext_iff]; done)), S.chg⟩
    · have g6 : a.post = b.post := ne_f h4
      refine wp_skip (nx_then (wp_seq (wp_seq (RG.start ?_))))
      refine S.q 5 [19] 0 ⟨[(19, .v (B (!(a.opn == b.opn))))], []⟩ .nil ?_; clear S; intro ac w β S
      refine RG.done rfl (nx_then ?_)
      refine S.c (!(a.opn == b.opn)) (fun h7 => ?_) (fun h7 => ?_)
      · have h8 : (a.opn == b.opn) = false := not_t h7
        have g9 : ¬ (a.opn = b.opn) := ne_of_beq_false h8
        refine wp_seq (RG.start ?_)
        refine S.q 1 [4] 0 ⟨[(4, .v (B false))], []⟩ .nil ?_; clear S; intro ac w β S
        refine RG.done rfl (nx_then (wp_ret (rt_then ?_)))
        refine S.r [B false] ?_
        exact ⟨retB (by clear S; first | (simp [TCtl.ext_iff, *]; done) | (simp_all [TCtl.ext_iff]; done)), S.chg⟩
      · have h10 : (a.opn == b.opn) = true := not_f h7
        have g11 : a.opn = b.opn := eq_of_beq h10
        refine wp_skip (nx_then (wp_seq (RG.start ?_)))
        refine S.q 1 [4] 0 ⟨[(4, .v (B true))], []⟩ .nil ?_; clear S; intro ac w β S
        refine RG.done rfl (nx_then (wp_ret ?_))
        refine S.r [B true] ?_
        exact ⟨retB (by clear S; first | (simp [TCtl.ext_iff, *]; done) | (simp_all [TCtl.ext_iff]; done)), S.chg⟩

set_option maxRecDepth 100000 in
theorem c_laws_eqExit (w0 : World) (a : TExit) (b : TExit) : Calls Try.prog 116 [GT.val a (), GT.val b ()].toArray w0 (fun e w' => e = .returned (B (decide (a = b))) ∧ Chg NoB w0 w') := by
  refine Calls.walk (args := [GT.val a (), GT.val b ()]) NoB Try.func116 rfl rfl ?_
  intro ac β S
  refine wp_seq (RG.start ?_)
  refine S.q 3 [2, 3] 2 ⟨[(2, .p 0 0), (3, .p 1 0)], [GT.cells a (), GT.cells b ()]⟩ .nil ?_; clear S; intro ac w β S
  refine RG.done rfl (nx_then (wp_seq (wp_seq (RG.start ?_))))
  refine S.q 5 [2, 3, 9] 2 ⟨[(2, .p 0 0), (3, .p 1 0), (9, .v (B (a.kind != b.kind)))], [GT.cells a (), GT.cells b ()]⟩ .nil ?_; clear S; intro ac w β S
  refine RG.done rfl (nx_then ?_)
  refine S.c (a.kind != b.kind) (fun h1 => ?_) (fun h1 => ?_)
  · have g2 : ¬ (a.kind = b.kind) := bne_iff_ne.1 h1
    refine wp_seq (RG.start ?_)
    refine S.q 1 [4] 0 ⟨[(4, .v (B false))], []⟩ .nil ?_; clear S; intro ac w β S
    refine RG.done rfl (nx_then (wp_ret (rt_then ?_)))
    refine S.r [B false] ?_
    exact ⟨retB (by clear S; first | (simp [TExit.ext_iff, *]; done) | (simp_all [TExit.ext_iff]; done)), S.chg⟩
  · have g3 : a.kind = b.kind := ne_f h1
    refine wp_skip (nx_then (wp_seq (wp_seq (RG.start ?_))))
    refine S.q 5 [2, 3, 14] 2 ⟨[(2, .p 0 0), (3, .p 1 0), (14, .v (B (a.page != b.page)))], [GT.cells a (), GT.cells b ()]⟩ .nil ?_; clear S; intro ac w β S
    refine RG.done rfl (nx_then ?_)
    refine S.c (a.page != b.page) (fun h4 => ?_) (fun h4 => ?_)
    · have g5 : ¬ (a.page = b.page) := bne_iff_ne.1 h4
      refine wp_seq (RG.start ?_)
      refine S.q 1 [4] 0 ⟨[(4, .v (B false))], []⟩ .nil ?_; clear S; intro ac w β S
      refine RG.done rfl (nx_then (wp_ret (rt_then ?_)))
      refine S.r [B false] ?_
      exact ⟨retB (by clear S; first | (simp [TExit.ext_iff, *]; done) | (simp_all [TExit.ext_iff]; done)), S.chg⟩
    · have g6 : a.page = b.page := ne_f h4
      refine wp_skip (nx_then (wp_seq (wp_seq (RG.start ?_))))
      refine S.q 5 [2, 3, 19] 2 ⟨[(2, .p 0 0), (3, .p 1 0), (19, .v (B (!(a.wr == b.wr))))], [GT.cells a (), GT.cells b ()]⟩ .nil ?_; clear S; intro ac w β S
      refine RG.done rfl (nx_then ?_)
      refine S.c (!(a.wr == b.wr)) (fun h7 => ?_) (fun h7 => ?_)
      · have h8 : (a.wr == b.wr) = false := not_t h7
        have g9 : ¬ (a.wr = b.wr) := ne_of_beq_false h8
        refine wp_seq (RG.start ?_)
        refine S.q 1 [4] 0 ⟨[(4, .v (B false))], []⟩ .nil ?_; clear S; intro ac w β S
        refine RG.done rfl (nx_then (wp_ret (rt_then ?_)))
        refine S.r [B false] ?_
        exact ⟨retB (by clear S; first | (simp [TExit.ext_iff, *]; done) | (simp_all [TExit.ext_iff]; done)), S.chg⟩
      · have h10 : (a.wr == b.wr) = true := not_f h7
        have g11 : a.wr = b.wr := eq_of_beq h10
        refine wp_skip (nx_then (wp_seq (wp_seq (RG.start ?_))))
        refine S.q 5 [24] 0 ⟨[(24, .v (B (a.n != b.n)))], []⟩ .nil ?_; clear S; intro ac w β S
        refine RG.done rfl (nx_then ?_)
        refine S.c (a.n != b.n) (fun h12 => ?_) (fun h12 => ?_)
        · have g13 : ¬ (a.n = b.n) := bne_iff_ne.1 h12
          refine wp_seq (RG.start ?_)
          refine S.q 1 [4] 0 ⟨[(4, .v (B false))], []⟩ .nil ?_; clear S; intro ac w β S
          refine RG.done rfl (nx_then (wp_ret (rt_then ?_)))
          refine S.r [B false] ?_
          exact ⟨retB (by clear S; first | (simp [TExit.ext_iff, *]; done) | (simp_all [TExit.ext_iff]; done)), S.chg⟩
        · have g14 : a.n = b.n := ne_f h12
          refine wp_skip (nx_then (wp_seq (RG.start ?_)))
          refine S.q 1 [4] 0 ⟨[(4, .v (B true))], []⟩ .nil ?_; clear S; intro ac w β S
          refine RG.done rfl (nx_then (wp_ret ?_))
          refine S.r [B true] ?_
          exact ⟨retB (by clear S; first | (simp [TExit.ext_iff, *]; done) | (simp_all [TExit.ext_iff]; done)), S.chg⟩

set_option maxRecDepth 100000 in
theorem c_laws_eqGuest (w0 : World) (a : TGuest) (pa : PGuest) (ha : GT.rd KK (Lt w0.heap.size) w0 a pa) (b : TGuest) (pb : PGuest) (hb : GT.rd KK (Lt w0.heap.size) w0 b pb) : Calls Try.prog 95 [GT.val a pa, GT.val b pb].toArray w0 (fun e w' => e = .returned (B (decide (a = b))) ∧ Chg NoB w0 w') := by
  refine Calls.walk (args := [GT.val a pa, GT.val b pb]) NoB Try.func95 rfl rfl ?_
  intro ac β S
  have hlea_prog : a.prog.length ≤ 4194304 := LRd.le (RGuest.prog (d := a) ha)
  have hlea_written : a.written.length ≤ 4194304 := LRd.le (RGuest.written (d := a) ha)
  have hlea_live : a.live.length ≤ 4194304 := LRd.le (RGuest.live (d := a) ha)
  have hlea_seen : a.seen.length ≤ 4194304 := LRd.le (RGuest.seen (d := a) ha)
  have hleb_prog : b.prog.length ≤ 4194304 := LRd.le (RGuest.prog (d := b) hb)
  have hleb_written : b.written.length ≤ 4194304 := LRd.le (RGuest.written (d := b) hb)
  have hleb_live : b.live.length ≤ 4194304 := LRd.le (RGuest.live (d := b) hb)
  have hleb_seen : b.seen.length ≤ 4194304 := LRd.le (RGuest.seen (d := b) hb)
  refine wp_seq (RG.start ?_)
  refine S.q 3 [2, 3] 2 ⟨[(2, .p 0 0), (3, .p 1 0)], [GT.cells a pa, GT.cells b pb]⟩ .nil ?_; clear S; intro ac w β S
  refine RG.done rfl (nx_then (wp_seq (wp_seq (RG.start ?_))))
  refine S.q 6 [2, 3, 10] 2 ⟨[(2, .p 0 0), (3, .p 1 0), (10, .v (B (!(decide (a.prog = b.prog)))))], [GT.cells a pa, GT.cells b pb]⟩ (.cons (Q_call fun w hw => c_laws_eqInsS w a.prog pa.prog (rd_of (RGuest.prog (d := a) (S.arg ha)) hw) b.prog pb.prog (rd_of (RGuest.prog (d := b) (S.arg hb)) hw)) .nil) ?_; clear S; intro ac w β S
  refine RG.done rfl (nx_then ?_)
  refine S.c (!(decide (a.prog = b.prog))) (fun h1 => ?_) (fun h1 => ?_)
  · have h2 : (decide (a.prog = b.prog)) = false := not_t h1
    have g3 := of_decide_eq_false h2
    refine wp_seq (RG.start ?_)
    refine S.q 1 [4] 0 ⟨[(4, .v (B false))], []⟩ .nil ?_; clear S; intro ac w β S
    refine RG.done rfl (nx_then (wp_ret (rt_then ?_)))
    refine S.r [B false] ?_
    exact ⟨retB (by clear S; first | (simp [TGuest.ext_iff, *]; done) | (simp_all [TGuest.ext_iff]; done)), S.chg⟩
  · have h4 : (decide (a.prog = b.prog)) = true := not_f h1
    have g5 := of_decide_eq_true h4
    refine wp_skip (nx_then (wp_seq (wp_seq (RG.start ?_))))
    refine S.q 5 [2, 3, 15] 2 ⟨[(2, .p 0 0), (3, .p 1 0), (15, .v (B (a.acc != b.acc)))], [GT.cells a pa, GT.cells b pb]⟩ .nil ?_; clear S; intro ac w β S
    refine RG.done rfl (nx_then ?_)
    refine S.c (a.acc != b.acc) (fun h6 => ?_) (fun h6 => ?_)
    · have g7 : ¬ (a.acc = b.acc) := bne_iff_ne.1 h6
      refine wp_seq (RG.start ?_)
      refine S.q 1 [4] 0 ⟨[(4, .v (B false))], []⟩ .nil ?_; clear S; intro ac w β S
      refine RG.done rfl (nx_then (wp_ret (rt_then ?_)))
      refine S.r [B false] ?_
      exact ⟨retB (by clear S; first | (simp [TGuest.ext_iff, *]; done) | (simp_all [TGuest.ext_iff]; done)), S.chg⟩
    · have g8 : a.acc = b.acc := ne_f h6
      refine wp_skip (nx_then (wp_seq (wp_seq (RG.start ?_))))
      refine S.q 5 [2, 3, 20] 2 ⟨[(2, .p 0 0), (3, .p 1 0), (20, .v (B (a.pc != b.pc)))], [GT.cells a pa, GT.cells b pb]⟩ .nil ?_; clear S; intro ac w β S
      refine RG.done rfl (nx_then ?_)
      refine S.c (a.pc != b.pc) (fun h9 => ?_) (fun h9 => ?_)
      · have g10 : ¬ (a.pc = b.pc) := bne_iff_ne.1 h9
        refine wp_seq (RG.start ?_)
        refine S.q 1 [4] 0 ⟨[(4, .v (B false))], []⟩ .nil ?_; clear S; intro ac w β S
        refine RG.done rfl (nx_then (wp_ret (rt_then ?_)))
        refine S.r [B false] ?_
        exact ⟨retB (by clear S; first | (simp [TGuest.ext_iff, *]; done) | (simp_all [TGuest.ext_iff]; done)), S.chg⟩
      · have g11 : a.pc = b.pc := ne_f h9
        refine wp_skip (nx_then (wp_seq (wp_seq (RG.start ?_))))
        refine S.q 6 [2, 3, 26] 2 ⟨[(2, .p 0 0), (3, .p 1 0), (26, .v (B (!(decide (a.written = b.written)))))], [GT.cells a pa, GT.cells b pb]⟩ (.cons (Q_call fun w hw => c_laws_eqSlotS w a.written pa.written (rd_of (RGuest.written (d := a) (S.arg ha)) hw) b.written pb.written (rd_of (RGuest.written (d := b) (S.arg hb)) hw)) .nil) ?_; clear S; intro ac w β S
        refine RG.done rfl (nx_then ?_)
        refine S.c (!(decide (a.written = b.written))) (fun h12 => ?_) (fun h12 => ?_)
        · have h13 : (decide (a.written = b.written)) = false := not_t h12
          have g14 := of_decide_eq_false h13
          refine wp_seq (RG.start ?_)
          refine S.q 1 [4] 0 ⟨[(4, .v (B false))], []⟩ .nil ?_; clear S; intro ac w β S
          refine RG.done rfl (nx_then (wp_ret (rt_then ?_)))
          refine S.r [B false] ?_
          exact ⟨retB (by clear S; first | (simp [TGuest.ext_iff, *]; done) | (simp_all [TGuest.ext_iff]; done)), S.chg⟩
        · have h15 : (decide (a.written = b.written)) = true := not_f h12
          have g16 := of_decide_eq_true h15
          refine wp_skip (nx_then (wp_seq (wp_seq (RG.start ?_))))
          refine S.q 6 [2, 3, 32] 2 ⟨[(2, .p 0 0), (3, .p 1 0), (32, .v (B (!(decide (a.live = b.live)))))], [GT.cells a pa, GT.cells b pb]⟩ (.cons (Q_call fun w hw => c_laws_eqSlotS w a.live pa.live (rd_of (RGuest.live (d := a) (S.arg ha)) hw) b.live pb.live (rd_of (RGuest.live (d := b) (S.arg hb)) hw)) .nil) ?_; clear S; intro ac w β S
          refine RG.done rfl (nx_then ?_)
          refine S.c (!(decide (a.live = b.live))) (fun h17 => ?_) (fun h17 => ?_)
          · have h18 : (decide (a.live = b.live)) = false := not_t h17
            have g19 := of_decide_eq_false h18
            refine wp_seq (RG.start ?_)
            refine S.q 1 [4] 0 ⟨[(4, .v (B false))], []⟩ .nil ?_; clear S; intro ac w β S
            refine RG.done rfl (nx_then (wp_ret (rt_then ?_)))
            refine S.r [B false] ?_
            exact ⟨retB (by clear S; first | (simp [TGuest.ext_iff, *]; done) | (simp_all [TGuest.ext_iff]; done)), S.chg⟩
          · have h20 : (decide (a.live = b.live)) = true := not_f h17
            have g21 := of_decide_eq_true h20
            refine wp_skip (nx_then (wp_seq (wp_seq (RG.start ?_))))
            refine S.q 6 [2, 3, 38] 2 ⟨[(2, .p 0 0), (3, .p 1 0), (38, .v (B (!(decide (a.ctl = b.ctl)))))], [GT.cells a pa, GT.cells b pb]⟩ (.cons (Q_call fun w hw => c_laws_eqCtl w a.ctl b.ctl) .nil) ?_; clear S; intro ac w β S
            refine RG.done rfl (nx_then ?_)
            refine S.c (!(decide (a.ctl = b.ctl))) (fun h22 => ?_) (fun h22 => ?_)
            · have h23 : (decide (a.ctl = b.ctl)) = false := not_t h22
              have g24 := of_decide_eq_false h23
              refine wp_seq (RG.start ?_)
              refine S.q 1 [4] 0 ⟨[(4, .v (B false))], []⟩ .nil ?_; clear S; intro ac w β S
              refine RG.done rfl (nx_then (wp_ret (rt_then ?_)))
              refine S.r [B false] ?_
              exact ⟨retB (by clear S; first | (simp [TGuest.ext_iff, *]; done) | (simp_all [TGuest.ext_iff]; done)), S.chg⟩
            · have h25 : (decide (a.ctl = b.ctl)) = true := not_f h22
              have g26 := of_decide_eq_true h25
              refine wp_skip (nx_then (wp_seq (wp_seq (RG.start ?_))))
              refine S.q 5 [2, 3, 43] 2 ⟨[(2, .p 0 0), (3, .p 1 0), (43, .v (B (a.pend != b.pend)))], [GT.cells a pa, GT.cells b pb]⟩ .nil ?_; clear S; intro ac w β S
              refine RG.done rfl (nx_then ?_)
              refine S.c (a.pend != b.pend) (fun h27 => ?_) (fun h27 => ?_)
              · have g28 : ¬ (a.pend = b.pend) := bne_iff_ne.1 h27
                refine wp_seq (RG.start ?_)
                refine S.q 1 [4] 0 ⟨[(4, .v (B false))], []⟩ .nil ?_; clear S; intro ac w β S
                refine RG.done rfl (nx_then (wp_ret (rt_then ?_)))
                refine S.r [B false] ?_
                exact ⟨retB (by clear S; first | (simp [TGuest.ext_iff, *]; done) | (simp_all [TGuest.ext_iff]; done)), S.chg⟩
              · have g29 : a.pend = b.pend := ne_f h27
                refine wp_skip (nx_then (wp_seq (wp_seq (RG.start ?_))))
                refine S.q 6 [2, 3, 49] 2 ⟨[(2, .p 0 0), (3, .p 1 0), (49, .v (B (!(decide (a.exit = b.exit)))))], [GT.cells a pa, GT.cells b pb]⟩ (.cons (Q_call fun w hw => c_laws_eqExit w a.exit b.exit) .nil) ?_; clear S; intro ac w β S
                refine RG.done rfl (nx_then ?_)
                refine S.c (!(decide (a.exit = b.exit))) (fun h30 => ?_) (fun h30 => ?_)
                · have h31 : (decide (a.exit = b.exit)) = false := not_t h30
                  have g32 := of_decide_eq_false h31
                  refine wp_seq (RG.start ?_)
                  refine S.q 1 [4] 0 ⟨[(4, .v (B false))], []⟩ .nil ?_; clear S; intro ac w β S
                  refine RG.done rfl (nx_then (wp_ret (rt_then ?_)))
                  refine S.r [B false] ?_
                  exact ⟨retB (by clear S; first | (simp [TGuest.ext_iff, *]; done) | (simp_all [TGuest.ext_iff]; done)), S.chg⟩
                · have h33 : (decide (a.exit = b.exit)) = true := not_f h30
                  have g34 := of_decide_eq_true h33
                  refine wp_skip (nx_then (wp_seq (wp_seq (RG.start ?_))))
                  refine S.q 5 [2, 3, 54] 2 ⟨[(2, .p 0 0), (3, .p 1 0), (54, .v (B (!(a.halted == b.halted))))], [GT.cells a pa, GT.cells b pb]⟩ .nil ?_; clear S; intro ac w β S
                  refine RG.done rfl (nx_then ?_)
                  refine S.c (!(a.halted == b.halted)) (fun h35 => ?_) (fun h35 => ?_)
                  · have h36 : (a.halted == b.halted) = false := not_t h35
                    have g37 : ¬ (a.halted = b.halted) := ne_of_beq_false h36
                    refine wp_seq (RG.start ?_)
                    refine S.q 1 [4] 0 ⟨[(4, .v (B false))], []⟩ .nil ?_; clear S; intro ac w β S
                    refine RG.done rfl (nx_then (wp_ret (rt_then ?_)))
                    refine S.r [B false] ?_
                    exact ⟨retB (by clear S; first | (simp [TGuest.ext_iff, *]; done) | (simp_all [TGuest.ext_iff]; done)), S.chg⟩
                  · have h38 : (a.halted == b.halted) = true := not_f h35
                    have g39 : a.halted = b.halted := eq_of_beq h38
                    refine wp_skip (nx_then (wp_seq (wp_seq (RG.start ?_))))
                    refine S.q 6 [60] 0 ⟨[(60, .v (B (!(decide (a.seen = b.seen)))))], []⟩ (.cons (Q_call fun w hw => c_laws_eqIntS w a.seen pa.seen (rd_of (RGuest.seen (d := a) (S.arg ha)) hw) b.seen pb.seen (rd_of (RGuest.seen (d := b) (S.arg hb)) hw)) .nil) ?_; clear S; intro ac w β S
                    refine RG.done rfl (nx_then ?_)
                    refine S.c (!(decide (a.seen = b.seen))) (fun h40 => ?_) (fun h40 => ?_)
                    · have h41 : (decide (a.seen = b.seen)) = false := not_t h40
                      have g42 := of_decide_eq_false h41
                      refine wp_seq (RG.start ?_)
                      refine S.q 1 [4] 0 ⟨[(4, .v (B false))], []⟩ .nil ?_; clear S; intro ac w β S
                      refine RG.done rfl (nx_then (wp_ret (rt_then ?_)))
                      refine S.r [B false] ?_
                      exact ⟨retB (by clear S; first | (simp [TGuest.ext_iff, *]; done) | (simp_all [TGuest.ext_iff]; done)), S.chg⟩
                    · have h43 : (decide (a.seen = b.seen)) = true := not_f h40
                      have g44 := of_decide_eq_true h43
                      refine wp_skip (nx_then (wp_seq (RG.start ?_)))
                      refine S.q 1 [4] 0 ⟨[(4, .v (B true))], []⟩ .nil ?_; clear S; intro ac w β S
                      refine RG.done rfl (nx_then (wp_ret ?_))
                      refine S.r [B true] ?_
                      exact ⟨retB (by clear S; first | (simp [TGuest.ext_iff, *]; done) | (simp_all [TGuest.ext_iff]; done)), S.chg⟩

set_option maxRecDepth 100000 in
theorem c_laws_eqGuestS (w0 : World) (a : List TGuest) (pa : LP TGuest) (ha : GT.rd KK (Lt w0.heap.size) w0 a pa) (b : List TGuest) (pb : LP TGuest) (hb : GT.rd KK (Lt w0.heap.size) w0 b pb) : Calls Try.prog 57 [slv (a).length pa.1, slv (b).length pb.1].toArray w0 (fun e w' => e = .returned (B (decide (a = b))) ∧ Chg NoB w0 w') := by
  refine Calls.walk (args := [slv (a).length pa.1, slv (b).length pb.1]) NoB Try.func57 rfl rfl ?_
  intro ac β S
  have hlea : a.length ≤ 4194304 := LRd.le ha
  have hleb : b.length ≤ 4194304 := LRd.le hb
  refine wp_seq (RG.start ?_)
  refine S.q 1 [0, 1] 0 ⟨[(0, .v (slv (a).length pa.1)), (1, .v (slv (b).length pb.1))], []⟩ .nil ?_; clear S; intro ac w β S
  refine RG.done rfl (nx_then (wp_seq (wp_seq (RG.start ?_))))
  refine S.q 5 [0, 1, 10] 0 ⟨[(0, .v (slv (a).length pa.1)), (1, .v (slv (b).length pb.1)), (10, .v (B (((a).length : Int) != ((b).length : Int))))], []⟩ .nil ?_; clear S; intro ac w β S
  refine RG.done rfl (nx_then ?_)
  refine S.c (((a).length : Int) != ((b).length : Int)) (fun h1 => ?_) (fun h1 => ?_)
  · have g2 : ¬ (((a).length : Int) = ((b).length : Int)) := bne_iff_ne.1 h1
    refine wp_seq (RG.start ?_)
    refine S.q 1 [4] 0 ⟨[(4, .v (B false))], []⟩ .nil ?_; clear S; intro ac w β S
    refine RG.done rfl (nx_then (wp_ret (rt_then ?_)))
    refine S.r [B false] ?_
    exact ⟨retB (by clear S; first | (simp; intro e; subst e; simp_all; done) | (simp; rw [take_all (by omega), take_all (by omega)] at he; exact he) | (simp; exact take_ne (by simp_all))), S.chg⟩
  · have g3 : ((a).length : Int) = ((b).length : Int) := ne_f h1
    refine wp_skip (nx_then (wp_seq (wp_seq (RG.start ?_))))
    refine S.q 1 [0, 1, 5] 0 ⟨[(0, .v (slv (a).length pa.1)), (1, .v (slv (b).length pb.1)), (5, .v (I 0))], []⟩ .nil ?_; clear S; intro ac w β S
    refine RG.done rfl (nx_then (wp_block ?_))
    replace S := S.p [0, 1, 5] 0 ⟨[(0, .v (slv (a).length pa.1)), (1, .v (slv (b).length pb.1)), (5, .v (I 0))], []⟩
    refine wp_loop_down (fun mm ac w => ∃ (k : Nat)  (u : World) (N : Bl) (β : Nat → Nat), mm = a.length - k ∧ (k ≤ a.length) ∧ (a.length = b.length) ∧ (a.take k = b.take k) ∧ St Try.prog Try.f57.ntmps w0 NoB u N β ⟨[(0, .v (slv (a).length pa.1)), (1, .v (slv (b).length pb.1)), (5, .v (I (k : Int)))], []⟩ ac w) _ ⟨0, _, _, _, rfl, (by first | omega | (simp; done) | (simp; omega)), (by first | omega | (simp; done) | (simp; omega)), (by simp), S.cast (by kernel_rfl)⟩ ?_
    clear S
    rintro mm ac w ⟨k, u, N, β, rfl, hk, hab, he, S⟩
    refine wp_seq (wp_seq (RG.start ?_))
    refine S.q 4 [0, 1, 5, 14] 0 ⟨[(0, .v (slv (a).length pa.1)), (1, .v (slv (b).length pb.1)), (5, .v (I (k : Int))), (14, .v (B (decide ((k : Int) < ((a).length : Int)))))], []⟩ .nil ?_; clear S; intro ac w β S
    refine RG.done rfl (nx_then ?_)
    refine S.c (decide ((k : Int) < ((a).length : Int))) (fun h4 => ?_) (fun h4 => ?_)
    · have g5 : (k : Int) < ((a).length : Int) := of_decide_eq_true h4
      refine wp_skip (nx_then (wp_seq (wp_block (wp_seq ?_))))
      refine S.drawn (keep := [0, 1, 5, 26]) (m := 0) (σ' := ⟨[(0, .v (slv (a).length pa.1)), (1, .v (slv (b).length pb.1)), (5, .v (I (k : Int))), (26, .v (B (!(decide ((el a k) = (el b k))))))], []⟩) (.cons (Q_idx (S.arg ha) (l := (a).length) (k := k) (i := (k : Int)) rfl rfl (by omega) Try.underlying43 (by kernel_rfl)) (.cons (Q_el (S.arg ha) (t := 127) (k := k) (by omega) rfl (by kernel_rfl) (by kernel_rfl)) (.cons (Q_idx (S.arg hb) (l := (b).length) (k := k) (i := (k : Int)) rfl rfl (by omega) Try.underlying43 (by kernel_rfl)) (.cons (Q_el (S.arg hb) (t := 127) (k := k) (by omega) rfl (by kernel_rfl) (by kernel_rfl)) (.cons (Q_call fun w hw => c_laws_eqGuest w (el a k) (pa.2 k) (rd_of (LRd.el (S.arg ha) k (by omega)) hw) (el b k) (pb.2 k) (rd_of (LRd.el (S.arg hb) k (by omega)) hw)) .nil))))) rfl (by kernel_rfl) (by kernel_rfl) ?_
      clear S; intro ac w S
      refine id (nx_then ?_)
      refine S.c (!(decide ((el a k) = (el b k)))) (fun h6 => ?_) (fun h6 => ?_)
      · have h7 : (decide ((el a k) = (el b k))) = false := not_t h6
        have g8 := of_decide_eq_false h7
        refine wp_seq (RG.start ?_)
        refine S.q 1 [4] 0 ⟨[(4, .v (B false))], []⟩ .nil ?_; clear S; intro ac w β S
        refine RG.done rfl (nx_then (wp_ret (rt_block (rt_then (rt_then (rt_block (rt_then ?_)))))))
        refine S.r [B false] ?_
        exact ⟨retB (by clear S; first | (simp; intro e; subst e; simp_all; done) | (simp; rw [take_all (by omega), take_all (by omega)] at he; exact he) | (simp; exact take_ne (by simp_all))), S.chg⟩
      · have h9 : (decide ((el a k) = (el b k))) = true := not_f h6
        have g10 := of_decide_eq_true h9
        refine wp_skip (nx_block (nx_then (RG.start ?_)))
        refine S.q 3 [0, 1, 5] 0 ⟨[(0, .v (slv (a).length pa.1)), (1, .v (slv (b).length pb.1)), (5, .v (I ((k : Int) + 1)))], []⟩ (.cons (Q_add (x := (k : Int)) (y := 1) ⟨by omega, by omega⟩) .nil) ?_; clear S; intro ac w β S
        refine RG.done rfl (nx_then ?_)
        replace S := S.p [0, 1, 5] 0 ⟨[(0, .v (slv (a).length pa.1)), (1, .v (slv (b).length pb.1)), (5, .v (I ((k : Int) + 1)))], []⟩
        refine ⟨a.length - (k + 1), by omega, k + 1, _, _, _, rfl, ?_, ?_, ?_, S.cast (by kernel_rfl)⟩
        · clear S; first | omega | (simp [*]; done) | (simp [*]; omega)
        · clear S; first | omega | (simp [*]; done) | (simp [*]; omega)
        · clear S; exact take_eq_step (by omega) (by omega) he (by simp_all)
    · have g11 : ¬ ((k : Int) < ((a).length : Int)) := of_decide_eq_false h4
      refine wp_exit (ex_then (ex_then (ex_hit (nx_then (wp_seq (RG.start ?_))))))
      refine S.q 1 [4] 0 ⟨[(4, .v (B true))], []⟩ .nil ?_; clear S; intro ac w β S
      refine RG.done rfl (nx_then (wp_ret ?_))
      refine S.r [B true] ?_
      exact ⟨retB (by clear S; first | (simp; intro e; subst e; simp_all; done) | (simp; rw [take_all (by omega), take_all (by omega)] at he; exact he) | (simp; exact take_ne (by simp_all))), S.chg⟩

set_option maxRecDepth 100000 in
theorem c_laws_eqKept (w0 : World) (a : TKept) (pa : PKept) (ha : GT.rd KK (Lt w0.heap.size) w0 a pa) (b : TKept) (pb : PKept) (hb : GT.rd KK (Lt w0.heap.size) w0 b pb) : Calls Try.prog 96 [GT.val a pa, GT.val b pb].toArray w0 (fun e w' => e = .returned (B (decide (a = b))) ∧ Chg NoB w0 w') := by
  refine Calls.walk (args := [GT.val a pa, GT.val b pb]) NoB Try.func96 rfl rfl ?_
  intro ac β S
  have hlea_known : a.known.length ≤ 4194304 := LRd.le (RKept.known (d := a) ha)
  have hlea_slots : a.slots.length ≤ 4194304 := LRd.le (RKept.slots (d := a) ha)
  have hleb_known : b.known.length ≤ 4194304 := LRd.le (RKept.known (d := b) hb)
  have hleb_slots : b.slots.length ≤ 4194304 := LRd.le (RKept.slots (d := b) hb)
  refine wp_seq (RG.start ?_)
  refine S.q 3 [2, 3] 2 ⟨[(2, .p 0 0), (3, .p 1 0)], [GT.cells a pa, GT.cells b pb]⟩ .nil ?_; clear S; intro ac w β S
  refine RG.done rfl (nx_then (wp_seq (wp_seq (RG.start ?_))))
  refine S.q 6 [2, 3, 10] 2 ⟨[(2, .p 0 0), (3, .p 1 0), (10, .v (B (!(decide (a.known = b.known)))))], [GT.cells a pa, GT.cells b pb]⟩ (.cons (Q_call fun w hw => c_laws_eqBoolS w a.known pa.known (rd_of (RKept.known (d := a) (S.arg ha)) hw) b.known pb.known (rd_of (RKept.known (d := b) (S.arg hb)) hw)) .nil) ?_; clear S; intro ac w β S
  refine RG.done rfl (nx_then ?_)
  refine S.c (!(decide (a.known = b.known))) (fun h1 => ?_) (fun h1 => ?_)
  · have h2 : (decide (a.known = b.known)) = false := not_t h1
    have g3 := of_decide_eq_false h2
    refine wp_seq (RG.start ?_)
    refine S.q 1 [4] 0 ⟨[(4, .v (B false))], []⟩ .nil ?_; clear S; intro ac w β S
    refine RG.done rfl (nx_then (wp_ret (rt_then ?_)))
    refine S.r [B false] ?_
    exact ⟨retB (by clear S; first | (simp [TKept.ext_iff, *]; done) | (simp_all [TKept.ext_iff]; done)), S.chg⟩
  · have h4 : (decide (a.known = b.known)) = true := not_f h1
    have g5 := of_decide_eq_true h4
    refine wp_skip (nx_then (wp_seq (wp_seq (RG.start ?_))))
    refine S.q 6 [16] 0 ⟨[(16, .v (B (!(decide (a.slots = b.slots)))))], []⟩ (.cons (Q_call fun w hw => c_laws_eqSlotS w a.slots pa.slots (rd_of (RKept.slots (d := a) (S.arg ha)) hw) b.slots pb.slots (rd_of (RKept.slots (d := b) (S.arg hb)) hw)) .nil) ?_; clear S; intro ac w β S
    refine RG.done rfl (nx_then ?_)
    refine S.c (!(decide (a.slots = b.slots))) (fun h6 => ?_) (fun h6 => ?_)
    · have h7 : (decide (a.slots = b.slots)) = false := not_t h6
      have g8 := of_decide_eq_false h7
      refine wp_seq (RG.start ?_)
      refine S.q 1 [4] 0 ⟨[(4, .v (B false))], []⟩ .nil ?_; clear S; intro ac w β S
      refine RG.done rfl (nx_then (wp_ret (rt_then ?_)))
      refine S.r [B false] ?_
      exact ⟨retB (by clear S; first | (simp [TKept.ext_iff, *]; done) | (simp_all [TKept.ext_iff]; done)), S.chg⟩
    · have h9 : (decide (a.slots = b.slots)) = true := not_f h6
      have g10 := of_decide_eq_true h9
      refine wp_skip (nx_then (wp_seq (RG.start ?_)))
      refine S.q 1 [4] 0 ⟨[(4, .v (B true))], []⟩ .nil ?_; clear S; intro ac w β S
      refine RG.done rfl (nx_then (wp_ret ?_))
      refine S.r [B true] ?_
      exact ⟨retB (by clear S; first | (simp [TKept.ext_iff, *]; done) | (simp_all [TKept.ext_iff]; done)), S.chg⟩

set_option maxRecDepth 100000 in
theorem c_laws_eqKeptS (w0 : World) (a : List TKept) (pa : LP TKept) (ha : GT.rd KK (Lt w0.heap.size) w0 a pa) (b : List TKept) (pb : LP TKept) (hb : GT.rd KK (Lt w0.heap.size) w0 b pb) : Calls Try.prog 59 [slv (a).length pa.1, slv (b).length pb.1].toArray w0 (fun e w' => e = .returned (B (decide (a = b))) ∧ Chg NoB w0 w') := by
  refine Calls.walk (args := [slv (a).length pa.1, slv (b).length pb.1]) NoB Try.func59 rfl rfl ?_
  intro ac β S
  have hlea : a.length ≤ 4194304 := LRd.le ha
  have hleb : b.length ≤ 4194304 := LRd.le hb
  refine wp_seq (RG.start ?_)
  refine S.q 1 [0, 1] 0 ⟨[(0, .v (slv (a).length pa.1)), (1, .v (slv (b).length pb.1))], []⟩ .nil ?_; clear S; intro ac w β S
  refine RG.done rfl (nx_then (wp_seq (wp_seq (RG.start ?_))))
  refine S.q 5 [0, 1, 10] 0 ⟨[(0, .v (slv (a).length pa.1)), (1, .v (slv (b).length pb.1)), (10, .v (B (((a).length : Int) != ((b).length : Int))))], []⟩ .nil ?_; clear S; intro ac w β S
  refine RG.done rfl (nx_then ?_)
  refine S.c (((a).length : Int) != ((b).length : Int)) (fun h1 => ?_) (fun h1 => ?_)
  · have g2 : ¬ (((a).length : Int) = ((b).length : Int)) := bne_iff_ne.1 h1
    refine wp_seq (RG.start ?_)
    refine S.q 1 [4] 0 ⟨[(4, .v (B false))], []⟩ .nil ?_; clear S; intro ac w β S
    refine RG.done rfl (nx_then (wp_ret (rt_then ?_)))
    refine S.r [B false] ?_
    exact ⟨retB (by clear S; first | (simp; intro e; subst e; simp_all; done) | (simp; rw [take_all (by omega), take_all (by omega)] at he; exact he) | (simp; exact take_ne (by simp_all))), S.chg⟩
  · have g3 : ((a).length : Int) = ((b).length : Int) := ne_f h1
    refine wp_skip (nx_then (wp_seq (wp_seq (RG.start ?_))))
    refine S.q 1 [0, 1, 5] 0 ⟨[(0, .v (slv (a).length pa.1)), (1, .v (slv (b).length pb.1)), (5, .v (I 0))], []⟩ .nil ?_; clear S; intro ac w β S
    refine RG.done rfl (nx_then (wp_block ?_))
    replace S := S.p [0, 1, 5] 0 ⟨[(0, .v (slv (a).length pa.1)), (1, .v (slv (b).length pb.1)), (5, .v (I 0))], []⟩
    refine wp_loop_down (fun mm ac w => ∃ (k : Nat)  (u : World) (N : Bl) (β : Nat → Nat), mm = a.length - k ∧ (k ≤ a.length) ∧ (a.length = b.length) ∧ (a.take k = b.take k) ∧ St Try.prog Try.f59.ntmps w0 NoB u N β ⟨[(0, .v (slv (a).length pa.1)), (1, .v (slv (b).length pb.1)), (5, .v (I (k : Int)))], []⟩ ac w) _ ⟨0, _, _, _, rfl, (by first | omega | (simp; done) | (simp; omega)), (by first | omega | (simp; done) | (simp; omega)), (by simp), S.cast (by kernel_rfl)⟩ ?_
    clear S
    rintro mm ac w ⟨k, u, N, β, rfl, hk, hab, he, S⟩
    refine wp_seq (wp_seq (RG.start ?_))
    refine S.q 4 [0, 1, 5, 14] 0 ⟨[(0, .v (slv (a).length pa.1)), (1, .v (slv (b).length pb.1)), (5, .v (I (k : Int))), (14, .v (B (decide ((k : Int) < ((a).length : Int)))))], []⟩ .nil ?_; clear S; intro ac w β S
    refine RG.done rfl (nx_then ?_)
    refine S.c (decide ((k : Int) < ((a).length : Int))) (fun h4 => ?_) (fun h4 => ?_)
    · have g5 : (k : Int) < ((a).length : Int) := of_decide_eq_true h4
      refine wp_skip (nx_then (wp_seq (wp_block (wp_seq ?_))))
      refine S.drawn (keep := [0, 1, 5, 26]) (m := 0) (σ' := ⟨[(0, .v (slv (a).length pa.1)), (1, .v (slv (b).length pb.1)), (5, .v (I (k : Int))), (26, .v (B (!(decide ((el a k) = (el b k))))))], []⟩) (.cons (Q_idx (S.arg ha) (l := (a).length) (k := k) (i := (k : Int)) rfl rfl (by omega) Try.underlying44 (by kernel_rfl)) (.cons (Q_el (S.arg ha) (t := 101) (k := k) (by omega) rfl (by kernel_rfl) (by kernel_rfl)) (.cons (Q_idx (S.arg hb) (l := (b).length) (k := k) (i := (k : Int)) rfl rfl (by omega) Try.underlying44 (by kernel_rfl)) (.cons (Q_el (S.arg hb) (t := 101) (k := k) (by omega) rfl (by kernel_rfl) (by kernel_rfl)) (.cons (Q_call fun w hw => c_laws_eqKept w (el a k) (pa.2 k) (rd_of (LRd.el (S.arg ha) k (by omega)) hw) (el b k) (pb.2 k) (rd_of (LRd.el (S.arg hb) k (by omega)) hw)) .nil))))) rfl (by kernel_rfl) (by kernel_rfl) ?_
      clear S; intro ac w S
      refine id (nx_then ?_)
      refine S.c (!(decide ((el a k) = (el b k)))) (fun h6 => ?_) (fun h6 => ?_)
      · have h7 : (decide ((el a k) = (el b k))) = false := not_t h6
        have g8 := of_decide_eq_false h7
        refine wp_seq (RG.start ?_)
        refine S.q 1 [4] 0 ⟨[(4, .v (B false))], []⟩ .nil ?_; clear S; intro ac w β S
        refine RG.done rfl (nx_then (wp_ret (rt_block (rt_then (rt_then (rt_block (rt_then ?_)))))))
        refine S.r [B false] ?_
        exact ⟨retB (by clear S; first | (simp; intro e; subst e; simp_all; done) | (simp; rw [take_all (by omega), take_all (by omega)] at he; exact he) | (simp; exact take_ne (by simp_all))), S.chg⟩
      · have h9 : (decide ((el a k) = (el b k))) = true := not_f h6
        have g10 := of_decide_eq_true h9
        refine wp_skip (nx_block (nx_then (RG.start ?_)))
        refine S.q 3 [0, 1, 5] 0 ⟨[(0, .v (slv (a).length pa.1)), (1, .v (slv (b).length pb.1)), (5, .v (I ((k : Int) + 1)))], []⟩ (.cons (Q_add (x := (k : Int)) (y := 1) ⟨by omega, by omega⟩) .nil) ?_; clear S; intro ac w β S
        refine RG.done rfl (nx_then ?_)
        replace S := S.p [0, 1, 5] 0 ⟨[(0, .v (slv (a).length pa.1)), (1, .v (slv (b).length pb.1)), (5, .v (I ((k : Int) + 1)))], []⟩
        refine ⟨a.length - (k + 1), by omega, k + 1, _, _, _, rfl, ?_, ?_, ?_, S.cast (by kernel_rfl)⟩
        · clear S; first | omega | (simp [*]; done) | (simp [*]; omega)
        · clear S; first | omega | (simp [*]; done) | (simp [*]; omega)
        · clear S; exact take_eq_step (by omega) (by omega) he (by simp_all)
    · have g11 : ¬ ((k : Int) < ((a).length : Int)) := of_decide_eq_false h4
      refine wp_exit (ex_then (ex_then (ex_hit (nx_then (wp_seq (RG.start ?_))))))
      refine S.q 1 [4] 0 ⟨[(4, .v (B true))], []⟩ .nil ?_; clear S; intro ac w β S
      refine RG.done rfl (nx_then (wp_ret ?_))
      refine S.r [B true] ?_
      exact ⟨retB (by clear S; first | (simp; intro e; subst e; simp_all; done) | (simp; rw [take_all (by omega), take_all (by omega)] at he; exact he) | (simp; exact take_ne (by simp_all))), S.chg⟩

set_option maxRecDepth 100000 in
theorem c_laws_eqMon (w0 : World) (a : TMon) (pa : PMon) (ha : GT.rd KK (Lt w0.heap.size) w0 a pa) (b : TMon) (pb : PMon) (hb : GT.rd KK (Lt w0.heap.size) w0 b pb) : Calls Try.prog 14 [GT.val a pa, GT.val b pb].toArray w0 (fun e w' => e = .returned (B (decide (a = b))) ∧ Chg NoB w0 w') := by
  refine Calls.walk (args := [GT.val a pa, GT.val b pb]) NoB Try.func14 rfl rfl ?_
  intro ac β S
  have hlea_outer : a.outer.length ≤ 4194304 := LRd.le (RMon.outer (d := a) ha)
  have hlea_out : a.out.length ≤ 4194304 := LRd.le (RMon.out (d := a) ha)
  have hlea_dirty : a.dirty.length ≤ 4194304 := LRd.le (RMon.dirty (d := a) ha)
  have hlea_guests : a.guests.length ≤ 4194304 := LRd.le (RMon.guests (d := a) ha)
  have hlea_outs : a.outs.length ≤ 4194304 := LRd.le (RMon.outs (d := a) ha)
  have hlea_tables : a.tables.length ≤ 4194304 := LRd.le (RMon.tables (d := a) ha)
  have hleb_outer : b.outer.length ≤ 4194304 := LRd.le (RMon.outer (d := b) hb)
  have hleb_out : b.out.length ≤ 4194304 := LRd.le (RMon.out (d := b) hb)
  have hleb_dirty : b.dirty.length ≤ 4194304 := LRd.le (RMon.dirty (d := b) hb)
  have hleb_guests : b.guests.length ≤ 4194304 := LRd.le (RMon.guests (d := b) hb)
  have hleb_outs : b.outs.length ≤ 4194304 := LRd.le (RMon.outs (d := b) hb)
  have hleb_tables : b.tables.length ≤ 4194304 := LRd.le (RMon.tables (d := b) hb)
  refine wp_seq (RG.start ?_)
  refine S.q 3 [2, 3] 2 ⟨[(2, .p 0 0), (3, .p 1 0)], [GT.cells a pa, GT.cells b pb]⟩ .nil ?_; clear S; intro ac w β S
  refine RG.done rfl (nx_then (wp_seq (wp_seq (RG.start ?_))))
  refine S.q 6 [2, 3, 10] 2 ⟨[(2, .p 0 0), (3, .p 1 0), (10, .v (B (!(decide (a.outer = b.outer)))))], [GT.cells a pa, GT.cells b pb]⟩ (.cons (Q_call fun w hw => c_laws_eqSlotS w a.outer pa.outer (rd_of (RMon.outer (d := a) (S.arg ha)) hw) b.outer pb.outer (rd_of (RMon.outer (d := b) (S.arg hb)) hw)) .nil) ?_; clear S; intro ac w β S
  refine RG.done rfl (nx_then ?_)
  refine S.c (!(decide (a.outer = b.outer))) (fun h1 => ?_) (fun h1 => ?_)
  · have h2 : (decide (a.outer = b.outer)) = false := not_t h1
    have g3 := of_decide_eq_false h2
    refine wp_seq (RG.start ?_)
    refine S.q 1 [4] 0 ⟨[(4, .v (B false))], []⟩ .nil ?_; clear S; intro ac w β S
    refine RG.done rfl (nx_then (wp_ret (rt_then ?_)))
    refine S.r [B false] ?_
    exact ⟨retB (by clear S; first | (simp [TMon.ext_iff, *]; done) | (simp_all [TMon.ext_iff]; done)), S.chg⟩
  · have h4 : (decide (a.outer = b.outer)) = true := not_f h1
    have g5 := of_decide_eq_true h4
    refine wp_skip (nx_then (wp_seq (wp_seq (RG.start ?_))))
    refine S.q 6 [2, 3, 16] 2 ⟨[(2, .p 0 0), (3, .p 1 0), (16, .v (B (!(decide (a.out = b.out)))))], [GT.cells a pa, GT.cells b pb]⟩ (.cons (Q_call fun w hw => c_laws_eqIntSS w a.out pa.out (rd_of (RMon.out (d := a) (S.arg ha)) hw) b.out pb.out (rd_of (RMon.out (d := b) (S.arg hb)) hw)) .nil) ?_; clear S; intro ac w β S
    refine RG.done rfl (nx_then ?_)
    refine S.c (!(decide (a.out = b.out))) (fun h6 => ?_) (fun h6 => ?_)
    · have h7 : (decide (a.out = b.out)) = false := not_t h6
      have g8 := of_decide_eq_false h7
      refine wp_seq (RG.start ?_)
      refine S.q 1 [4] 0 ⟨[(4, .v (B false))], []⟩ .nil ?_; clear S; intro ac w β S
      refine RG.done rfl (nx_then (wp_ret (rt_then ?_)))
      refine S.r [B false] ?_
      exact ⟨retB (by clear S; first | (simp [TMon.ext_iff, *]; done) | (simp_all [TMon.ext_iff]; done)), S.chg⟩
    · have h9 : (decide (a.out = b.out)) = true := not_f h6
      have g10 := of_decide_eq_true h9
      refine wp_skip (nx_then (wp_seq (wp_seq (RG.start ?_))))
      refine S.q 6 [2, 3, 22] 2 ⟨[(2, .p 0 0), (3, .p 1 0), (22, .v (B (!(decide (a.dirty = b.dirty)))))], [GT.cells a pa, GT.cells b pb]⟩ (.cons (Q_call fun w hw => c_laws_eqBoolS w a.dirty pa.dirty (rd_of (RMon.dirty (d := a) (S.arg ha)) hw) b.dirty pb.dirty (rd_of (RMon.dirty (d := b) (S.arg hb)) hw)) .nil) ?_; clear S; intro ac w β S
      refine RG.done rfl (nx_then ?_)
      refine S.c (!(decide (a.dirty = b.dirty))) (fun h11 => ?_) (fun h11 => ?_)
      · have h12 : (decide (a.dirty = b.dirty)) = false := not_t h11
        have g13 := of_decide_eq_false h12
        refine wp_seq (RG.start ?_)
        refine S.q 1 [4] 0 ⟨[(4, .v (B false))], []⟩ .nil ?_; clear S; intro ac w β S
        refine RG.done rfl (nx_then (wp_ret (rt_then ?_)))
        refine S.r [B false] ?_
        exact ⟨retB (by clear S; first | (simp [TMon.ext_iff, *]; done) | (simp_all [TMon.ext_iff]; done)), S.chg⟩
      · have h14 : (decide (a.dirty = b.dirty)) = true := not_f h11
        have g15 := of_decide_eq_true h14
        refine wp_skip (nx_then (wp_seq (wp_seq (RG.start ?_))))
        refine S.q 6 [2, 3, 28] 2 ⟨[(2, .p 0 0), (3, .p 1 0), (28, .v (B (!(decide (a.guests = b.guests)))))], [GT.cells a pa, GT.cells b pb]⟩ (.cons (Q_call fun w hw => c_laws_eqGuestS w a.guests pa.guests (rd_of (RMon.guests (d := a) (S.arg ha)) hw) b.guests pb.guests (rd_of (RMon.guests (d := b) (S.arg hb)) hw)) .nil) ?_; clear S; intro ac w β S
        refine RG.done rfl (nx_then ?_)
        refine S.c (!(decide (a.guests = b.guests))) (fun h16 => ?_) (fun h16 => ?_)
        · have h17 : (decide (a.guests = b.guests)) = false := not_t h16
          have g18 := of_decide_eq_false h17
          refine wp_seq (RG.start ?_)
          refine S.q 1 [4] 0 ⟨[(4, .v (B false))], []⟩ .nil ?_; clear S; intro ac w β S
          refine RG.done rfl (nx_then (wp_ret (rt_then ?_)))
          refine S.r [B false] ?_
          exact ⟨retB (by clear S; first | (simp [TMon.ext_iff, *]; done) | (simp_all [TMon.ext_iff]; done)), S.chg⟩
        · have h19 : (decide (a.guests = b.guests)) = true := not_f h16
          have g20 := of_decide_eq_true h19
          refine wp_skip (nx_then (wp_seq (wp_seq (RG.start ?_))))
          refine S.q 6 [2, 3, 34] 2 ⟨[(2, .p 0 0), (3, .p 1 0), (34, .v (B (!(decide (a.outs = b.outs)))))], [GT.cells a pa, GT.cells b pb]⟩ (.cons (Q_call fun w hw => c_laws_eqIntS w a.outs pa.outs (rd_of (RMon.outs (d := a) (S.arg ha)) hw) b.outs pb.outs (rd_of (RMon.outs (d := b) (S.arg hb)) hw)) .nil) ?_; clear S; intro ac w β S
          refine RG.done rfl (nx_then ?_)
          refine S.c (!(decide (a.outs = b.outs))) (fun h21 => ?_) (fun h21 => ?_)
          · have h22 : (decide (a.outs = b.outs)) = false := not_t h21
            have g23 := of_decide_eq_false h22
            refine wp_seq (RG.start ?_)
            refine S.q 1 [4] 0 ⟨[(4, .v (B false))], []⟩ .nil ?_; clear S; intro ac w β S
            refine RG.done rfl (nx_then (wp_ret (rt_then ?_)))
            refine S.r [B false] ?_
            exact ⟨retB (by clear S; first | (simp [TMon.ext_iff, *]; done) | (simp_all [TMon.ext_iff]; done)), S.chg⟩
          · have h24 : (decide (a.outs = b.outs)) = true := not_f h21
            have g25 := of_decide_eq_true h24
            refine wp_skip (nx_then (wp_seq (wp_seq (RG.start ?_))))
            refine S.q 5 [2, 3, 39] 2 ⟨[(2, .p 0 0), (3, .p 1 0), (39, .v (B (a.pend != b.pend)))], [GT.cells a pa, GT.cells b pb]⟩ .nil ?_; clear S; intro ac w β S
            refine RG.done rfl (nx_then ?_)
            refine S.c (a.pend != b.pend) (fun h26 => ?_) (fun h26 => ?_)
            · have g27 : ¬ (a.pend = b.pend) := bne_iff_ne.1 h26
              refine wp_seq (RG.start ?_)
              refine S.q 1 [4] 0 ⟨[(4, .v (B false))], []⟩ .nil ?_; clear S; intro ac w β S
              refine RG.done rfl (nx_then (wp_ret (rt_then ?_)))
              refine S.r [B false] ?_
              exact ⟨retB (by clear S; first | (simp [TMon.ext_iff, *]; done) | (simp_all [TMon.ext_iff]; done)), S.chg⟩
            · have g28 : a.pend = b.pend := ne_f h26
              refine wp_skip (nx_then (wp_seq (wp_seq (RG.start ?_))))
              refine S.q 5 [2, 3, 44] 2 ⟨[(2, .p 0 0), (3, .p 1 0), (44, .v (B (a.traps != b.traps)))], [GT.cells a pa, GT.cells b pb]⟩ .nil ?_; clear S; intro ac w β S
              refine RG.done rfl (nx_then ?_)
              refine S.c (a.traps != b.traps) (fun h29 => ?_) (fun h29 => ?_)
              · have g30 : ¬ (a.traps = b.traps) := bne_iff_ne.1 h29
                refine wp_seq (RG.start ?_)
                refine S.q 1 [4] 0 ⟨[(4, .v (B false))], []⟩ .nil ?_; clear S; intro ac w β S
                refine RG.done rfl (nx_then (wp_ret (rt_then ?_)))
                refine S.r [B false] ?_
                exact ⟨retB (by clear S; first | (simp [TMon.ext_iff, *]; done) | (simp_all [TMon.ext_iff]; done)), S.chg⟩
              · have g31 : a.traps = b.traps := ne_f h29
                refine wp_skip (nx_then (wp_seq (wp_seq (RG.start ?_))))
                refine S.q 6 [2, 3, 50] 2 ⟨[(2, .p 0 0), (3, .p 1 0), (50, .v (B (!(decide (a.tables = b.tables)))))], [GT.cells a pa, GT.cells b pb]⟩ (.cons (Q_call fun w hw => c_laws_eqKeptS w a.tables pa.tables (rd_of (RMon.tables (d := a) (S.arg ha)) hw) b.tables pb.tables (rd_of (RMon.tables (d := b) (S.arg hb)) hw)) .nil) ?_; clear S; intro ac w β S
                refine RG.done rfl (nx_then ?_)
                refine S.c (!(decide (a.tables = b.tables))) (fun h32 => ?_) (fun h32 => ?_)
                · have h33 : (decide (a.tables = b.tables)) = false := not_t h32
                  have g34 := of_decide_eq_false h33
                  refine wp_seq (RG.start ?_)
                  refine S.q 1 [4] 0 ⟨[(4, .v (B false))], []⟩ .nil ?_; clear S; intro ac w β S
                  refine RG.done rfl (nx_then (wp_ret (rt_then ?_)))
                  refine S.r [B false] ?_
                  exact ⟨retB (by clear S; first | (simp [TMon.ext_iff, *]; done) | (simp_all [TMon.ext_iff]; done)), S.chg⟩
                · have h35 : (decide (a.tables = b.tables)) = true := not_f h32
                  have g36 := of_decide_eq_true h35
                  refine wp_skip (nx_then (wp_seq (wp_seq (RG.start ?_))))
                  refine S.q 5 [55] 0 ⟨[(55, .v (B (a.owned != b.owned)))], []⟩ .nil ?_; clear S; intro ac w β S
                  refine RG.done rfl (nx_then ?_)
                  refine S.c (a.owned != b.owned) (fun h37 => ?_) (fun h37 => ?_)
                  · have g38 : ¬ (a.owned = b.owned) := bne_iff_ne.1 h37
                    refine wp_seq (RG.start ?_)
                    refine S.q 1 [4] 0 ⟨[(4, .v (B false))], []⟩ .nil ?_; clear S; intro ac w β S
                    refine RG.done rfl (nx_then (wp_ret (rt_then ?_)))
                    refine S.r [B false] ?_
                    exact ⟨retB (by clear S; first | (simp [TMon.ext_iff, *]; done) | (simp_all [TMon.ext_iff]; done)), S.chg⟩
                  · have g39 : a.owned = b.owned := ne_f h37
                    refine wp_skip (nx_then (wp_seq (RG.start ?_)))
                    refine S.q 1 [4] 0 ⟨[(4, .v (B true))], []⟩ .nil ?_; clear S; intro ac w β S
                    refine RG.done rfl (nx_then (wp_ret ?_))
                    refine S.r [B true] ?_
                    exact ⟨retB (by clear S; first | (simp [TMon.ext_iff, *]; done) | (simp_all [TMon.ext_iff]; done)), S.chg⟩

set_option maxRecDepth 100000 in
theorem c_laws_eqMonS (w0 : World) (a : List TMon) (pa : LP TMon) (ha : GT.rd KK (Lt w0.heap.size) w0 a pa) (b : List TMon) (pb : LP TMon) (hb : GT.rd KK (Lt w0.heap.size) w0 b pb) : Calls Try.prog 53 [slv (a).length pa.1, slv (b).length pb.1].toArray w0 (fun e w' => e = .returned (B (decide (a = b))) ∧ Chg NoB w0 w') := by
  refine Calls.walk (args := [slv (a).length pa.1, slv (b).length pb.1]) NoB Try.func53 rfl rfl ?_
  intro ac β S
  have hlea : a.length ≤ 4194304 := LRd.le ha
  have hleb : b.length ≤ 4194304 := LRd.le hb
  refine wp_seq (RG.start ?_)
  refine S.q 1 [0, 1] 0 ⟨[(0, .v (slv (a).length pa.1)), (1, .v (slv (b).length pb.1))], []⟩ .nil ?_; clear S; intro ac w β S
  refine RG.done rfl (nx_then (wp_seq (wp_seq (RG.start ?_))))
  refine S.q 5 [0, 1, 10] 0 ⟨[(0, .v (slv (a).length pa.1)), (1, .v (slv (b).length pb.1)), (10, .v (B (((a).length : Int) != ((b).length : Int))))], []⟩ .nil ?_; clear S; intro ac w β S
  refine RG.done rfl (nx_then ?_)
  refine S.c (((a).length : Int) != ((b).length : Int)) (fun h1 => ?_) (fun h1 => ?_)
  · have g2 : ¬ (((a).length : Int) = ((b).length : Int)) := bne_iff_ne.1 h1
    refine wp_seq (RG.start ?_)
    refine S.q 1 [4] 0 ⟨[(4, .v (B false))], []⟩ .nil ?_; clear S; intro ac w β S
    refine RG.done rfl (nx_then (wp_ret (rt_then ?_)))
    refine S.r [B false] ?_
    exact ⟨retB (by clear S; first | (simp; intro e; subst e; simp_all; done) | (simp; rw [take_all (by omega), take_all (by omega)] at he; exact he) | (simp; exact take_ne (by simp_all))), S.chg⟩
  · have g3 : ((a).length : Int) = ((b).length : Int) := ne_f h1
    refine wp_skip (nx_then (wp_seq (wp_seq (RG.start ?_))))
    refine S.q 1 [0, 1, 5] 0 ⟨[(0, .v (slv (a).length pa.1)), (1, .v (slv (b).length pb.1)), (5, .v (I 0))], []⟩ .nil ?_; clear S; intro ac w β S
    refine RG.done rfl (nx_then (wp_block ?_))
    replace S := S.p [0, 1, 5] 0 ⟨[(0, .v (slv (a).length pa.1)), (1, .v (slv (b).length pb.1)), (5, .v (I 0))], []⟩
    refine wp_loop_down (fun mm ac w => ∃ (k : Nat)  (u : World) (N : Bl) (β : Nat → Nat), mm = a.length - k ∧ (k ≤ a.length) ∧ (a.length = b.length) ∧ (a.take k = b.take k) ∧ St Try.prog Try.f53.ntmps w0 NoB u N β ⟨[(0, .v (slv (a).length pa.1)), (1, .v (slv (b).length pb.1)), (5, .v (I (k : Int)))], []⟩ ac w) _ ⟨0, _, _, _, rfl, (by first | omega | (simp; done) | (simp; omega)), (by first | omega | (simp; done) | (simp; omega)), (by simp), S.cast (by kernel_rfl)⟩ ?_
    clear S
    rintro mm ac w ⟨k, u, N, β, rfl, hk, hab, he, S⟩
    refine wp_seq (wp_seq (RG.start ?_))
    refine S.q 4 [0, 1, 5, 14] 0 ⟨[(0, .v (slv (a).length pa.1)), (1, .v (slv (b).length pb.1)), (5, .v (I (k : Int))), (14, .v (B (decide ((k : Int) < ((a).length : Int)))))], []⟩ .nil ?_; clear S; intro ac w β S
    refine RG.done rfl (nx_then ?_)
    refine S.c (decide ((k : Int) < ((a).length : Int))) (fun h4 => ?_) (fun h4 => ?_)
    · have g5 : (k : Int) < ((a).length : Int) := of_decide_eq_true h4
      refine wp_skip (nx_then (wp_seq (wp_block (wp_seq ?_))))
      refine S.drawn (keep := [0, 1, 5, 26]) (m := 0) (σ' := ⟨[(0, .v (slv (a).length pa.1)), (1, .v (slv (b).length pb.1)), (5, .v (I (k : Int))), (26, .v (B (!(decide ((el a k) = (el b k))))))], []⟩) (.cons (Q_idx (S.arg ha) (l := (a).length) (k := k) (i := (k : Int)) rfl rfl (by omega) Try.underlying36 (by kernel_rfl)) (.cons (Q_el (S.arg ha) (t := 46) (k := k) (by omega) rfl (by kernel_rfl) (by kernel_rfl)) (.cons (Q_idx (S.arg hb) (l := (b).length) (k := k) (i := (k : Int)) rfl rfl (by omega) Try.underlying36 (by kernel_rfl)) (.cons (Q_el (S.arg hb) (t := 46) (k := k) (by omega) rfl (by kernel_rfl) (by kernel_rfl)) (.cons (Q_call fun w hw => c_laws_eqMon w (el a k) (pa.2 k) (rd_of (LRd.el (S.arg ha) k (by omega)) hw) (el b k) (pb.2 k) (rd_of (LRd.el (S.arg hb) k (by omega)) hw)) .nil))))) rfl (by kernel_rfl) (by kernel_rfl) ?_
      clear S; intro ac w S
      refine id (nx_then ?_)
      refine S.c (!(decide ((el a k) = (el b k)))) (fun h6 => ?_) (fun h6 => ?_)
      · have h7 : (decide ((el a k) = (el b k))) = false := not_t h6
        have g8 := of_decide_eq_false h7
        refine wp_seq (RG.start ?_)
        refine S.q 1 [4] 0 ⟨[(4, .v (B false))], []⟩ .nil ?_; clear S; intro ac w β S
        refine RG.done rfl (nx_then (wp_ret (rt_block (rt_then (rt_then (rt_block (rt_then ?_)))))))
        refine S.r [B false] ?_
        exact ⟨retB (by clear S; first | (simp; intro e; subst e; simp_all; done) | (simp; rw [take_all (by omega), take_all (by omega)] at he; exact he) | (simp; exact take_ne (by simp_all))), S.chg⟩
      · have h9 : (decide ((el a k) = (el b k))) = true := not_f h6
        have g10 := of_decide_eq_true h9
        refine wp_skip (nx_block (nx_then (RG.start ?_)))
        refine S.q 3 [0, 1, 5] 0 ⟨[(0, .v (slv (a).length pa.1)), (1, .v (slv (b).length pb.1)), (5, .v (I ((k : Int) + 1)))], []⟩ (.cons (Q_add (x := (k : Int)) (y := 1) ⟨by omega, by omega⟩) .nil) ?_; clear S; intro ac w β S
        refine RG.done rfl (nx_then ?_)
        replace S := S.p [0, 1, 5] 0 ⟨[(0, .v (slv (a).length pa.1)), (1, .v (slv (b).length pb.1)), (5, .v (I ((k : Int) + 1)))], []⟩
        refine ⟨a.length - (k + 1), by omega, k + 1, _, _, _, rfl, ?_, ?_, ?_, S.cast (by kernel_rfl)⟩
        · clear S; first | omega | (simp [*]; done) | (simp [*]; omega)
        · clear S; first | omega | (simp [*]; done) | (simp [*]; omega)
        · clear S; exact take_eq_step (by omega) (by omega) he (by simp_all)
    · have g11 : ¬ ((k : Int) < ((a).length : Int)) := of_decide_eq_false h4
      refine wp_exit (ex_then (ex_then (ex_hit (nx_then (wp_seq (RG.start ?_))))))
      refine S.q 1 [4] 0 ⟨[(4, .v (B true))], []⟩ .nil ?_; clear S; intro ac w β S
      refine RG.done rfl (nx_then (wp_ret ?_))
      refine S.r [B true] ?_
      exact ⟨retB (by clear S; first | (simp; intro e; subst e; simp_all; done) | (simp; rw [take_all (by omega), take_all (by omega)] at he; exact he) | (simp; exact take_ne (by simp_all))), S.chg⟩

set_option maxRecDepth 100000 in
theorem c_laws_eqEntry (w0 : World) (a : TEntry) (b : TEntry) : Calls Try.prog 93 [GT.val a (), GT.val b ()].toArray w0 (fun e w' => e = .returned (B (decide (a = b))) ∧ Chg NoB w0 w') := by
  refine Calls.walk (args := [GT.val a (), GT.val b ()]) NoB Try.func93 rfl rfl ?_
  intro ac β S
  refine wp_seq (RG.start ?_)
  refine S.q 3 [2, 3] 2 ⟨[(2, .p 0 0), (3, .p 1 0)], [GT.cells a (), GT.cells b ()]⟩ .nil ?_; clear S; intro ac w β S
  refine RG.done rfl (nx_then (wp_seq (wp_seq (RG.start ?_))))
  refine S.q 5 [2, 3, 9] 2 ⟨[(2, .p 0 0), (3, .p 1 0), (9, .v (B (a.tag != b.tag)))], [GT.cells a (), GT.cells b ()]⟩ .nil ?_; clear S; intro ac w β S
  refine RG.done rfl (nx_then ?_)
  refine S.c (a.tag != b.tag) (fun h1 => ?_) (fun h1 => ?_)
  · have g2 : ¬ (a.tag = b.tag) := bne_iff_ne.1 h1
    refine wp_seq (RG.start ?_)
    refine S.q 1 [4] 0 ⟨[(4, .v (B false))], []⟩ .nil ?_; clear S; intro ac w β S
    refine RG.done rfl (nx_then (wp_ret (rt_then ?_)))
    refine S.r [B false] ?_
    exact ⟨retB (by clear S; first | (simp [TEntry.ext_iff, *]; done) | (simp_all [TEntry.ext_iff]; done)), S.chg⟩
  · have g3 : a.tag = b.tag := ne_f h1
    refine wp_skip (nx_then (wp_seq (wp_seq (RG.start ?_))))
    refine S.q 5 [2, 3, 14] 2 ⟨[(2, .p 0 0), (3, .p 1 0), (14, .v (B (a.page != b.page)))], [GT.cells a (), GT.cells b ()]⟩ .nil ?_; clear S; intro ac w β S
    refine RG.done rfl (nx_then ?_)
    refine S.c (a.page != b.page) (fun h4 => ?_) (fun h4 => ?_)
    · have g5 : ¬ (a.page = b.page) := bne_iff_ne.1 h4
      refine wp_seq (RG.start ?_)
      refine S.q 1 [4] 0 ⟨[(4, .v (B false))], []⟩ .nil ?_; clear S; intro ac w β S
      refine RG.done rfl (nx_then (wp_ret (rt_then ?_)))
      refine S.r [B false] ?_
      exact ⟨retB (by clear S; first | (simp [TEntry.ext_iff, *]; done) | (simp_all [TEntry.ext_iff]; done)), S.chg⟩
    · have g6 : a.page = b.page := ne_f h4
      refine wp_skip (nx_then (wp_seq (wp_seq (RG.start ?_))))
      refine S.q 5 [2, 3, 19] 2 ⟨[(2, .p 0 0), (3, .p 1 0), (19, .v (B (a.host != b.host)))], [GT.cells a (), GT.cells b ()]⟩ .nil ?_; clear S; intro ac w β S
      refine RG.done rfl (nx_then ?_)
      refine S.c (a.host != b.host) (fun h7 => ?_) (fun h7 => ?_)
      · have g8 : ¬ (a.host = b.host) := bne_iff_ne.1 h7
        refine wp_seq (RG.start ?_)
        refine S.q 1 [4] 0 ⟨[(4, .v (B false))], []⟩ .nil ?_; clear S; intro ac w β S
        refine RG.done rfl (nx_then (wp_ret (rt_then ?_)))
        refine S.r [B false] ?_
        exact ⟨retB (by clear S; first | (simp [TEntry.ext_iff, *]; done) | (simp_all [TEntry.ext_iff]; done)), S.chg⟩
      · have g9 : a.host = b.host := ne_f h7
        refine wp_skip (nx_then (wp_seq (wp_seq (RG.start ?_))))
        refine S.q 5 [24] 0 ⟨[(24, .v (B (a.rights != b.rights)))], []⟩ .nil ?_; clear S; intro ac w β S
        refine RG.done rfl (nx_then ?_)
        refine S.c (a.rights != b.rights) (fun h10 => ?_) (fun h10 => ?_)
        · have g11 : ¬ (a.rights = b.rights) := bne_iff_ne.1 h10
          refine wp_seq (RG.start ?_)
          refine S.q 1 [4] 0 ⟨[(4, .v (B false))], []⟩ .nil ?_; clear S; intro ac w β S
          refine RG.done rfl (nx_then (wp_ret (rt_then ?_)))
          refine S.r [B false] ?_
          exact ⟨retB (by clear S; first | (simp [TEntry.ext_iff, *]; done) | (simp_all [TEntry.ext_iff]; done)), S.chg⟩
        · have g12 : a.rights = b.rights := ne_f h10
          refine wp_skip (nx_then (wp_seq (RG.start ?_)))
          refine S.q 1 [4] 0 ⟨[(4, .v (B true))], []⟩ .nil ?_; clear S; intro ac w β S
          refine RG.done rfl (nx_then (wp_ret ?_))
          refine S.r [B true] ?_
          exact ⟨retB (by clear S; first | (simp [TEntry.ext_iff, *]; done) | (simp_all [TEntry.ext_iff]; done)), S.chg⟩

set_option maxRecDepth 100000 in
theorem c_laws_eqEntryS (w0 : World) (a : List TEntry) (pa : LP TEntry) (ha : GT.rd KK (Lt w0.heap.size) w0 a pa) (b : List TEntry) (pb : LP TEntry) (hb : GT.rd KK (Lt w0.heap.size) w0 b pb) : Calls Try.prog 54 [slv (a).length pa.1, slv (b).length pb.1].toArray w0 (fun e w' => e = .returned (B (decide (a = b))) ∧ Chg NoB w0 w') := by
  refine Calls.walk (args := [slv (a).length pa.1, slv (b).length pb.1]) NoB Try.func54 rfl rfl ?_
  intro ac β S
  have hlea : a.length ≤ 4194304 := LRd.le ha
  have hleb : b.length ≤ 4194304 := LRd.le hb
  refine wp_seq (RG.start ?_)
  refine S.q 1 [0, 1] 0 ⟨[(0, .v (slv (a).length pa.1)), (1, .v (slv (b).length pb.1))], []⟩ .nil ?_; clear S; intro ac w β S
  refine RG.done rfl (nx_then (wp_seq (wp_seq (RG.start ?_))))
  refine S.q 5 [0, 1, 10] 0 ⟨[(0, .v (slv (a).length pa.1)), (1, .v (slv (b).length pb.1)), (10, .v (B (((a).length : Int) != ((b).length : Int))))], []⟩ .nil ?_; clear S; intro ac w β S
  refine RG.done rfl (nx_then ?_)
  refine S.c (((a).length : Int) != ((b).length : Int)) (fun h1 => ?_) (fun h1 => ?_)
  · have g2 : ¬ (((a).length : Int) = ((b).length : Int)) := bne_iff_ne.1 h1
    refine wp_seq (RG.start ?_)
    refine S.q 1 [4] 0 ⟨[(4, .v (B false))], []⟩ .nil ?_; clear S; intro ac w β S
    refine RG.done rfl (nx_then (wp_ret (rt_then ?_)))
    refine S.r [B false] ?_
    exact ⟨retB (by clear S; first | (simp; intro e; subst e; simp_all; done) | (simp; rw [take_all (by omega), take_all (by omega)] at he; exact he) | (simp; exact take_ne (by simp_all))), S.chg⟩
  · have g3 : ((a).length : Int) = ((b).length : Int) := ne_f h1
    refine wp_skip (nx_then (wp_seq (wp_seq (RG.start ?_))))
    refine S.q 1 [0, 1, 5] 0 ⟨[(0, .v (slv (a).length pa.1)), (1, .v (slv (b).length pb.1)), (5, .v (I 0))], []⟩ .nil ?_; clear S; intro ac w β S
    refine RG.done rfl (nx_then (wp_block ?_))
    replace S := S.p [0, 1, 5] 0 ⟨[(0, .v (slv (a).length pa.1)), (1, .v (slv (b).length pb.1)), (5, .v (I 0))], []⟩
    refine wp_loop_down (fun mm ac w => ∃ (k : Nat)  (u : World) (N : Bl) (β : Nat → Nat), mm = a.length - k ∧ (k ≤ a.length) ∧ (a.length = b.length) ∧ (a.take k = b.take k) ∧ St Try.prog Try.f54.ntmps w0 NoB u N β ⟨[(0, .v (slv (a).length pa.1)), (1, .v (slv (b).length pb.1)), (5, .v (I (k : Int)))], []⟩ ac w) _ ⟨0, _, _, _, rfl, (by first | omega | (simp; done) | (simp; omega)), (by first | omega | (simp; done) | (simp; omega)), (by simp), S.cast (by kernel_rfl)⟩ ?_
    clear S
    rintro mm ac w ⟨k, u, N, β, rfl, hk, hab, he, S⟩
    refine wp_seq (wp_seq (RG.start ?_))
    refine S.q 4 [0, 1, 5, 14] 0 ⟨[(0, .v (slv (a).length pa.1)), (1, .v (slv (b).length pb.1)), (5, .v (I (k : Int))), (14, .v (B (decide ((k : Int) < ((a).length : Int)))))], []⟩ .nil ?_; clear S; intro ac w β S
    refine RG.done rfl (nx_then ?_)
    refine S.c (decide ((k : Int) < ((a).length : Int))) (fun h4 => ?_) (fun h4 => ?_)
    · have g5 : (k : Int) < ((a).length : Int) := of_decide_eq_true h4
      refine wp_skip (nx_then (wp_seq (wp_block (wp_seq ?_))))
      refine S.drawn (keep := [0, 1, 5, 26]) (m := 0) (σ' := ⟨[(0, .v (slv (a).length pa.1)), (1, .v (slv (b).length pb.1)), (5, .v (I (k : Int))), (26, .v (B (!(decide ((el a k) = (el b k))))))], []⟩) (.cons (Q_idx (S.arg ha) (l := (a).length) (k := k) (i := (k : Int)) rfl rfl (by omega) Try.underlying37 (by kernel_rfl)) (.cons (Q_el (S.arg ha) (t := 116) (k := k) (by omega) rfl (by kernel_rfl) (by kernel_rfl)) (.cons (Q_idx (S.arg hb) (l := (b).length) (k := k) (i := (k : Int)) rfl rfl (by omega) Try.underlying37 (by kernel_rfl)) (.cons (Q_el (S.arg hb) (t := 116) (k := k) (by omega) rfl (by kernel_rfl) (by kernel_rfl)) (.cons (Q_call fun w hw => c_laws_eqEntry w (el a k) (el b k)) .nil))))) rfl (by kernel_rfl) (by kernel_rfl) ?_
      clear S; intro ac w S
      refine id (nx_then ?_)
      refine S.c (!(decide ((el a k) = (el b k)))) (fun h6 => ?_) (fun h6 => ?_)
      · have h7 : (decide ((el a k) = (el b k))) = false := not_t h6
        have g8 := of_decide_eq_false h7
        refine wp_seq (RG.start ?_)
        refine S.q 1 [4] 0 ⟨[(4, .v (B false))], []⟩ .nil ?_; clear S; intro ac w β S
        refine RG.done rfl (nx_then (wp_ret (rt_block (rt_then (rt_then (rt_block (rt_then ?_)))))))
        refine S.r [B false] ?_
        exact ⟨retB (by clear S; first | (simp; intro e; subst e; simp_all; done) | (simp; rw [take_all (by omega), take_all (by omega)] at he; exact he) | (simp; exact take_ne (by simp_all))), S.chg⟩
      · have h9 : (decide ((el a k) = (el b k))) = true := not_f h6
        have g10 := of_decide_eq_true h9
        refine wp_skip (nx_block (nx_then (RG.start ?_)))
        refine S.q 3 [0, 1, 5] 0 ⟨[(0, .v (slv (a).length pa.1)), (1, .v (slv (b).length pb.1)), (5, .v (I ((k : Int) + 1)))], []⟩ (.cons (Q_add (x := (k : Int)) (y := 1) ⟨by omega, by omega⟩) .nil) ?_; clear S; intro ac w β S
        refine RG.done rfl (nx_then ?_)
        replace S := S.p [0, 1, 5] 0 ⟨[(0, .v (slv (a).length pa.1)), (1, .v (slv (b).length pb.1)), (5, .v (I ((k : Int) + 1)))], []⟩
        refine ⟨a.length - (k + 1), by omega, k + 1, _, _, _, rfl, ?_, ?_, ?_, S.cast (by kernel_rfl)⟩
        · clear S; first | omega | (simp [*]; done) | (simp [*]; omega)
        · clear S; first | omega | (simp [*]; done) | (simp [*]; omega)
        · clear S; exact take_eq_step (by omega) (by omega) he (by simp_all)
    · have g11 : ¬ ((k : Int) < ((a).length : Int)) := of_decide_eq_false h4
      refine wp_exit (ex_then (ex_then (ex_hit (nx_then (wp_seq (RG.start ?_))))))
      refine S.q 1 [4] 0 ⟨[(4, .v (B true))], []⟩ .nil ?_; clear S; intro ac w β S
      refine RG.done rfl (nx_then (wp_ret ?_))
      refine S.r [B true] ?_
      exact ⟨retB (by clear S; first | (simp; intro e; subst e; simp_all; done) | (simp; rw [take_all (by omega), take_all (by omega)] at he; exact he) | (simp; exact take_ne (by simp_all))), S.chg⟩

set_option maxRecDepth 100000 in
theorem c_laws_eqHost (w0 : World) (a : THost) (pa : PHost) (ha : GT.rd KK (Lt w0.heap.size) w0 a pa) (b : THost) (pb : PHost) (hb : GT.rd KK (Lt w0.heap.size) w0 b pb) : Calls Try.prog 13 [GT.val a pa, GT.val b pb].toArray w0 (fun e w' => e = .returned (B (decide (a = b))) ∧ Chg NoB w0 w') := by
  refine Calls.walk (args := [GT.val a pa, GT.val b pb]) NoB Try.func13 rfl rfl ?_
  intro ac β S
  have hlea_mem : a.mem.length ≤ 4194304 := LRd.le (RHost.mem (d := a) ha)
  have hlea_mons : a.mons.length ≤ 4194304 := LRd.le (RHost.mons (d := a) ha)
  have hlea_buf : a.buf.length ≤ 4194304 := LRd.le (RHost.buf (d := a) ha)
  have hlea_iobuf : a.iobuf.length ≤ 4194304 := LRd.le (RHost.iobuf (d := a) ha)
  have hleb_mem : b.mem.length ≤ 4194304 := LRd.le (RHost.mem (d := b) hb)
  have hleb_mons : b.mons.length ≤ 4194304 := LRd.le (RHost.mons (d := b) hb)
  have hleb_buf : b.buf.length ≤ 4194304 := LRd.le (RHost.buf (d := b) hb)
  have hleb_iobuf : b.iobuf.length ≤ 4194304 := LRd.le (RHost.iobuf (d := b) hb)
  refine wp_seq (RG.start ?_)
  refine S.q 3 [2, 3] 2 ⟨[(2, .p 0 0), (3, .p 1 0)], [GT.cells a pa, GT.cells b pb]⟩ .nil ?_; clear S; intro ac w β S
  refine RG.done rfl (nx_then (wp_seq (wp_seq (RG.start ?_))))
  refine S.q 6 [2, 3, 10] 2 ⟨[(2, .p 0 0), (3, .p 1 0), (10, .v (B (!(decide (a.mem = b.mem)))))], [GT.cells a pa, GT.cells b pb]⟩ (.cons (Q_call fun w hw => c_laws_eqIntSS w a.mem pa.mem (rd_of (RHost.mem (d := a) (S.arg ha)) hw) b.mem pb.mem (rd_of (RHost.mem (d := b) (S.arg hb)) hw)) .nil) ?_; clear S; intro ac w β S
  refine RG.done rfl (nx_then ?_)
  refine S.c (!(decide (a.mem = b.mem))) (fun h1 => ?_) (fun h1 => ?_)
  · have h2 : (decide (a.mem = b.mem)) = false := not_t h1
    have g3 := of_decide_eq_false h2
    refine wp_seq (RG.start ?_)
    refine S.q 1 [4] 0 ⟨[(4, .v (B false))], []⟩ .nil ?_; clear S; intro ac w β S
    refine RG.done rfl (nx_then (wp_ret (rt_then ?_)))
    refine S.r [B false] ?_
    exact ⟨retB (by clear S; first | (simp [THost.ext_iff, *]; done) | (simp_all [THost.ext_iff]; done)), S.chg⟩
  · have h4 : (decide (a.mem = b.mem)) = true := not_f h1
    have g5 := of_decide_eq_true h4
    refine wp_skip (nx_then (wp_seq (wp_seq (RG.start ?_))))
    refine S.q 6 [2, 3, 16] 2 ⟨[(2, .p 0 0), (3, .p 1 0), (16, .v (B (!(decide (a.mons = b.mons)))))], [GT.cells a pa, GT.cells b pb]⟩ (.cons (Q_call fun w hw => c_laws_eqMonS w a.mons pa.mons (rd_of (RHost.mons (d := a) (S.arg ha)) hw) b.mons pb.mons (rd_of (RHost.mons (d := b) (S.arg hb)) hw)) .nil) ?_; clear S; intro ac w β S
    refine RG.done rfl (nx_then ?_)
    refine S.c (!(decide (a.mons = b.mons))) (fun h6 => ?_) (fun h6 => ?_)
    · have h7 : (decide (a.mons = b.mons)) = false := not_t h6
      have g8 := of_decide_eq_false h7
      refine wp_seq (RG.start ?_)
      refine S.q 1 [4] 0 ⟨[(4, .v (B false))], []⟩ .nil ?_; clear S; intro ac w β S
      refine RG.done rfl (nx_then (wp_ret (rt_then ?_)))
      refine S.r [B false] ?_
      exact ⟨retB (by clear S; first | (simp [THost.ext_iff, *]; done) | (simp_all [THost.ext_iff]; done)), S.chg⟩
    · have h9 : (decide (a.mons = b.mons)) = true := not_f h6
      have g10 := of_decide_eq_true h9
      refine wp_skip (nx_then (wp_seq (wp_seq (RG.start ?_))))
      refine S.q 6 [2, 3, 22] 2 ⟨[(2, .p 0 0), (3, .p 1 0), (22, .v (B (!(decide (a.buf = b.buf)))))], [GT.cells a pa, GT.cells b pb]⟩ (.cons (Q_call fun w hw => c_laws_eqEntryS w a.buf pa.buf (rd_of (RHost.buf (d := a) (S.arg ha)) hw) b.buf pb.buf (rd_of (RHost.buf (d := b) (S.arg hb)) hw)) .nil) ?_; clear S; intro ac w β S
      refine RG.done rfl (nx_then ?_)
      refine S.c (!(decide (a.buf = b.buf))) (fun h11 => ?_) (fun h11 => ?_)
      · have h12 : (decide (a.buf = b.buf)) = false := not_t h11
        have g13 := of_decide_eq_false h12
        refine wp_seq (RG.start ?_)
        refine S.q 1 [4] 0 ⟨[(4, .v (B false))], []⟩ .nil ?_; clear S; intro ac w β S
        refine RG.done rfl (nx_then (wp_ret (rt_then ?_)))
        refine S.r [B false] ?_
        exact ⟨retB (by clear S; first | (simp [THost.ext_iff, *]; done) | (simp_all [THost.ext_iff]; done)), S.chg⟩
      · have h14 : (decide (a.buf = b.buf)) = true := not_f h11
        have g15 := of_decide_eq_true h14
        refine wp_skip (nx_then (wp_seq (wp_seq (RG.start ?_))))
        refine S.q 6 [28] 0 ⟨[(28, .v (B (!(decide (a.iobuf = b.iobuf)))))], []⟩ (.cons (Q_call fun w hw => c_laws_eqEntryS w a.iobuf pa.iobuf (rd_of (RHost.iobuf (d := a) (S.arg ha)) hw) b.iobuf pb.iobuf (rd_of (RHost.iobuf (d := b) (S.arg hb)) hw)) .nil) ?_; clear S; intro ac w β S
        refine RG.done rfl (nx_then ?_)
        refine S.c (!(decide (a.iobuf = b.iobuf))) (fun h16 => ?_) (fun h16 => ?_)
        · have h17 : (decide (a.iobuf = b.iobuf)) = false := not_t h16
          have g18 := of_decide_eq_false h17
          refine wp_seq (RG.start ?_)
          refine S.q 1 [4] 0 ⟨[(4, .v (B false))], []⟩ .nil ?_; clear S; intro ac w β S
          refine RG.done rfl (nx_then (wp_ret (rt_then ?_)))
          refine S.r [B false] ?_
          exact ⟨retB (by clear S; first | (simp [THost.ext_iff, *]; done) | (simp_all [THost.ext_iff]; done)), S.chg⟩
        · have h19 : (decide (a.iobuf = b.iobuf)) = true := not_f h16
          have g20 := of_decide_eq_true h19
          refine wp_skip (nx_then (wp_seq (RG.start ?_)))
          refine S.q 1 [4] 0 ⟨[(4, .v (B true))], []⟩ .nil ?_; clear S; intro ac w β S
          refine RG.done rfl (nx_then (wp_ret ?_))
          refine S.r [B true] ?_
          exact ⟨retB (by clear S; first | (simp [THost.ext_iff, *]; done) | (simp_all [THost.ext_iff]; done)), S.chg⟩

set_option maxRecDepth 100000 in
theorem c_laws_markIntS (w0 : World) (a : List Int) (pa : LP Int) (F : Bl) (ha : GT.own KK F w0 a pa) (hF : ∀ b, F b → b < w0.heap.size) (k : Int) (pre0 : 0 ≤ k) (pre1 : k + 16 * (SZ.sz a : Int) ≤ 4611686018427387904) : Calls Try.prog 66 [slv (a).length pa.1, I k].toArray w0 (RetX hdl F w0 pa a k) := by
  refine Calls.walk (args := [slv (a).length pa.1, I k]) F Try.func66 rfl rfl ?_
  intro ac β S
  have oa : Ow w0 F w0 (Lt w0.heap.size) F a pa := ⟨ha, hF, fun b hb => .inr hb⟩
  have hz := szl_Int a
  have hlea : a.length ≤ 4194304 := LOwn.le ha
  refine wp_seq (RG.start ?_)
  refine S.q 1 [0, 1] 0 ⟨[(0, .v (slv (a).length pa.1)), (1, .v (I k))], []⟩ .nil ?_; clear S; intro ac w β S
  refine RG.done rfl (nx_then (wp_seq (wp_seq (RG.start ?_))))
  refine S.q 1 [0, 1, 5] 0 ⟨[(0, .v (slv (a).length pa.1)), (1, .v (I k)), (5, .v (I 0))], []⟩ .nil ?_; clear S; intro ac w β S
  refine RG.done rfl (nx_then (wp_block ?_))
  replace S := S.p [0, 1, 5] 0 ⟨[(0, .v (slv (a).length pa.1)), (1, .v (I k)), (5, .v (I 0))], []⟩
  refine wp_loop_down (fun mm ac w => ∃ (i : Nat) (acc : List Int) (j : Int) (q1 : GT.Ptr (List Int)) (F2 : Bl) (u : World) (N : Bl) (β : Nat → Nat), mm = a.length - i ∧ (i ≤ a.length) ∧ (acc = f_marksInt i k ++ a.drop i) ∧ (j = k + 1 * (i : Int)) ∧ St Try.prog Try.f66.ntmps w0 F u N β ⟨[(0, .v (slv a.length q1.1)), (1, .v (I j)), (5, .v (I (i : Int)))], []⟩ ac w ∧ Ow w0 F u N F2 acc q1 ∧ q1.1 = pa.1 ∧ (∀ b, F2 b → F b)) _ ⟨0, a, k, pa, F, _, _, _, rfl, (by first | omega | (simp; done) | (simp; omega)), (by simp [f_marksInt]), (by simp), S.cast (by kernel_rfl), oa, rfl, (fun _ h => h)⟩ ?_
  clear S oa
  rintro mm ac w ⟨i, acc, j, q1, F2, u, N, β, rfl, hi, hacc, hj, S, o3, hq, hs⟩
  have hlacc : acc.length = a.length := by rw [hacc]; simp [f_marksInt]; omega
  refine wp_seq (wp_seq (RG.start ?_))
  refine S.q 4 [0, 1, 5, 9] 0 ⟨[(0, .v (slv a.length q1.1)), (1, .v (I j)), (5, .v (I (i : Int))), (9, .v (B (decide ((i : Int) < (a.length : Int)))))], []⟩ .nil ?_; clear S; intro ac w β S
  refine RG.done rfl (nx_then ?_)
  refine S.c (decide ((i : Int) < (a.length : Int))) (fun h4 => ?_) (fun h4 => ?_)
  · have g5 : (i : Int) < (a.length : Int) := of_decide_eq_true h4
    refine wp_skip (nx_then (wp_seq (wp_block (wp_seq (RG.start ?_)))))
    refine S.q 4 [0, 1, 5, 14, 15] 0 ⟨[(0, .v (slv a.length q1.1)), (1, .v (I j)), (5, .v (I (i : Int))), (14, .v (I j)), (15, .v (pt q1.1.b (q1.1.off + i * 1)))], []⟩ (.cons (Q_idx o3.rn (l := a.length) (k := i) (i := (i : Int)) (by rw [hacc]; simp [f_marksInt]; omega) rfl (by omega) Try.underlying30 (by kernel_rfl)) .nil) ?_; clear S; intro ac w β S
    refine RG.op rfl (S.setEl (α := Int) o3 (t := 3) (v := I j) (k := i) (j := 0) (off := q1.1.off + i * 1) (y := j) (q := ()) (Fy := NoB) (by kernel_rfl) (by kernel_rfl) (by omega) (by kernel_rfl) (by kernel_rfl) (Nat.le_of_ble_eq_true (by kernel_rfl)) (by kernel_rfl) (fun _ _ _ => ⟨NoB, ⟨by omega, by omega⟩, fun _ h => False.elim h⟩) (fun b _ h => False.elim h) (fun b h => False.elim h) (fun b h => False.elim h) ?_)
    clear S; intro w N F7 q8 S up o6 d9 s10 n11
    have s12 : ∀ b, F7 b → F b := fun b h => (s10 b h).elim (hs b) (fun h => False.elim h)
    clear up d9 o3 n11
    have l13 : (acc.set i j).length = (acc).length := List.length_set
    replace S := S.p [0, 1, 5] 0 ⟨[(0, .v (slv a.length q1.1)), (1, .v (I j)), (5, .v (I (i : Int)))], []⟩
    refine RG.done rfl (nx_then (RG.start ?_))
    refine S.q 3 [0, 1, 5] 0 ⟨[(0, .v (slv a.length q1.1)), (1, .v (I (j + 1))), (5, .v (I (i : Int)))], []⟩ (.cons (Q_add (x := j) (y := 1) ⟨by omega, by omega⟩) .nil) ?_; clear S; intro ac w β S
    refine RG.done rfl (nx_block (nx_then (RG.start ?_)))
    refine S.q 3 [0, 1, 5] 0 ⟨[(0, .v (slv a.length q1.1)), (1, .v (I (j + 1))), (5, .v (I ((i : Int) + 1)))], []⟩ (.cons (Q_add (x := (i : Int)) (y := 1) ⟨by omega, by omega⟩) .nil) ?_; clear S; intro ac w β S
    refine RG.done rfl (nx_then ?_)
    replace S := S.p [0, 1, 5] 0 ⟨[(0, .v (slv a.length q1.1)), (1, .v (I (j + 1))), (5, .v (I ((i : Int) + 1)))], []⟩
    refine ⟨a.length - (i + 1), by omega, i + 1, (acc.set i j), (j + 1), (q1.1, q8), F7, _, _, _, rfl, ?_, ?_, ?_, S.cast (by kernel_rfl), o6, hq, s12⟩
    · clear S; first | omega | (simp [*]; done) | (simp [*]; omega)
    · clear S; (have hlt : i < acc.length := (by omega)); rw [hacc, ← marksInt_step (by omega) hj]; (first | rfl | (simp [g_markInt, Int.add_assoc]; done))
    · clear S; omega
  · have g14 : ¬ ((i : Int) < (a.length : Int)) := of_decide_eq_false h4
    refine wp_exit (ex_then (ex_then (ex_hit (nx_then (wp_seq (RG.start ?_))))))
    refine S.q 2 [4] 0 ⟨[(4, .v (I j))], []⟩ .nil ?_; clear S; intro ac w β S
    refine RG.done rfl (nx_then (wp_ret ?_))
    refine S.r [I j] ?_
    have hyd : hdl acc k = j := by clear S; (have e : i = a.length := (by omega)); subst e; rw [hacc, List.drop_length, List.append_nil, hj]; exact hd_marksInt k (by omega) _ (by omega) id
    have hyb : k ≤ j ∧ j ≤ k + 16 * ((SZ.sz a : Nat) : Int) := by clear S; skip; constructor <;> omega
    exact retX_of S hyd hyb.1 hyb.2 (by show [slv _ _] = [slv _ _]; rw [hlacc, hq]) o3 hs

end Go.Proofs.Ytacgkoohinlhjaa
