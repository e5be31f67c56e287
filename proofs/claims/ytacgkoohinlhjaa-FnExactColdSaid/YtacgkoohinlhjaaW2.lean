/- The walks: what each function that the laws reach computes (part 2). -/
import Derived.Test.YtacgkoohinlhjaaW1
import Derived.Test.YtacgkoohinlhjaaProg
import Derived.KernelRfl
namespace Go.Proofs.Ytacgkoohinlhjaa
open Go
set_option linter.unusedVariables false
set_option linter.unusedSimpArgs false

set_option maxRecDepth 100000 in
theorem c_spec_l21Copy (w0 : World) (h : THost) (ph : PHost) (hh : GT.rd KK (Lt w0.heap.size) w0 h ph) : Calls Try.prog 38 [GT.val h ph].toArray w0 (Ret1 NoB w0 (h : THost)) := by
  refine Calls.walk (args := [GT.val h ph]) NoB Try.func38 rfl rfl ?_
  intro ac β S
  have hleh_mem : h.mem.length ≤ 4194304 := LRd.le (RHost.mem (d := h) hh)
  have hleh_mons : h.mons.length ≤ 4194304 := LRd.le (RHost.mons (d := h) hh)
  have hleh_buf : h.buf.length ≤ 4194304 := LRd.le (RHost.buf (d := h) hh)
  have hleh_iobuf : h.iobuf.length ≤ 4194304 := LRd.le (RHost.iobuf (d := h) hh)
  refine wp_seq (RG.start ?_)
  refine S.q 2 [1, 2] 2 ⟨[(1, .p 0 0), (2, .p 1 0)], [GT.cells h ph, Zc THost]⟩ .nil ?_; clear S; intro ac w β S
  refine RG.done rfl (nx_then (wp_seq ?_))
  replace S := S.p [1, 2] 2 ⟨[(1, .p 0 0), (2, .p 1 0)], [GT.cells h ph, Zc THost]⟩
  obtain ⟨u0, N0, β0, S⟩ : ∃ (u0 : World) (N0 : Bl) (β0 : Nat → Nat), St Try.prog Try.f38.ntmps w0 NoB u0 N0 β0 ⟨[(1, .p 0 0), (2, .p 1 0)], [GT.cells h ph, Zc THost]⟩ ac w := ⟨_, _, _, S.cast (by kernel_rfl)⟩
  refine wp_region_cut (fun ac w => ∃ (q91 : GT.Ptr (List TEntry)) (F92 : Bl) (q94 : GT.Ptr (List TEntry)) (F95 : Bl) (q88 : GT.Ptr (List (List Int))) (F89 : Bl) (u : World) (N : Bl) (β : Nat → Nat), St Try.prog Try.f38.ntmps w0 NoB u N β ⟨[(1, .p 0 0), (2, .p 1 0), (3, .p 2 0)], [GT.cells h ph, Zc THost, [slv (h.mem).length q88.1, slv (([] : List TMon)).length (GT.pdflt (α := List TMon)).1, slv ((([] : List TEntry) ++ h.buf)).length q91.1, slv ((([] : List TEntry) ++ h.iobuf)).length q94.1]]⟩ ac w ∧ Ow w0 NoB u N F92 (([] : List TEntry) ++ h.buf) q91 ∧ Ow w0 NoB u N F95 (([] : List TEntry) ++ h.iobuf) q94 ∧ Ow w0 NoB u N F89 h.mem q88 ∧ Disj F92 F95 ∧ Disj F92 F89 ∧ Disj F95 F89) ?_ ?_
  · refine S.draw0 (f := 14) 13 rfl rfl ?_
    clear S; intro w S
    refine S.hoist (i := 0) (path := [0]) (keep := [1, 2, 5]) (m := 2) (σ' := ⟨[(1, .p 0 0), (2, .p 1 0), (5, .p 0 0)], [GT.cells h ph, Zc THost]⟩) (by kernel_rfl) (by kernel_rfl) .nil (by kernel_rfl) ?_
    clear S; intro ac S
    refine S.hoist (i := 1) (path := [1]) (keep := [1, 2, 6]) (m := 2) (σ' := ⟨[(1, .p 0 0), (2, .p 1 0), (6, .v (slv (h.mem).length ph.mem.1))], [GT.cells h ph, Zc THost]⟩) (by kernel_rfl) (by kernel_rfl) .nil (by kernel_rfl) ?_
    clear S; intro ac S
    refine S.hoist (i := 4) (path := [4]) (keep := [1, 2, 6, 9]) (m := 2) (σ' := ⟨[(1, .p 0 0), (2, .p 1 0), (6, .v (slv (h.mem).length ph.mem.1)), (9, .p 0 2)], [GT.cells h ph, Zc THost]⟩) (by kernel_rfl) (by kernel_rfl) .nil (by kernel_rfl) ?_
    clear S; intro ac S
    refine S.hoist (i := 5) (path := [5]) (keep := [1, 2, 6, 10]) (m := 2) (σ' := ⟨[(1, .p 0 0), (2, .p 1 0), (6, .v (slv (h.mem).length ph.mem.1)), (10, .v (slv (h.buf).length ph.buf.1))], [GT.cells h ph, Zc THost]⟩) (by kernel_rfl) (by kernel_rfl) .nil (by kernel_rfl) ?_
    clear S; intro ac S
    refine S.hoist (i := 8) (path := [8]) (keep := [1, 2, 6, 10, 13]) (m := 2) (σ' := ⟨[(1, .p 0 0), (2, .p 1 0), (6, .v (slv (h.mem).length ph.mem.1)), (10, .v (slv (h.buf).length ph.buf.1)), (13, .p 0 3)], [GT.cells h ph, Zc THost]⟩) (by kernel_rfl) (by kernel_rfl) .nil (by kernel_rfl) ?_
    clear S; intro ac S
    refine S.hoist (i := 9) (path := [9]) (keep := [1, 2, 6, 10, 14]) (m := 2) (σ' := ⟨[(1, .p 0 0), (2, .p 1 0), (6, .v (slv (h.mem).length ph.mem.1)), (10, .v (slv (h.buf).length ph.buf.1)), (14, .v (slv (h.iobuf).length ph.iobuf.1))], [GT.cells h ph, Zc THost]⟩) (by kernel_rfl) (by kernel_rfl) .nil (by kernel_rfl) ?_
    clear S; intro ac S
    refine WD.nameW fun W hW => ?_
    refine WD.castW (l' := mkL 14 [0, 1, 4, 5, 8, 9]) (by kernel_rfl) ?_
    have hK96 : ∀ (ac : Act) (w : World) (q91 : GT.Ptr (List TEntry)) (F92 : Bl) (q94 : GT.Ptr (List TEntry)) (F95 : Bl) (q88 : GT.Ptr (List (List Int))) (F89 : Bl) (u : World) (N : Bl) (β : Nat → Nat) (S : St Try.prog Try.f38.ntmps w0 NoB u N β ⟨[(1, .p 0 0), (2, .p 1 0), (3, .p 2 0)], [GT.cells h ph, Zc THost, [slv (h.mem).length q88.1, slv (([] : List TMon)).length (GT.pdflt (α := List TMon)).1, slv ((([] : List TEntry) ++ h.buf)).length q91.1, slv ((([] : List TEntry) ++ h.iobuf)).length q94.1]]⟩ ac w) (o90 : Ow w0 NoB u N F92 (([] : List TEntry) ++ h.buf) q91) (o93 : Ow w0 NoB u N F95 (([] : List TEntry) ++ h.iobuf) q94) (o87 : Ow w0 NoB u N F89 h.mem q88) (d97 : Disj F92 F95) (d98 : Disj F92 F89) (d99 : Disj F95 F89) (hNN : True) (hBB : True), W 0 (mkL 14 [0, 1, 2, 3, 4, 5, 6, 7, 8, 9, 10, 11, 12, 13]) ac w := by
      intro ac w q91 F92 q94 F95 q88 F89 u N β S o90 o93 o87 d97 d98 d99 hNN hBB
      rw [hW]
      refine WD.done (by kernel_rfl) ?_ _
      replace S := S.p [1, 2, 3] 3 ⟨[(1, .p 0 0), (2, .p 1 0), (3, .p 2 0)], [GT.cells h ph, Zc THost, [slv (h.mem).length q88.1, slv (([] : List TMon)).length (GT.pdflt (α := List TMon)).1, slv ((([] : List TEntry) ++ h.buf)).length q91.1, slv ((([] : List TEntry) ++ h.iobuf)).length q94.1]]⟩
      exact ⟨rfl, q91, F92, q94, F95, q88, F89, _, _, _, S.cast (by kernel_rfl), o90, o93, o87, d97, d98, d99⟩
    have hK100 : ∀ (ac : Act) (w : World) (q82 : GT.Ptr (List TEntry)) (F83 : Bl) (q85 : GT.Ptr (List TEntry)) (F86 : Bl) (q79 : GT.Ptr (List (List Int))) (F80 : Bl) (u : World) (N : Bl) (β : Nat → Nat) (S : St Try.prog Try.f38.ntmps w0 NoB u N β ⟨[(1, .p 0 0), (2, .p 1 0), (3, .p 2 0), (16, .v (GT.val (⟨h.mem, ([] : List TMon), (([] : List TEntry) ++ h.buf), (([] : List TEntry) ++ h.iobuf)⟩ : THost) (⟨q79, (GT.pdflt (α := List TMon)), q82, q85⟩ : PHost)))], [GT.cells h ph, Zc THost, Zc THost]⟩ ac w) (o81 : Ow w0 NoB u N F83 (([] : List TEntry) ++ h.buf) q82) (o84 : Ow w0 NoB u N F86 (([] : List TEntry) ++ h.iobuf) q85) (o78 : Ow w0 NoB u N F80 h.mem q79) (d101 : Disj F83 F86) (d102 : Disj F83 F80) (d103 : Disj F86 F80) (hNN : ∀ b, N0 b → N b ∧ u.heap[b]? = u0.heap[b]?) (hBB : ∀ k, k < 2 → β k = β0 k), W 1 (mkL 14 [0, 1, 2, 3, 4, 5, 6, 7, 8, 9, 10, 11, 12]) ac w := by
      intro ac w q82 F83 q85 F86 q79 F80 u N β S o81 o84 o78 d101 d102 d103 hNN hBB
      rw [hW]
      refine WD.one (i := 13) (by kernel_rfl) ?_
      refine S.stepq (i := 13) (keep := [1, 2, 3]) (m := 3) (σ' := ⟨[(1, .p 0 0), (2, .p 1 0), (3, .p 2 0)], [GT.cells h ph, Zc THost, [slv (h.mem).length q79.1, slv (([] : List TMon)).length (GT.pdflt (α := List TMon)).1, slv ((([] : List TEntry) ++ h.buf)).length q82.1, slv ((([] : List TEntry) ++ h.iobuf)).length q85.1]]⟩) .nil (by kernel_rfl) ?_
      clear S; intro ac w β S hβ
      refine WD.last (by kernel_rfl) ?_
      clear hβ
      exact WD.ofW hW (by kernel_rfl) (hK96 ac w q82 F83 q85 F86 q79 F80 _ _ _ (S.prune (keep := [1, 2, 3]) (m := 3) (by kernel_rfl)) o81 o84 o78 d101 d102 d103 trivial trivial)
    have hK104 : ∀ (ac : Act) (w : World) (q82 : GT.Ptr (List TEntry)) (F83 : Bl) (q85 : GT.Ptr (List TEntry)) (F86 : Bl) (q79 : GT.Ptr (List (List Int))) (F80 : Bl) (u : World) (N : Bl) (β : Nat → Nat) (S : St Try.prog Try.f38.ntmps w0 NoB u N β ⟨[(1, .p 0 0), (2, .p 1 0), (16, .v (GT.val (⟨h.mem, ([] : List TMon), (([] : List TEntry) ++ h.buf), (([] : List TEntry) ++ h.iobuf)⟩ : THost) (⟨q79, (GT.pdflt (α := List TMon)), q82, q85⟩ : PHost)))], [GT.cells h ph, Zc THost]⟩ ac w) (o81 : Ow w0 NoB u N F83 (([] : List TEntry) ++ h.buf) q82) (o84 : Ow w0 NoB u N F86 (([] : List TEntry) ++ h.iobuf) q85) (o78 : Ow w0 NoB u N F80 h.mem q79) (d105 : Disj F83 F86) (d106 : Disj F83 F80) (d107 : Disj F86 F80) (hNN : ∀ b, N0 b → N b ∧ u.heap[b]? = u0.heap[b]?) (hBB : ∀ k, k < 2 → β k = β0 k), W 2 (mkL 14 [0, 1, 2, 3, 4, 5, 6, 7, 8, 9, 10, 11]) ac w := by
      intro ac w q82 F83 q85 F86 q79 F80 u N β S o81 o84 o78 d105 d106 d107 hNN hBB
      rw [hW]
      refine WD.one (i := 12) (by kernel_rfl) ?_
      refine S.stepq (i := 12) (keep := [1, 2, 3, 16]) (m := 3) (σ' := ⟨[(1, .p 0 0), (2, .p 1 0), (3, .p 2 0), (16, .v (GT.val (⟨h.mem, ([] : List TMon), (([] : List TEntry) ++ h.buf), (([] : List TEntry) ++ h.iobuf)⟩ : THost) (⟨q79, (GT.pdflt (α := List TMon)), q82, q85⟩ : PHost)))], [GT.cells h ph, Zc THost, Zc THost]⟩) .nil (by kernel_rfl) ?_
      clear S; intro ac w β S hβ
      have hB2 := fun k (hk : k < 2) => (hβ k (Nat.lt_of_lt_of_le hk (Nat.le_of_ble_eq_true rfl))).trans (hBB k hk)
      refine WD.stayK S (fun b h => ⟨(hNN b h).1, (hNN b h).2⟩) hB2 (bx_app rfl) ?_
      clear hβ
      exact WD.ofW hW (by kernel_rfl) (hK100 ac w q82 F83 q85 F86 q79 F80 _ _ _ (S.prune (keep := [1, 2, 3, 16]) (m := 3) (by kernel_rfl)) o81 o84 o78 d105 d106 d107 hNN hB2)
    have hK108 : ∀ (ac : Act) (w : World) (q51 : GT.Ptr (List TEntry)) (F52 : Bl) (q76 : GT.Ptr (List TEntry)) (F77 : Bl) (q7 : GT.Ptr (List (List Int))) (F8 : Bl) (u : World) (N : Bl) (β : Nat → Nat) (S : St Try.prog Try.f38.ntmps w0 NoB u N β ⟨[(1, .p 0 0), (2, .p 1 0), (3, .p 2 0), (7, .v (slv (h.mem).length q7.1)), (11, .v (slv ((([] : List TEntry) ++ h.buf)).length q51.1)), (15, .v (slv ((([] : List TEntry) ++ h.iobuf)).length q76.1))], [GT.cells h ph, Zc THost, Zc THost]⟩ ac w) (o50 : Ow w0 NoB u N F52 (([] : List TEntry) ++ h.buf) q51) (o75 : Ow w0 NoB u N F77 (([] : List TEntry) ++ h.iobuf) q76) (o6 : Ow w0 NoB u N F8 h.mem q7) (d109 : Disj F52 F77) (d110 : Disj F52 F8) (d111 : Disj F77 F8) (hNN : ∀ b, N0 b → N b ∧ u.heap[b]? = u0.heap[b]?) (hBB : ∀ k, k < 2 → β k = β0 k), W 2 (mkL 14 [0, 1, 2, 3, 4, 5, 6, 7, 8, 9, 10, 12]) ac w := by
      intro ac w q51 F52 q76 F77 q7 F8 u N β S o50 o75 o6 d109 d110 d111 hNN hBB
      rw [hW]
      refine WD.one (i := 11) (by kernel_rfl) ?_
      refine S.stepq (i := 11) (keep := [1, 2, 3, 16]) (m := 3) (σ' := ⟨[(1, .p 0 0), (2, .p 1 0), (3, .p 2 0), (16, .v (GT.val (⟨h.mem, ([] : List TMon), (([] : List TEntry) ++ h.buf), (([] : List TEntry) ++ h.iobuf)⟩ : THost) (⟨q7, (GT.pdflt (α := List TMon)), q51, q76⟩ : PHost)))], [GT.cells h ph, Zc THost, Zc THost]⟩) (.cons (Q_sem (s := Instr.build 39 [(0, slv (h.mem).length q7.1), (2, slv ((([] : List TEntry) ++ h.buf)).length q51.1), (3, slv ((([] : List TEntry) ++ h.iobuf)).length q76.1)].toArray) (v := .agg [slv (h.mem).length q7.1, slv (([] : List TMon)).length (GT.pdflt (α := List TMon)).1, slv ((([] : List TEntry) ++ h.buf)).length q51.1, slv ((([] : List TEntry) ++ h.iobuf)).length q76.1].toArray) (fun w => by kernel_rfl)) .nil) (by kernel_rfl) ?_
      clear S; intro ac w β S hβ
      have hB2 := fun k (hk : k < 2) => (hβ k (Nat.lt_of_lt_of_le hk (Nat.le_of_ble_eq_true rfl))).trans (hBB k hk)
      refine WD.stayK S (fun b h => ⟨(hNN b h).1, (hNN b h).2⟩) hB2 (bx_app rfl) ?_
      clear hβ
      exact WD.ofW hW (by kernel_rfl) (hK100 ac w q51 F52 q76 F77 q7 F8 _ _ _ (S.prune (keep := [1, 2, 3, 16]) (m := 3) (by kernel_rfl)) o50 o75 o6 d109 d110 d111 hNN hB2)
    have hK112 : ∀ (ac : Act) (w : World) (q51 : GT.Ptr (List TEntry)) (F52 : Bl) (q76 : GT.Ptr (List TEntry)) (F77 : Bl) (q7 : GT.Ptr (List (List Int))) (F8 : Bl) (u : World) (N : Bl) (β : Nat → Nat) (S : St Try.prog Try.f38.ntmps w0 NoB u N β ⟨[(1, .p 0 0), (2, .p 1 0), (7, .v (slv (h.mem).length q7.1)), (11, .v (slv ((([] : List TEntry) ++ h.buf)).length q51.1)), (15, .v (slv ((([] : List TEntry) ++ h.iobuf)).length q76.1))], [GT.cells h ph, Zc THost]⟩ ac w) (o50 : Ow w0 NoB u N F52 (([] : List TEntry) ++ h.buf) q51) (o75 : Ow w0 NoB u N F77 (([] : List TEntry) ++ h.iobuf) q76) (o6 : Ow w0 NoB u N F8 h.mem q7) (d113 : Disj F52 F77) (d114 : Disj F52 F8) (d115 : Disj F77 F8) (hNN : ∀ b, N0 b → N b ∧ u.heap[b]? = u0.heap[b]?) (hBB : ∀ k, k < 2 → β k = β0 k), W 3 (mkL 14 [0, 1, 2, 3, 4, 5, 6, 7, 8, 9, 10]) ac w := by
      intro ac w q51 F52 q76 F77 q7 F8 u N β S o50 o75 o6 d113 d114 d115 hNN hBB
      rw [hW]
      refine WD.many (rs := [11, 12]) (by kernel_rfl) rfl (List.forall_mem_cons.2 ⟨?_, List.forall_mem_cons.2 ⟨?_, List.forall_mem_nil _⟩⟩)
      · refine S.stepq (i := 11) (keep := [1, 2, 16]) (m := 2) (σ' := ⟨[(1, .p 0 0), (2, .p 1 0), (16, .v (GT.val (⟨h.mem, ([] : List TMon), (([] : List TEntry) ++ h.buf), (([] : List TEntry) ++ h.iobuf)⟩ : THost) (⟨q7, (GT.pdflt (α := List TMon)), q51, q76⟩ : PHost)))], [GT.cells h ph, Zc THost]⟩) (.cons (Q_sem (s := Instr.build 39 [(0, slv (h.mem).length q7.1), (2, slv ((([] : List TEntry) ++ h.buf)).length q51.1), (3, slv ((([] : List TEntry) ++ h.iobuf)).length q76.1)].toArray) (v := .agg [slv (h.mem).length q7.1, slv (([] : List TMon)).length (GT.pdflt (α := List TMon)).1, slv ((([] : List TEntry) ++ h.buf)).length q51.1, slv ((([] : List TEntry) ++ h.iobuf)).length q76.1].toArray) (fun w => by kernel_rfl)) .nil) (by kernel_rfl) ?_
        clear S; intro ac w β S hβ
        have hB2 := fun k (hk : k < 2) => (hβ k (Nat.lt_of_lt_of_le hk (Nat.le_of_ble_eq_true rfl))).trans (hBB k hk)
        refine WD.stayK S (fun b h => ⟨(hNN b h).1, (hNN b h).2⟩) hB2 (fun _ _ h => h) ?_
        clear hβ
        exact WD.ofW hW (by kernel_rfl) (hK104 ac w q51 F52 q76 F77 q7 F8 _ _ _ (S.prune (keep := [1, 2, 16]) (m := 2) (by kernel_rfl)) o50 o75 o6 d113 d114 d115 hNN hB2)
      · refine S.stepq (i := 12) (keep := [1, 2, 3, 7, 11, 15]) (m := 3) (σ' := ⟨[(1, .p 0 0), (2, .p 1 0), (3, .p 2 0), (7, .v (slv (h.mem).length q7.1)), (11, .v (slv ((([] : List TEntry) ++ h.buf)).length q51.1)), (15, .v (slv ((([] : List TEntry) ++ h.iobuf)).length q76.1))], [GT.cells h ph, Zc THost, Zc THost]⟩) .nil (by kernel_rfl) ?_
        clear S; intro ac w β S hβ
        have hB2 := fun k (hk : k < 2) => (hβ k (Nat.lt_of_lt_of_le hk (Nat.le_of_ble_eq_true rfl))).trans (hBB k hk)
        refine WD.stayK S (fun b h => ⟨(hNN b h).1, (hNN b h).2⟩) hB2 (bx_app rfl) ?_
        clear hβ
        exact WD.ofW hW (by kernel_rfl) (hK108 ac w q51 F52 q76 F77 q7 F8 _ _ _ (S.prune (keep := [1, 2, 3, 7, 11, 15]) (m := 3) (by kernel_rfl)) o50 o75 o6 d113 d114 d115 hNN hB2)
    have hK116 : ∀ (ac : Act) (w : World) (q51 : GT.Ptr (List TEntry)) (F52 : Bl) (q23 : GT.Ptr (List TEntry)) (F24 : Bl) (q7 : GT.Ptr (List (List Int))) (F8 : Bl) (u : World) (N : Bl) (β : Nat → Nat) (S : St Try.prog Try.f38.ntmps w0 NoB u N β ⟨[(1, .p 0 0), (2, .p 1 0), (3, .p 2 0), (7, .v (slv (h.mem).length q7.1)), (11, .v (slv ((([] : List TEntry) ++ h.buf)).length q51.1)), (12, .v (slv 0 q23.1)), (14, .v (slv (h.iobuf).length ph.iobuf.1))], [GT.cells h ph, Zc THost, Zc THost]⟩ ac w) (o50 : Ow w0 NoB u N F52 (([] : List TEntry) ++ h.buf) q51) (o22 : Ow w0 NoB u N F24 ([] : List TEntry) q23) (o6 : Ow w0 NoB u N F8 h.mem q7) (d117 : Disj F52 F24) (d118 : Disj F52 F8) (d119 : Disj F24 F8) (hNN : ∀ b, N0 b → N b ∧ u.heap[b]? = u0.heap[b]? ∧ ¬ F24 b) (hBB : ∀ k, k < 2 → β k = β0 k), W 3 (mkL 14 [0, 1, 2, 3, 4, 5, 6, 7, 8, 9, 12]) ac w := by
      intro ac w q51 F52 q23 F24 q7 F8 u N β S o50 o22 o6 d117 d118 d119 hNN hBB
      rw [hW]
      refine WD.one (i := 10) (by kernel_rfl) ?_
      have b124 : (h.iobuf).length ≤ 4194304 := LRd.le (RHost.iobuf (d := h) (S.arg hh))
      refine id (S.appFlat (α := TEntry) o22 ((RHost.iobuf (d := h) (S.arg hh))) (fun _ _ h => h) (by' := 32) (d := 15) (lx := 0) (ly := (h.iobuf).length) rfl rfl (by kernel_rfl) (show _ ≤ 4194304 by simp only [List.length_append, List.length_cons, List.length_nil]; omega) ?_)
      clear S; intro ac w N q120 F121 S up o122 d123
      have hb125 := fun b h => (⟨(up b (hNN b h).1 (hNN b h).2.2).1, (up b (hNN b h).1 (hNN b h).2.2).2.trans (hNN b h).2.1⟩ : _ ∧ _)
      refine WD.stayK S (fun b h => ⟨(hb125 b h).1, (hb125 b h).2⟩) hBB (bx_app rfl) ?_
      have d126 : Disj F8 F121 := d123 _ (Disj.symm d119) o6.sub
      have d127 : Disj F52 F121 := d123 _ d117 o50.sub
      replace o6 := o6.upF (Disj.symm d119) up
      replace o50 := o50.upF d117 up
      clear up d123
      exact WD.ofW hW (by kernel_rfl) (hK108 ac w q51 F52 q120 F121 q7 F8 _ _ _ (S.prune (keep := [1, 2, 3, 7, 11, 15]) (m := 3) (by kernel_rfl)) o50 o122 o6 d127 d118 (Disj.symm d126) hb125 hBB)
    have hK128 : ∀ (ac : Act) (w : World) (q51 : GT.Ptr (List TEntry)) (F52 : Bl) (q23 : GT.Ptr (List TEntry)) (F24 : Bl) (q7 : GT.Ptr (List (List Int))) (F8 : Bl) (u : World) (N : Bl) (β : Nat → Nat) (S : St Try.prog Try.f38.ntmps w0 NoB u N β ⟨[(1, .p 0 0), (2, .p 1 0), (7, .v (slv (h.mem).length q7.1)), (11, .v (slv ((([] : List TEntry) ++ h.buf)).length q51.1)), (12, .v (slv 0 q23.1)), (14, .v (slv (h.iobuf).length ph.iobuf.1))], [GT.cells h ph, Zc THost]⟩ ac w) (o50 : Ow w0 NoB u N F52 (([] : List TEntry) ++ h.buf) q51) (o22 : Ow w0 NoB u N F24 ([] : List TEntry) q23) (o6 : Ow w0 NoB u N F8 h.mem q7) (d129 : Disj F52 F24) (d130 : Disj F52 F8) (d131 : Disj F24 F8) (hNN : ∀ b, N0 b → N b ∧ u.heap[b]? = u0.heap[b]? ∧ ¬ F24 b) (hBB : ∀ k, k < 2 → β k = β0 k), W 4 (mkL 14 [0, 1, 2, 3, 4, 5, 6, 7, 8, 9]) ac w := by
      intro ac w q51 F52 q23 F24 q7 F8 u N β S o50 o22 o6 d129 d130 d131 hNN hBB
      rw [hW]
      refine WD.many (rs := [10, 12]) (by kernel_rfl) rfl (List.forall_mem_cons.2 ⟨?_, List.forall_mem_cons.2 ⟨?_, List.forall_mem_nil _⟩⟩)
      · have b136 : (h.iobuf).length ≤ 4194304 := LRd.le (RHost.iobuf (d := h) (S.arg hh))
        refine id (S.appFlat (α := TEntry) o22 ((RHost.iobuf (d := h) (S.arg hh))) (fun _ _ h => h) (by' := 32) (d := 15) (lx := 0) (ly := (h.iobuf).length) rfl rfl (by kernel_rfl) (show _ ≤ 4194304 by simp only [List.length_append, List.length_cons, List.length_nil]; omega) ?_)
        clear S; intro ac w N q132 F133 S up o134 d135
        have hb137 := fun b h => (⟨(up b (hNN b h).1 (hNN b h).2.2).1, (up b (hNN b h).1 (hNN b h).2.2).2.trans (hNN b h).2.1⟩ : _ ∧ _)
        refine WD.stayK S (fun b h => ⟨(hb137 b h).1, (hb137 b h).2⟩) hBB (fun _ _ h => h) ?_
        have d138 : Disj F8 F133 := d135 _ (Disj.symm d131) o6.sub
        have d139 : Disj F52 F133 := d135 _ d129 o50.sub
        replace o6 := o6.upF (Disj.symm d131) up
        replace o50 := o50.upF d129 up
        clear up d135
        exact WD.ofW hW (by kernel_rfl) (hK112 ac w q51 F52 q132 F133 q7 F8 _ _ _ (S.prune (keep := [1, 2, 7, 11, 15]) (m := 2) (by kernel_rfl)) o50 o134 o6 d139 d130 (Disj.symm d138) hb137 hBB)
      · refine S.stepq (i := 12) (keep := [1, 2, 3, 7, 11, 12, 14]) (m := 3) (σ' := ⟨[(1, .p 0 0), (2, .p 1 0), (3, .p 2 0), (7, .v (slv (h.mem).length q7.1)), (11, .v (slv ((([] : List TEntry) ++ h.buf)).length q51.1)), (12, .v (slv 0 q23.1)), (14, .v (slv (h.iobuf).length ph.iobuf.1))], [GT.cells h ph, Zc THost, Zc THost]⟩) .nil (by kernel_rfl) ?_
        clear S; intro ac w β S hβ
        have hB2 := fun k (hk : k < 2) => (hβ k (Nat.lt_of_lt_of_le hk (Nat.le_of_ble_eq_true rfl))).trans (hBB k hk)
        refine WD.stayK S (fun b h => ⟨(hNN b h).1, (hNN b h).2.1⟩) hB2 (bx_app rfl) ?_
        clear hβ
        exact WD.ofW hW (by kernel_rfl) (hK116 ac w q51 F52 q23 F24 q7 F8 _ _ _ (S.prune (keep := [1, 2, 3, 7, 11, 12, 14]) (m := 3) (by kernel_rfl)) o50 o22 o6 d129 d130 d131 hNN hB2)
    have hK140 : ∀ (ac : Act) (w : World) (q51 : GT.Ptr (List TEntry)) (F52 : Bl) (q7 : GT.Ptr (List (List Int))) (F8 : Bl) (u : World) (N : Bl) (β : Nat → Nat) (S : St Try.prog Try.f38.ntmps w0 NoB u N β ⟨[(1, .p 0 0), (2, .p 1 0), (3, .p 2 0), (7, .v (slv (h.mem).length q7.1)), (11, .v (slv ((([] : List TEntry) ++ h.buf)).length q51.1)), (14, .v (slv (h.iobuf).length ph.iobuf.1))], [GT.cells h ph, Zc THost, Zc THost]⟩ ac w) (o50 : Ow w0 NoB u N F52 (([] : List TEntry) ++ h.buf) q51) (o6 : Ow w0 NoB u N F8 h.mem q7) (d141 : Disj F52 F8) (hNN : ∀ b, N0 b → N b ∧ u.heap[b]? = u0.heap[b]?) (hBB : ∀ k, k < 2 → β k = β0 k), W 4 (mkL 14 [0, 1, 2, 3, 4, 5, 6, 8, 9, 12]) ac w := by
      intro ac w q51 F52 q7 F8 u N β S o50 o6 d141 hNN hBB
      rw [hW]
      refine WD.one (i := 7) (by kernel_rfl) ?_
      refine id (S.bs0 (α := TEntry) (d := 12) (by kernel_rfl) ?_)
      clear S; intro ac w N q142 F143 S up o144 d145
      have hb146 := fun b h => (⟨(up b (hNN b h).1).1, (up b (hNN b h).1).2.trans (hNN b h).2, d145 b (hNN b h).1⟩ : _ ∧ _ ∧ _)
      refine WD.stayK S (fun b h => ⟨(hb146 b h).1, (hb146 b h).2.1⟩) hBB (bx_app rfl) ?_
      have d147 : Disj F8 F143 := fun b x y => d145 b (o6.sub b x) y
      have d148 : Disj F52 F143 := fun b x y => d145 b (o50.sub b x) y
      replace o6 := o6.up up
      replace o50 := o50.up up
      clear up d145
      exact WD.ofW hW (by kernel_rfl) (hK116 ac w q51 F52 q142 F143 q7 F8 _ _ _ (S.prune (keep := [1, 2, 3, 7, 11, 12, 14]) (m := 3) (by kernel_rfl)) o50 o144 o6 d148 d141 (Disj.symm d147) hb146 hBB)
    have hK149 : ∀ (ac : Act) (w : World) (q23 : GT.Ptr (List TEntry)) (F24 : Bl) (q7 : GT.Ptr (List (List Int))) (F8 : Bl) (q15 : GT.Ptr (List TEntry)) (F16 : Bl) (u : World) (N : Bl) (β : Nat → Nat) (S : St Try.prog Try.f38.ntmps w0 NoB u N β ⟨[(1, .p 0 0), (2, .p 1 0), (3, .p 2 0), (7, .v (slv (h.mem).length q7.1)), (8, .v (slv 0 q15.1)), (10, .v (slv (h.buf).length ph.buf.1)), (12, .v (slv 0 q23.1)), (14, .v (slv (h.iobuf).length ph.iobuf.1))], [GT.cells h ph, Zc THost, Zc THost]⟩ ac w) (o22 : Ow w0 NoB u N F24 ([] : List TEntry) q23) (o6 : Ow w0 NoB u N F8 h.mem q7) (o14 : Ow w0 NoB u N F16 ([] : List TEntry) q15) (d150 : Disj F24 F8) (d151 : Disj F24 F16) (d152 : Disj F8 F16) (hNN : ∀ b, N0 b → N b ∧ u.heap[b]? = u0.heap[b]? ∧ ¬ F16 b ∧ ¬ F24 b) (hBB : ∀ k, k < 2 → β k = β0 k), W 4 (mkL 14 [0, 1, 2, 3, 4, 5, 7, 8, 9, 12]) ac w := by
      intro ac w q23 F24 q7 F8 q15 F16 u N β S o22 o6 o14 d150 d151 d152 hNN hBB
      rw [hW]
      refine WD.one (i := 6) (by kernel_rfl) ?_
      have b157 : (h.buf).length ≤ 4194304 := LRd.le (RHost.buf (d := h) (S.arg hh))
      refine id (S.appFlat (α := TEntry) o14 ((RHost.buf (d := h) (S.arg hh))) (fun _ _ h => h) (by' := 32) (d := 11) (lx := 0) (ly := (h.buf).length) rfl rfl (by kernel_rfl) (show _ ≤ 4194304 by simp only [List.length_append, List.length_cons, List.length_nil]; omega) ?_)
      clear S; intro ac w N q153 F154 S up o155 d156
      have hb158 := fun b h => (⟨(up b (hNN b h).1 (hNN b h).2.2.1).1, (up b (hNN b h).1 (hNN b h).2.2.1).2.trans (hNN b h).2.1, (hNN b h).2.2.2⟩ : _ ∧ _ ∧ _)
      refine WD.stayK S (fun b h => ⟨(hb158 b h).1, (hb158 b h).2.1⟩) hBB (bx_app rfl) ?_
      have d159 : Disj F8 F154 := d156 _ d152 o6.sub
      have d160 : Disj F24 F154 := d156 _ d151 o22.sub
      replace o6 := o6.upF d152 up
      replace o22 := o22.upF d151 up
      clear up d156
      exact WD.ofW hW (by kernel_rfl) (hK116 ac w q153 F154 q23 F24 q7 F8 _ _ _ (S.prune (keep := [1, 2, 3, 7, 11, 12, 14]) (m := 3) (by kernel_rfl)) o155 o22 o6 (Disj.symm d160) (Disj.symm d159) d150 hb158 hBB)
    have hK161 : ∀ (ac : Act) (w : World) (q51 : GT.Ptr (List TEntry)) (F52 : Bl) (q7 : GT.Ptr (List (List Int))) (F8 : Bl) (u : World) (N : Bl) (β : Nat → Nat) (S : St Try.prog Try.f38.ntmps w0 NoB u N β ⟨[(1, .p 0 0), (2, .p 1 0), (7, .v (slv (h.mem).length q7.1)), (11, .v (slv ((([] : List TEntry) ++ h.buf)).length q51.1)), (14, .v (slv (h.iobuf).length ph.iobuf.1))], [GT.cells h ph, Zc THost]⟩ ac w) (o50 : Ow w0 NoB u N F52 (([] : List TEntry) ++ h.buf) q51) (o6 : Ow w0 NoB u N F8 h.mem q7) (d162 : Disj F52 F8) (hNN : ∀ b, N0 b → N b ∧ u.heap[b]? = u0.heap[b]?) (hBB : ∀ k, k < 2 → β k = β0 k), W 5 (mkL 14 [0, 1, 2, 3, 4, 5, 6, 8, 9]) ac w := by
      intro ac w q51 F52 q7 F8 u N β S o50 o6 d162 hNN hBB
      rw [hW]
      refine WD.many (rs := [7, 12]) (by kernel_rfl) rfl (List.forall_mem_cons.2 ⟨?_, List.forall_mem_cons.2 ⟨?_, List.forall_mem_nil _⟩⟩)
      · refine id (S.bs0 (α := TEntry) (d := 12) (by kernel_rfl) ?_)
        clear S; intro ac w N q163 F164 S up o165 d166
        have hb167 := fun b h => (⟨(up b (hNN b h).1).1, (up b (hNN b h).1).2.trans (hNN b h).2, d166 b (hNN b h).1⟩ : _ ∧ _ ∧ _)
        refine WD.stayK S (fun b h => ⟨(hb167 b h).1, (hb167 b h).2.1⟩) hBB (fun _ _ h => h) ?_
        have d168 : Disj F8 F164 := fun b x y => d166 b (o6.sub b x) y
        have d169 : Disj F52 F164 := fun b x y => d166 b (o50.sub b x) y
        replace o6 := o6.up up
        replace o50 := o50.up up
        clear up d166
        exact WD.ofW hW (by kernel_rfl) (hK128 ac w q51 F52 q163 F164 q7 F8 _ _ _ (S.prune (keep := [1, 2, 7, 11, 12, 14]) (m := 2) (by kernel_rfl)) o50 o165 o6 d169 d162 (Disj.symm d168) hb167 hBB)
      · refine S.stepq (i := 12) (keep := [1, 2, 3, 7, 11, 14]) (m := 3) (σ' := ⟨[(1, .p 0 0), (2, .p 1 0), (3, .p 2 0), (7, .v (slv (h.mem).length q7.1)), (11, .v (slv ((([] : List TEntry) ++ h.buf)).length q51.1)), (14, .v (slv (h.iobuf).length ph.iobuf.1))], [GT.cells h ph, Zc THost, Zc THost]⟩) .nil (by kernel_rfl) ?_
        clear S; intro ac w β S hβ
        have hB2 := fun k (hk : k < 2) => (hβ k (Nat.lt_of_lt_of_le hk (Nat.le_of_ble_eq_true rfl))).trans (hBB k hk)
        refine WD.stayK S (fun b h => ⟨(hNN b h).1, (hNN b h).2⟩) hB2 (bx_app rfl) ?_
        clear hβ
        exact WD.ofW hW (by kernel_rfl) (hK140 ac w q51 F52 q7 F8 _ _ _ (S.prune (keep := [1, 2, 3, 7, 11, 14]) (m := 3) (by kernel_rfl)) o50 o6 d162 hNN hB2)
    have hK170 : ∀ (ac : Act) (w : World) (q23 : GT.Ptr (List TEntry)) (F24 : Bl) (q7 : GT.Ptr (List (List Int))) (F8 : Bl) (q15 : GT.Ptr (List TEntry)) (F16 : Bl) (u : World) (N : Bl) (β : Nat → Nat) (S : St Try.prog Try.f38.ntmps w0 NoB u N β ⟨[(1, .p 0 0), (2, .p 1 0), (7, .v (slv (h.mem).length q7.1)), (8, .v (slv 0 q15.1)), (10, .v (slv (h.buf).length ph.buf.1)), (12, .v (slv 0 q23.1)), (14, .v (slv (h.iobuf).length ph.iobuf.1))], [GT.cells h ph, Zc THost]⟩ ac w) (o22 : Ow w0 NoB u N F24 ([] : List TEntry) q23) (o6 : Ow w0 NoB u N F8 h.mem q7) (o14 : Ow w0 NoB u N F16 ([] : List TEntry) q15) (d171 : Disj F24 F8) (d172 : Disj F24 F16) (d173 : Disj F8 F16) (hNN : ∀ b, N0 b → N b ∧ u.heap[b]? = u0.heap[b]? ∧ ¬ F16 b ∧ ¬ F24 b) (hBB : ∀ k, k < 2 → β k = β0 k), W 5 (mkL 14 [0, 1, 2, 3, 4, 5, 7, 8, 9]) ac w := by
      intro ac w q23 F24 q7 F8 q15 F16 u N β S o22 o6 o14 d171 d172 d173 hNN hBB
      rw [hW]
      refine WD.many (rs := [6, 12]) (by kernel_rfl) rfl (List.forall_mem_cons.2 ⟨?_, List.forall_mem_cons.2 ⟨?_, List.forall_mem_nil _⟩⟩)
      · have b178 : (h.buf).length ≤ 4194304 := LRd.le (RHost.buf (d := h) (S.arg hh))
        refine id (S.appFlat (α := TEntry) o14 ((RHost.buf (d := h) (S.arg hh))) (fun _ _ h => h) (by' := 32) (d := 11) (lx := 0) (ly := (h.buf).length) rfl rfl (by kernel_rfl) (show _ ≤ 4194304 by simp only [List.length_append, List.length_cons, List.length_nil]; omega) ?_)
        clear S; intro ac w N q174 F175 S up o176 d177
        have hb179 := fun b h => (⟨(up b (hNN b h).1 (hNN b h).2.2.1).1, (up b (hNN b h).1 (hNN b h).2.2.1).2.trans (hNN b h).2.1, (hNN b h).2.2.2⟩ : _ ∧ _ ∧ _)
        refine WD.stayK S (fun b h => ⟨(hb179 b h).1, (hb179 b h).2.1⟩) hBB (fun _ _ h => h) ?_
        have d180 : Disj F8 F175 := d177 _ d173 o6.sub
        have d181 : Disj F24 F175 := d177 _ d172 o22.sub
        replace o6 := o6.upF d173 up
        replace o22 := o22.upF d172 up
        clear up d177
        exact WD.ofW hW (by kernel_rfl) (hK128 ac w q174 F175 q23 F24 q7 F8 _ _ _ (S.prune (keep := [1, 2, 7, 11, 12, 14]) (m := 2) (by kernel_rfl)) o176 o22 o6 (Disj.symm d181) (Disj.symm d180) d171 hb179 hBB)
      · refine S.stepq (i := 12) (keep := [1, 2, 3, 7, 8, 10, 12, 14]) (m := 3) (σ' := ⟨[(1, .p 0 0), (2, .p 1 0), (3, .p 2 0), (7, .v (slv (h.mem).length q7.1)), (8, .v (slv 0 q15.1)), (10, .v (slv (h.buf).length ph.buf.1)), (12, .v (slv 0 q23.1)), (14, .v (slv (h.iobuf).length ph.iobuf.1))], [GT.cells h ph, Zc THost, Zc THost]⟩) .nil (by kernel_rfl) ?_
        clear S; intro ac w β S hβ
        have hB2 := fun k (hk : k < 2) => (hβ k (Nat.lt_of_lt_of_le hk (Nat.le_of_ble_eq_true rfl))).trans (hBB k hk)
        refine WD.stayK S (fun b h => ⟨(hNN b h).1, (hNN b h).2.1⟩) hB2 (bx_app rfl) ?_
        clear hβ
        exact WD.ofW hW (by kernel_rfl) (hK149 ac w q23 F24 q7 F8 q15 F16 _ _ _ (S.prune (keep := [1, 2, 3, 7, 8, 10, 12, 14]) (m := 3) (by kernel_rfl)) o22 o6 o14 d171 d172 d173 hNN hB2)
    have hK182 : ∀ (ac : Act) (w : World) (q7 : GT.Ptr (List (List Int))) (F8 : Bl) (q15 : GT.Ptr (List TEntry)) (F16 : Bl) (u : World) (N : Bl) (β : Nat → Nat) (S : St Try.prog Try.f38.ntmps w0 NoB u N β ⟨[(1, .p 0 0), (2, .p 1 0), (3, .p 2 0), (7, .v (slv (h.mem).length q7.1)), (8, .v (slv 0 q15.1)), (10, .v (slv (h.buf).length ph.buf.1)), (14, .v (slv (h.iobuf).length ph.iobuf.1))], [GT.cells h ph, Zc THost, Zc THost]⟩ ac w) (o6 : Ow w0 NoB u N F8 h.mem q7) (o14 : Ow w0 NoB u N F16 ([] : List TEntry) q15) (d183 : Disj F8 F16) (hNN : ∀ b, N0 b → N b ∧ u.heap[b]? = u0.heap[b]? ∧ ¬ F16 b) (hBB : ∀ k, k < 2 → β k = β0 k), W 5 (mkL 14 [0, 1, 2, 3, 4, 5, 8, 9, 12]) ac w := by
      intro ac w q7 F8 q15 F16 u N β S o6 o14 d183 hNN hBB
      rw [hW]
      refine WD.many (rs := [6, 7]) (by kernel_rfl) rfl (List.forall_mem_cons.2 ⟨?_, List.forall_mem_cons.2 ⟨?_, List.forall_mem_nil _⟩⟩)
      · have b188 : (h.buf).length ≤ 4194304 := LRd.le (RHost.buf (d := h) (S.arg hh))
        refine id (S.appFlat (α := TEntry) o14 ((RHost.buf (d := h) (S.arg hh))) (fun _ _ h => h) (by' := 32) (d := 11) (lx := 0) (ly := (h.buf).length) rfl rfl (by kernel_rfl) (show _ ≤ 4194304 by simp only [List.length_append, List.length_cons, List.length_nil]; omega) ?_)
        clear S; intro ac w N q184 F185 S up o186 d187
        have hb189 := fun b h => (⟨(up b (hNN b h).1 (hNN b h).2.2).1, (up b (hNN b h).1 (hNN b h).2.2).2.trans (hNN b h).2.1⟩ : _ ∧ _)
        refine WD.stayK S (fun b h => ⟨(hb189 b h).1, (hb189 b h).2⟩) hBB (bx_app rfl) ?_
        have d190 : Disj F8 F185 := d187 _ d183 o6.sub
        replace o6 := o6.upF d183 up
        clear up d187
        exact WD.ofW hW (by kernel_rfl) (hK140 ac w q184 F185 q7 F8 _ _ _ (S.prune (keep := [1, 2, 3, 7, 11, 14]) (m := 3) (by kernel_rfl)) o186 o6 (Disj.symm d190) hb189 hBB)
      · refine id (S.bs0 (α := TEntry) (d := 12) (by kernel_rfl) ?_)
        clear S; intro ac w N q191 F192 S up o193 d194
        have hb195 := fun b h => (⟨(up b (hNN b h).1).1, (up b (hNN b h).1).2.trans (hNN b h).2.1, (hNN b h).2.2, d194 b (hNN b h).1⟩ : _ ∧ _ ∧ _ ∧ _)
        refine WD.stayK S (fun b h => ⟨(hb195 b h).1, (hb195 b h).2.1⟩) hBB (bx_app rfl) ?_
        have d196 : Disj F8 F192 := fun b x y => d194 b (o6.sub b x) y
        have d197 : Disj F16 F192 := fun b x y => d194 b (o14.sub b x) y
        replace o6 := o6.up up
        replace o14 := o14.up up
        clear up d194
        exact WD.ofW hW (by kernel_rfl) (hK149 ac w q191 F192 q7 F8 q15 F16 _ _ _ (S.prune (keep := [1, 2, 3, 7, 8, 10, 12, 14]) (m := 3) (by kernel_rfl)) o193 o6 o14 (Disj.symm d196) (Disj.symm d197) d183 hb195 hBB)
    have hK198 : ∀ (ac : Act) (w : World) (q23 : GT.Ptr (List TEntry)) (F24 : Bl) (q7 : GT.Ptr (List (List Int))) (F8 : Bl) (u : World) (N : Bl) (β : Nat → Nat) (S : St Try.prog Try.f38.ntmps w0 NoB u N β ⟨[(1, .p 0 0), (2, .p 1 0), (3, .p 2 0), (7, .v (slv (h.mem).length q7.1)), (10, .v (slv (h.buf).length ph.buf.1)), (12, .v (slv 0 q23.1)), (14, .v (slv (h.iobuf).length ph.iobuf.1))], [GT.cells h ph, Zc THost, Zc THost]⟩ ac w) (o22 : Ow w0 NoB u N F24 ([] : List TEntry) q23) (o6 : Ow w0 NoB u N F8 h.mem q7) (d199 : Disj F24 F8) (hNN : ∀ b, N0 b → N b ∧ u.heap[b]? = u0.heap[b]? ∧ ¬ F24 b) (hBB : ∀ k, k < 2 → β k = β0 k), W 5 (mkL 14 [0, 1, 2, 4, 5, 7, 8, 9, 12]) ac w := by
      intro ac w q23 F24 q7 F8 u N β S o22 o6 d199 hNN hBB
      rw [hW]
      refine WD.one (i := 3) (by kernel_rfl) ?_
      refine id (S.bs0 (α := TEntry) (d := 8) (by kernel_rfl) ?_)
      clear S; intro ac w N q200 F201 S up o202 d203
      have hb204 := fun b h => (⟨(up b (hNN b h).1).1, (up b (hNN b h).1).2.trans (hNN b h).2.1, d203 b (hNN b h).1, (hNN b h).2.2⟩ : _ ∧ _ ∧ _ ∧ _)
      refine WD.stayK S (fun b h => ⟨(hb204 b h).1, (hb204 b h).2.1⟩) hBB (bx_app rfl) ?_
      have d205 : Disj F8 F201 := fun b x y => d203 b (o6.sub b x) y
      have d206 : Disj F24 F201 := fun b x y => d203 b (o22.sub b x) y
      replace o6 := o6.up up
      replace o22 := o22.up up
      clear up d203
      exact WD.ofW hW (by kernel_rfl) (hK149 ac w q23 F24 q7 F8 q200 F201 _ _ _ (S.prune (keep := [1, 2, 3, 7, 8, 10, 12, 14]) (m := 3) (by kernel_rfl)) o22 o6 o202 d199 d206 d205 hb204 hBB)
    have hK207 : ∀ (ac : Act) (w : World) (q23 : GT.Ptr (List TEntry)) (F24 : Bl) (q15 : GT.Ptr (List TEntry)) (F16 : Bl) (u : World) (N : Bl) (β : Nat → Nat) (S : St Try.prog Try.f38.ntmps w0 NoB u N β ⟨[(1, .p 0 0), (2, .p 1 0), (3, .p 2 0), (6, .v (slv (h.mem).length ph.mem.1)), (8, .v (slv 0 q15.1)), (10, .v (slv (h.buf).length ph.buf.1)), (12, .v (slv 0 q23.1)), (14, .v (slv (h.iobuf).length ph.iobuf.1))], [GT.cells h ph, Zc THost, Zc THost]⟩ ac w) (o22 : Ow w0 NoB u N F24 ([] : List TEntry) q23) (o14 : Ow w0 NoB u N F16 ([] : List TEntry) q15) (d208 : Disj F24 F16) (hNN : ∀ b, N0 b → N b ∧ u.heap[b]? = u0.heap[b]? ∧ ¬ F16 b ∧ ¬ F24 b) (hBB : ∀ k, k < 2 → β k = β0 k), W 5 (mkL 14 [0, 1, 3, 4, 5, 7, 8, 9, 12]) ac w := by
      intro ac w q23 F24 q15 F16 u N β S o22 o14 d208 hNN hBB
      rw [hW]
      refine WD.one (i := 2) (by kernel_rfl) ?_
      refine id (S.call1 (r := h.mem) (d := 7) (c_spec_l04Copy w h.mem ph.mem (S.rd (RHost.mem (d := h) (S.arg hh)))) (by kernel_rfl) rfl ?_)
      clear S; intro ac w N q209 F210 S up o211 d212
      have hb213 := fun b h => (⟨(up b (hNN b h).1).1, (up b (hNN b h).1).2.trans (hNN b h).2.1, (hNN b h).2.2.1, (hNN b h).2.2.2⟩ : _ ∧ _ ∧ _ ∧ _)
      refine WD.stayK S (fun b h => ⟨(hb213 b h).1, (hb213 b h).2.1⟩) hBB (bx_app rfl) ?_
      have d214 : Disj F16 F210 := fun b x y => d212 b (o14.sub b x) y
      have d215 : Disj F24 F210 := fun b x y => d212 b (o22.sub b x) y
      replace o14 := o14.up up
      replace o22 := o22.up up
      clear up d212
      exact WD.ofW hW (by kernel_rfl) (hK149 ac w q23 F24 q209 F210 q15 F16 _ _ _ (S.prune (keep := [1, 2, 3, 7, 8, 10, 12, 14]) (m := 3) (by kernel_rfl)) o22 o211 o14 d215 d208 (Disj.symm d214) hb213 hBB)
    have hK216 : ∀ (ac : Act) (w : World) (q7 : GT.Ptr (List (List Int))) (F8 : Bl) (q15 : GT.Ptr (List TEntry)) (F16 : Bl) (u : World) (N : Bl) (β : Nat → Nat) (S : St Try.prog Try.f38.ntmps w0 NoB u N β ⟨[(1, .p 0 0), (2, .p 1 0), (7, .v (slv (h.mem).length q7.1)), (8, .v (slv 0 q15.1)), (10, .v (slv (h.buf).length ph.buf.1)), (14, .v (slv (h.iobuf).length ph.iobuf.1))], [GT.cells h ph, Zc THost]⟩ ac w) (o6 : Ow w0 NoB u N F8 h.mem q7) (o14 : Ow w0 NoB u N F16 ([] : List TEntry) q15) (d217 : Disj F8 F16) (hNN : ∀ b, N0 b → N b ∧ u.heap[b]? = u0.heap[b]? ∧ ¬ F16 b) (hBB : ∀ k, k < 2 → β k = β0 k), W 6 (mkL 14 [0, 1, 2, 3, 4, 5, 8, 9]) ac w := by
      intro ac w q7 F8 q15 F16 u N β S o6 o14 d217 hNN hBB
      rw [hW]
      refine WD.many (rs := [6, 7, 12]) (by kernel_rfl) rfl (List.forall_mem_cons.2 ⟨?_, List.forall_mem_cons.2 ⟨?_, List.forall_mem_cons.2 ⟨?_, List.forall_mem_nil _⟩⟩⟩)
      · have b222 : (h.buf).length ≤ 4194304 := LRd.le (RHost.buf (d := h) (S.arg hh))
        refine id (S.appFlat (α := TEntry) o14 ((RHost.buf (d := h) (S.arg hh))) (fun _ _ h => h) (by' := 32) (d := 11) (lx := 0) (ly := (h.buf).length) rfl rfl (by kernel_rfl) (show _ ≤ 4194304 by simp only [List.length_append, List.length_cons, List.length_nil]; omega) ?_)
        clear S; intro ac w N q218 F219 S up o220 d221
        have hb223 := fun b h => (⟨(up b (hNN b h).1 (hNN b h).2.2).1, (up b (hNN b h).1 (hNN b h).2.2).2.trans (hNN b h).2.1⟩ : _ ∧ _)
        refine WD.stayK S (fun b h => ⟨(hb223 b h).1, (hb223 b h).2⟩) hBB (fun _ _ h => h) ?_
        have d224 : Disj F8 F219 := d221 _ d217 o6.sub
        replace o6 := o6.upF d217 up
        clear up d221
        exact WD.ofW hW (by kernel_rfl) (hK161 ac w q218 F219 q7 F8 _ _ _ (S.prune (keep := [1, 2, 7, 11, 14]) (m := 2) (by kernel_rfl)) o220 o6 (Disj.symm d224) hb223 hBB)
      · refine id (S.bs0 (α := TEntry) (d := 12) (by kernel_rfl) ?_)
        clear S; intro ac w N q225 F226 S up o227 d228
        have hb229 := fun b h => (⟨(up b (hNN b h).1).1, (up b (hNN b h).1).2.trans (hNN b h).2.1, (hNN b h).2.2, d228 b (hNN b h).1⟩ : _ ∧ _ ∧ _ ∧ _)
        refine WD.stayK S (fun b h => ⟨(hb229 b h).1, (hb229 b h).2.1⟩) hBB (fun _ _ h => h) ?_
        have d230 : Disj F8 F226 := fun b x y => d228 b (o6.sub b x) y
        have d231 : Disj F16 F226 := fun b x y => d228 b (o14.sub b x) y
        replace o6 := o6.up up
        replace o14 := o14.up up
        clear up d228
        exact WD.ofW hW (by kernel_rfl) (hK170 ac w q225 F226 q7 F8 q15 F16 _ _ _ (S.prune (keep := [1, 2, 7, 8, 10, 12, 14]) (m := 2) (by kernel_rfl)) o227 o6 o14 (Disj.symm d230) (Disj.symm d231) d217 hb229 hBB)
      · refine S.stepq (i := 12) (keep := [1, 2, 3, 7, 8, 10, 14]) (m := 3) (σ' := ⟨[(1, .p 0 0), (2, .p 1 0), (3, .p 2 0), (7, .v (slv (h.mem).length q7.1)), (8, .v (slv 0 q15.1)), (10, .v (slv (h.buf).length ph.buf.1)), (14, .v (slv (h.iobuf).length ph.iobuf.1))], [GT.cells h ph, Zc THost, Zc THost]⟩) .nil (by kernel_rfl) ?_
        clear S; intro ac w β S hβ
        have hB2 := fun k (hk : k < 2) => (hβ k (Nat.lt_of_lt_of_le hk (Nat.le_of_ble_eq_true rfl))).trans (hBB k hk)
        refine WD.stayK S (fun b h => ⟨(hNN b h).1, (hNN b h).2.1⟩) hB2 (bx_app rfl) ?_
        clear hβ
        exact WD.ofW hW (by kernel_rfl) (hK182 ac w q7 F8 q15 F16 _ _ _ (S.prune (keep := [1, 2, 3, 7, 8, 10, 14]) (m := 3) (by kernel_rfl)) o6 o14 d217 hNN hB2)
    have hK232 : ∀ (ac : Act) (w : World) (q23 : GT.Ptr (List TEntry)) (F24 : Bl) (q7 : GT.Ptr (List (List Int))) (F8 : Bl) (u : World) (N : Bl) (β : Nat → Nat) (S : St Try.prog Try.f38.ntmps w0 NoB u N β ⟨[(1, .p 0 0), (2, .p 1 0), (7, .v (slv (h.mem).length q7.1)), (10, .v (slv (h.buf).length ph.buf.1)), (12, .v (slv 0 q23.1)), (14, .v (slv (h.iobuf).length ph.iobuf.1))], [GT.cells h ph, Zc THost]⟩ ac w) (o22 : Ow w0 NoB u N F24 ([] : List TEntry) q23) (o6 : Ow w0 NoB u N F8 h.mem q7) (d233 : Disj F24 F8) (hNN : ∀ b, N0 b → N b ∧ u.heap[b]? = u0.heap[b]? ∧ ¬ F24 b) (hBB : ∀ k, k < 2 → β k = β0 k), W 6 (mkL 14 [0, 1, 2, 4, 5, 7, 8, 9]) ac w := by
      intro ac w q23 F24 q7 F8 u N β S o22 o6 d233 hNN hBB
      rw [hW]
      refine WD.many (rs := [3, 12]) (by kernel_rfl) rfl (List.forall_mem_cons.2 ⟨?_, List.forall_mem_cons.2 ⟨?_, List.forall_mem_nil _⟩⟩)
      · refine id (S.bs0 (α := TEntry) (d := 8) (by kernel_rfl) ?_)
        clear S; intro ac w N q234 F235 S up o236 d237
        have hb238 := fun b h => (⟨(up b (hNN b h).1).1, (up b (hNN b h).1).2.trans (hNN b h).2.1, d237 b (hNN b h).1, (hNN b h).2.2⟩ : _ ∧ _ ∧ _ ∧ _)
        refine WD.stayK S (fun b h => ⟨(hb238 b h).1, (hb238 b h).2.1⟩) hBB (fun _ _ h => h) ?_
        have d239 : Disj F8 F235 := fun b x y => d237 b (o6.sub b x) y
        have d240 : Disj F24 F235 := fun b x y => d237 b (o22.sub b x) y
        replace o6 := o6.up up
        replace o22 := o22.up up
        clear up d237
        exact WD.ofW hW (by kernel_rfl) (hK170 ac w q23 F24 q7 F8 q234 F235 _ _ _ (S.prune (keep := [1, 2, 7, 8, 10, 12, 14]) (m := 2) (by kernel_rfl)) o22 o6 o236 d233 d240 d239 hb238 hBB)
      · refine S.stepq (i := 12) (keep := [1, 2, 3, 7, 10, 12, 14]) (m := 3) (σ' := ⟨[(1, .p 0 0), (2, .p 1 0), (3, .p 2 0), (7, .v (slv (h.mem).length q7.1)), (10, .v (slv (h.buf).length ph.buf.1)), (12, .v (slv 0 q23.1)), (14, .v (slv (h.iobuf).length ph.iobuf.1))], [GT.cells h ph, Zc THost, Zc THost]⟩) .nil (by kernel_rfl) ?_
        clear S; intro ac w β S hβ
        have hB2 := fun k (hk : k < 2) => (hβ k (Nat.lt_of_lt_of_le hk (Nat.le_of_ble_eq_true rfl))).trans (hBB k hk)
        refine WD.stayK S (fun b h => ⟨(hNN b h).1, (hNN b h).2.1⟩) hB2 (bx_app rfl) ?_
        clear hβ
        exact WD.ofW hW (by kernel_rfl) (hK198 ac w q23 F24 q7 F8 _ _ _ (S.prune (keep := [1, 2, 3, 7, 10, 12, 14]) (m := 3) (by kernel_rfl)) o22 o6 d233 hNN hB2)
    have hK241 : ∀ (ac : Act) (w : World) (q7 : GT.Ptr (List (List Int))) (F8 : Bl) (u : World) (N : Bl) (β : Nat → Nat) (S : St Try.prog Try.f38.ntmps w0 NoB u N β ⟨[(1, .p 0 0), (2, .p 1 0), (3, .p 2 0), (7, .v (slv (h.mem).length q7.1)), (10, .v (slv (h.buf).length ph.buf.1)), (14, .v (slv (h.iobuf).length ph.iobuf.1))], [GT.cells h ph, Zc THost, Zc THost]⟩ ac w) (o6 : Ow w0 NoB u N F8 h.mem q7) (hNN : ∀ b, N0 b → N b ∧ u.heap[b]? = u0.heap[b]?) (hBB : ∀ k, k < 2 → β k = β0 k), W 6 (mkL 14 [0, 1, 2, 4, 5, 8, 9, 12]) ac w := by
      intro ac w q7 F8 u N β S o6 hNN hBB
      rw [hW]
      refine WD.many (rs := [3, 7]) (by kernel_rfl) rfl (List.forall_mem_cons.2 ⟨?_, List.forall_mem_cons.2 ⟨?_, List.forall_mem_nil _⟩⟩)
      · refine id (S.bs0 (α := TEntry) (d := 8) (by kernel_rfl) ?_)
        clear S; intro ac w N q242 F243 S up o244 d245
        have hb246 := fun b h => (⟨(up b (hNN b h).1).1, (up b (hNN b h).1).2.trans (hNN b h).2, d245 b (hNN b h).1⟩ : _ ∧ _ ∧ _)
        refine WD.stayK S (fun b h => ⟨(hb246 b h).1, (hb246 b h).2.1⟩) hBB (bx_app rfl) ?_
        have d247 : Disj F8 F243 := fun b x y => d245 b (o6.sub b x) y
        replace o6 := o6.up up
        clear up d245
        exact WD.ofW hW (by kernel_rfl) (hK182 ac w q7 F8 q242 F243 _ _ _ (S.prune (keep := [1, 2, 3, 7, 8, 10, 14]) (m := 3) (by kernel_rfl)) o6 o244 d247 hb246 hBB)
      · refine id (S.bs0 (α := TEntry) (d := 12) (by kernel_rfl) ?_)
        clear S; intro ac w N q248 F249 S up o250 d251
        have hb252 := fun b h => (⟨(up b (hNN b h).1).1, (up b (hNN b h).1).2.trans (hNN b h).2, d251 b (hNN b h).1⟩ : _ ∧ _ ∧ _)
        refine WD.stayK S (fun b h => ⟨(hb252 b h).1, (hb252 b h).2.1⟩) hBB (bx_app rfl) ?_
        have d253 : Disj F8 F249 := fun b x y => d251 b (o6.sub b x) y
        replace o6 := o6.up up
        clear up d251
        exact WD.ofW hW (by kernel_rfl) (hK198 ac w q248 F249 q7 F8 _ _ _ (S.prune (keep := [1, 2, 3, 7, 10, 12, 14]) (m := 3) (by kernel_rfl)) o250 o6 (Disj.symm d253) hb252 hBB)
    have hK254 : ∀ (ac : Act) (w : World) (q23 : GT.Ptr (List TEntry)) (F24 : Bl) (q15 : GT.Ptr (List TEntry)) (F16 : Bl) (u : World) (N : Bl) (β : Nat → Nat) (S : St Try.prog Try.f38.ntmps w0 NoB u N β ⟨[(1, .p 0 0), (2, .p 1 0), (6, .v (slv (h.mem).length ph.mem.1)), (8, .v (slv 0 q15.1)), (10, .v (slv (h.buf).length ph.buf.1)), (12, .v (slv 0 q23.1)), (14, .v (slv (h.iobuf).length ph.iobuf.1))], [GT.cells h ph, Zc THost]⟩ ac w) (o22 : Ow w0 NoB u N F24 ([] : List TEntry) q23) (o14 : Ow w0 NoB u N F16 ([] : List TEntry) q15) (d255 : Disj F24 F16) (hNN : ∀ b, N0 b → N b ∧ u.heap[b]? = u0.heap[b]? ∧ ¬ F16 b ∧ ¬ F24 b) (hBB : ∀ k, k < 2 → β k = β0 k), W 6 (mkL 14 [0, 1, 3, 4, 5, 7, 8, 9]) ac w := by
      intro ac w q23 F24 q15 F16 u N β S o22 o14 d255 hNN hBB
      rw [hW]
      refine WD.many (rs := [2, 12]) (by kernel_rfl) rfl (List.forall_mem_cons.2 ⟨?_, List.forall_mem_cons.2 ⟨?_, List.forall_mem_nil _⟩⟩)
      · refine id (S.call1 (r := h.mem) (d := 7) (c_spec_l04Copy w h.mem ph.mem (S.rd (RHost.mem (d := h) (S.arg hh)))) (by kernel_rfl) rfl ?_)
        clear S; intro ac w N q256 F257 S up o258 d259
        have hb260 := fun b h => (⟨(up b (hNN b h).1).1, (up b (hNN b h).1).2.trans (hNN b h).2.1, (hNN b h).2.2.1, (hNN b h).2.2.2⟩ : _ ∧ _ ∧ _ ∧ _)
        refine WD.stayK S (fun b h => ⟨(hb260 b h).1, (hb260 b h).2.1⟩) hBB (fun _ _ h => h) ?_
        have d261 : Disj F16 F257 := fun b x y => d259 b (o14.sub b x) y
        have d262 : Disj F24 F257 := fun b x y => d259 b (o22.sub b x) y
        replace o14 := o14.up up
        replace o22 := o22.up up
        clear up d259
        exact WD.ofW hW (by kernel_rfl) (hK170 ac w q23 F24 q256 F257 q15 F16 _ _ _ (S.prune (keep := [1, 2, 7, 8, 10, 12, 14]) (m := 2) (by kernel_rfl)) o22 o258 o14 d262 d255 (Disj.symm d261) hb260 hBB)
      · refine S.stepq (i := 12) (keep := [1, 2, 3, 6, 8, 10, 12, 14]) (m := 3) (σ' := ⟨[(1, .p 0 0), (2, .p 1 0), (3, .p 2 0), (6, .v (slv (h.mem).length ph.mem.1)), (8, .v (slv 0 q15.1)), (10, .v (slv (h.buf).length ph.buf.1)), (12, .v (slv 0 q23.1)), (14, .v (slv (h.iobuf).length ph.iobuf.1))], [GT.cells h ph, Zc THost, Zc THost]⟩) .nil (by kernel_rfl) ?_
        clear S; intro ac w β S hβ
        have hB2 := fun k (hk : k < 2) => (hβ k (Nat.lt_of_lt_of_le hk (Nat.le_of_ble_eq_true rfl))).trans (hBB k hk)
        refine WD.stayK S (fun b h => ⟨(hNN b h).1, (hNN b h).2.1⟩) hB2 (bx_app rfl) ?_
        clear hβ
        exact WD.ofW hW (by kernel_rfl) (hK207 ac w q23 F24 q15 F16 _ _ _ (S.prune (keep := [1, 2, 3, 6, 8, 10, 12, 14]) (m := 3) (by kernel_rfl)) o22 o14 d255 hNN hB2)
    have hK263 : ∀ (ac : Act) (w : World) (q15 : GT.Ptr (List TEntry)) (F16 : Bl) (u : World) (N : Bl) (β : Nat → Nat) (S : St Try.prog Try.f38.ntmps w0 NoB u N β ⟨[(1, .p 0 0), (2, .p 1 0), (3, .p 2 0), (6, .v (slv (h.mem).length ph.mem.1)), (8, .v (slv 0 q15.1)), (10, .v (slv (h.buf).length ph.buf.1)), (14, .v (slv (h.iobuf).length ph.iobuf.1))], [GT.cells h ph, Zc THost, Zc THost]⟩ ac w) (o14 : Ow w0 NoB u N F16 ([] : List TEntry) q15) (hNN : ∀ b, N0 b → N b ∧ u.heap[b]? = u0.heap[b]? ∧ ¬ F16 b) (hBB : ∀ k, k < 2 → β k = β0 k), W 6 (mkL 14 [0, 1, 3, 4, 5, 8, 9, 12]) ac w := by
      intro ac w q15 F16 u N β S o14 hNN hBB
      rw [hW]
      refine WD.many (rs := [2, 7]) (by kernel_rfl) rfl (List.forall_mem_cons.2 ⟨?_, List.forall_mem_cons.2 ⟨?_, List.forall_mem_nil _⟩⟩)
      · refine id (S.call1 (r := h.mem) (d := 7) (c_spec_l04Copy w h.mem ph.mem (S.rd (RHost.mem (d := h) (S.arg hh)))) (by kernel_rfl) rfl ?_)
        clear S; intro ac w N q264 F265 S up o266 d267
        have hb268 := fun b h => (⟨(up b (hNN b h).1).1, (up b (hNN b h).1).2.trans (hNN b h).2.1, (hNN b h).2.2⟩ : _ ∧ _ ∧ _)
        refine WD.stayK S (fun b h => ⟨(hb268 b h).1, (hb268 b h).2.1⟩) hBB (bx_app rfl) ?_
        have d269 : Disj F16 F265 := fun b x y => d267 b (o14.sub b x) y
        replace o14 := o14.up up
        clear up d267
        exact WD.ofW hW (by kernel_rfl) (hK182 ac w q264 F265 q15 F16 _ _ _ (S.prune (keep := [1, 2, 3, 7, 8, 10, 14]) (m := 3) (by kernel_rfl)) o266 o14 (Disj.symm d269) hb268 hBB)
      · refine id (S.bs0 (α := TEntry) (d := 12) (by kernel_rfl) ?_)
        clear S; intro ac w N q270 F271 S up o272 d273
        have hb274 := fun b h => (⟨(up b (hNN b h).1).1, (up b (hNN b h).1).2.trans (hNN b h).2.1, (hNN b h).2.2, d273 b (hNN b h).1⟩ : _ ∧ _ ∧ _ ∧ _)
        refine WD.stayK S (fun b h => ⟨(hb274 b h).1, (hb274 b h).2.1⟩) hBB (bx_app rfl) ?_
        have d275 : Disj F16 F271 := fun b x y => d273 b (o14.sub b x) y
        replace o14 := o14.up up
        clear up d273
        exact WD.ofW hW (by kernel_rfl) (hK207 ac w q270 F271 q15 F16 _ _ _ (S.prune (keep := [1, 2, 3, 6, 8, 10, 12, 14]) (m := 3) (by kernel_rfl)) o272 o14 (Disj.symm d275) hb274 hBB)
    have hK276 : ∀ (ac : Act) (w : World) (q23 : GT.Ptr (List TEntry)) (F24 : Bl) (u : World) (N : Bl) (β : Nat → Nat) (S : St Try.prog Try.f38.ntmps w0 NoB u N β ⟨[(1, .p 0 0), (2, .p 1 0), (3, .p 2 0), (6, .v (slv (h.mem).length ph.mem.1)), (10, .v (slv (h.buf).length ph.buf.1)), (12, .v (slv 0 q23.1)), (14, .v (slv (h.iobuf).length ph.iobuf.1))], [GT.cells h ph, Zc THost, Zc THost]⟩ ac w) (o22 : Ow w0 NoB u N F24 ([] : List TEntry) q23) (hNN : ∀ b, N0 b → N b ∧ u.heap[b]? = u0.heap[b]? ∧ ¬ F24 b) (hBB : ∀ k, k < 2 → β k = β0 k), W 6 (mkL 14 [0, 1, 4, 5, 7, 8, 9, 12]) ac w := by
      intro ac w q23 F24 u N β S o22 hNN hBB
      rw [hW]
      refine WD.many (rs := [2, 3]) (by kernel_rfl) rfl (List.forall_mem_cons.2 ⟨?_, List.forall_mem_cons.2 ⟨?_, List.forall_mem_nil _⟩⟩)
      · refine id (S.call1 (r := h.mem) (d := 7) (c_spec_l04Copy w h.mem ph.mem (S.rd (RHost.mem (d := h) (S.arg hh)))) (by kernel_rfl) rfl ?_)
        clear S; intro ac w N q277 F278 S up o279 d280
        have hb281 := fun b h => (⟨(up b (hNN b h).1).1, (up b (hNN b h).1).2.trans (hNN b h).2.1, (hNN b h).2.2⟩ : _ ∧ _ ∧ _)
        refine WD.stayK S (fun b h => ⟨(hb281 b h).1, (hb281 b h).2.1⟩) hBB (bx_app rfl) ?_
        have d282 : Disj F24 F278 := fun b x y => d280 b (o22.sub b x) y
        replace o22 := o22.up up
        clear up d280
        exact WD.ofW hW (by kernel_rfl) (hK198 ac w q23 F24 q277 F278 _ _ _ (S.prune (keep := [1, 2, 3, 7, 10, 12, 14]) (m := 3) (by kernel_rfl)) o22 o279 d282 hb281 hBB)
      · refine id (S.bs0 (α := TEntry) (d := 8) (by kernel_rfl) ?_)
        clear S; intro ac w N q283 F284 S up o285 d286
        have hb287 := fun b h => (⟨(up b (hNN b h).1).1, (up b (hNN b h).1).2.trans (hNN b h).2.1, d286 b (hNN b h).1, (hNN b h).2.2⟩ : _ ∧ _ ∧ _ ∧ _)
        refine WD.stayK S (fun b h => ⟨(hb287 b h).1, (hb287 b h).2.1⟩) hBB (bx_app rfl) ?_
        have d288 : Disj F24 F284 := fun b x y => d286 b (o22.sub b x) y
        replace o22 := o22.up up
        clear up d286
        exact WD.ofW hW (by kernel_rfl) (hK207 ac w q23 F24 q283 F284 _ _ _ (S.prune (keep := [1, 2, 3, 6, 8, 10, 12, 14]) (m := 3) (by kernel_rfl)) o22 o285 d288 hb287 hBB)
    have hK289 : ∀ (ac : Act) (w : World) (q7 : GT.Ptr (List (List Int))) (F8 : Bl) (u : World) (N : Bl) (β : Nat → Nat) (S : St Try.prog Try.f38.ntmps w0 NoB u N β ⟨[(1, .p 0 0), (2, .p 1 0), (7, .v (slv (h.mem).length q7.1)), (10, .v (slv (h.buf).length ph.buf.1)), (14, .v (slv (h.iobuf).length ph.iobuf.1))], [GT.cells h ph, Zc THost]⟩ ac w) (o6 : Ow w0 NoB u N F8 h.mem q7) (hNN : ∀ b, N0 b → N b ∧ u.heap[b]? = u0.heap[b]?) (hBB : ∀ k, k < 2 → β k = β0 k), W 7 (mkL 14 [0, 1, 2, 4, 5, 8, 9]) ac w := by
      intro ac w q7 F8 u N β S o6 hNN hBB
      rw [hW]
      refine WD.many (rs := [3, 7, 12]) (by kernel_rfl) rfl (List.forall_mem_cons.2 ⟨?_, List.forall_mem_cons.2 ⟨?_, List.forall_mem_cons.2 ⟨?_, List.forall_mem_nil _⟩⟩⟩)
      · refine id (S.bs0 (α := TEntry) (d := 8) (by kernel_rfl) ?_)
        clear S; intro ac w N q290 F291 S up o292 d293
        have hb294 := fun b h => (⟨(up b (hNN b h).1).1, (up b (hNN b h).1).2.trans (hNN b h).2, d293 b (hNN b h).1⟩ : _ ∧ _ ∧ _)
        refine WD.stayK S (fun b h => ⟨(hb294 b h).1, (hb294 b h).2.1⟩) hBB (fun _ _ h => h) ?_
        have d295 : Disj F8 F291 := fun b x y => d293 b (o6.sub b x) y
        replace o6 := o6.up up
        clear up d293
        exact WD.ofW hW (by kernel_rfl) (hK216 ac w q7 F8 q290 F291 _ _ _ (S.prune (keep := [1, 2, 7, 8, 10, 14]) (m := 2) (by kernel_rfl)) o6 o292 d295 hb294 hBB)
      · refine id (S.bs0 (α := TEntry) (d := 12) (by kernel_rfl) ?_)
        clear S; intro ac w N q296 F297 S up o298 d299
        have hb300 := fun b h => (⟨(up b (hNN b h).1).1, (up b (hNN b h).1).2.trans (hNN b h).2, d299 b (hNN b h).1⟩ : _ ∧ _ ∧ _)
        refine WD.stayK S (fun b h => ⟨(hb300 b h).1, (hb300 b h).2.1⟩) hBB (fun _ _ h => h) ?_
        have d301 : Disj F8 F297 := fun b x y => d299 b (o6.sub b x) y
        replace o6 := o6.up up
        clear up d299
        exact WD.ofW hW (by kernel_rfl) (hK232 ac w q296 F297 q7 F8 _ _ _ (S.prune (keep := [1, 2, 7, 10, 12, 14]) (m := 2) (by kernel_rfl)) o298 o6 (Disj.symm d301) hb300 hBB)
      · refine S.stepq (i := 12) (keep := [1, 2, 3, 7, 10, 14]) (m := 3) (σ' := ⟨[(1, .p 0 0), (2, .p 1 0), (3, .p 2 0), (7, .v (slv (h.mem).length q7.1)), (10, .v (slv (h.buf).length ph.buf.1)), (14, .v (slv (h.iobuf).length ph.iobuf.1))], [GT.cells h ph, Zc THost, Zc THost]⟩) .nil (by kernel_rfl) ?_
        clear S; intro ac w β S hβ
        have hB2 := fun k (hk : k < 2) => (hβ k (Nat.lt_of_lt_of_le hk (Nat.le_of_ble_eq_true rfl))).trans (hBB k hk)
        refine WD.stayK S (fun b h => ⟨(hNN b h).1, (hNN b h).2⟩) hB2 (bx_app rfl) ?_
        clear hβ
        exact WD.ofW hW (by kernel_rfl) (hK241 ac w q7 F8 _ _ _ (S.prune (keep := [1, 2, 3, 7, 10, 14]) (m := 3) (by kernel_rfl)) o6 hNN hB2)
    have hK302 : ∀ (ac : Act) (w : World) (q15 : GT.Ptr (List TEntry)) (F16 : Bl) (u : World) (N : Bl) (β : Nat → Nat) (S : St Try.prog Try.f38.ntmps w0 NoB u N β ⟨[(1, .p 0 0), (2, .p 1 0), (6, .v (slv (h.mem).length ph.mem.1)), (8, .v (slv 0 q15.1)), (10, .v (slv (h.buf).length ph.buf.1)), (14, .v (slv (h.iobuf).length ph.iobuf.1))], [GT.cells h ph, Zc THost]⟩ ac w) (o14 : Ow w0 NoB u N F16 ([] : List TEntry) q15) (hNN : ∀ b, N0 b → N b ∧ u.heap[b]? = u0.heap[b]? ∧ ¬ F16 b) (hBB : ∀ k, k < 2 → β k = β0 k), W 7 (mkL 14 [0, 1, 3, 4, 5, 8, 9]) ac w := by
      intro ac w q15 F16 u N β S o14 hNN hBB
      rw [hW]
      refine WD.many (rs := [2, 7, 12]) (by kernel_rfl) rfl (List.forall_mem_cons.2 ⟨?_, List.forall_mem_cons.2 ⟨?_, List.forall_mem_cons.2 ⟨?_, List.forall_mem_nil _⟩⟩⟩)
      · refine id (S.call1 (r := h.mem) (d := 7) (c_spec_l04Copy w h.mem ph.mem (S.rd (RHost.mem (d := h) (S.arg hh)))) (by kernel_rfl) rfl ?_)
        clear S; intro ac w N q303 F304 S up o305 d306
        have hb307 := fun b h => (⟨(up b (hNN b h).1).1, (up b (hNN b h).1).2.trans (hNN b h).2.1, (hNN b h).2.2⟩ : _ ∧ _ ∧ _)
        refine WD.stayK S (fun b h => ⟨(hb307 b h).1, (hb307 b h).2.1⟩) hBB (fun _ _ h => h) ?_
        have d308 : Disj F16 F304 := fun b x y => d306 b (o14.sub b x) y
        replace o14 := o14.up up
        clear up d306
        exact WD.ofW hW (by kernel_rfl) (hK216 ac w q303 F304 q15 F16 _ _ _ (S.prune (keep := [1, 2, 7, 8, 10, 14]) (m := 2) (by kernel_rfl)) o305 o14 (Disj.symm d308) hb307 hBB)
      · refine id (S.bs0 (α := TEntry) (d := 12) (by kernel_rfl) ?_)
        clear S; intro ac w N q309 F310 S up o311 d312
        have hb313 := fun b h => (⟨(up b (hNN b h).1).1, (up b (hNN b h).1).2.trans (hNN b h).2.1, (hNN b h).2.2, d312 b (hNN b h).1⟩ : _ ∧ _ ∧ _ ∧ _)
        refine WD.stayK S (fun b h => ⟨(hb313 b h).1, (hb313 b h).2.1⟩) hBB (fun _ _ h => h) ?_
        have d314 : Disj F16 F310 := fun b x y => d312 b (o14.sub b x) y
        replace o14 := o14.up up
        clear up d312
        exact WD.ofW hW (by kernel_rfl) (hK254 ac w q309 F310 q15 F16 _ _ _ (S.prune (keep := [1, 2, 6, 8, 10, 12, 14]) (m := 2) (by kernel_rfl)) o311 o14 (Disj.symm d314) hb313 hBB)
      · refine S.stepq (i := 12) (keep := [1, 2, 3, 6, 8, 10, 14]) (m := 3) (σ' := ⟨[(1, .p 0 0), (2, .p 1 0), (3, .p 2 0), (6, .v (slv (h.mem).length ph.mem.1)), (8, .v (slv 0 q15.1)), (10, .v (slv (h.buf).length ph.buf.1)), (14, .v (slv (h.iobuf).length ph.iobuf.1))], [GT.cells h ph, Zc THost, Zc THost]⟩) .nil (by kernel_rfl) ?_
        clear S; intro ac w β S hβ
        have hB2 := fun k (hk : k < 2) => (hβ k (Nat.lt_of_lt_of_le hk (Nat.le_of_ble_eq_true rfl))).trans (hBB k hk)
        refine WD.stayK S (fun b h => ⟨(hNN b h).1, (hNN b h).2.1⟩) hB2 (bx_app rfl) ?_
        clear hβ
        exact WD.ofW hW (by kernel_rfl) (hK263 ac w q15 F16 _ _ _ (S.prune (keep := [1, 2, 3, 6, 8, 10, 14]) (m := 3) (by kernel_rfl)) o14 hNN hB2)
    have hK315 : ∀ (ac : Act) (w : World) (q23 : GT.Ptr (List TEntry)) (F24 : Bl) (u : World) (N : Bl) (β : Nat → Nat) (S : St Try.prog Try.f38.ntmps w0 NoB u N β ⟨[(1, .p 0 0), (2, .p 1 0), (6, .v (slv (h.mem).length ph.mem.1)), (10, .v (slv (h.buf).length ph.buf.1)), (12, .v (slv 0 q23.1)), (14, .v (slv (h.iobuf).length ph.iobuf.1))], [GT.cells h ph, Zc THost]⟩ ac w) (o22 : Ow w0 NoB u N F24 ([] : List TEntry) q23) (hNN : ∀ b, N0 b → N b ∧ u.heap[b]? = u0.heap[b]? ∧ ¬ F24 b) (hBB : ∀ k, k < 2 → β k = β0 k), W 7 (mkL 14 [0, 1, 4, 5, 7, 8, 9]) ac w := by
      intro ac w q23 F24 u N β S o22 hNN hBB
      rw [hW]
      refine WD.many (rs := [2, 3, 12]) (by kernel_rfl) rfl (List.forall_mem_cons.2 ⟨?_, List.forall_mem_cons.2 ⟨?_, List.forall_mem_cons.2 ⟨?_, List.forall_mem_nil _⟩⟩⟩)
      · refine id (S.call1 (r := h.mem) (d := 7) (c_spec_l04Copy w h.mem ph.mem (S.rd (RHost.mem (d := h) (S.arg hh)))) (by kernel_rfl) rfl ?_)
        clear S; intro ac w N q316 F317 S up o318 d319
        have hb320 := fun b h => (⟨(up b (hNN b h).1).1, (up b (hNN b h).1).2.trans (hNN b h).2.1, (hNN b h).2.2⟩ : _ ∧ _ ∧ _)
        refine WD.stayK S (fun b h => ⟨(hb320 b h).1, (hb320 b h).2.1⟩) hBB (fun _ _ h => h) ?_
        have d321 : Disj F24 F317 := fun b x y => d319 b (o22.sub b x) y
        replace o22 := o22.up up
        clear up d319
        exact WD.ofW hW (by kernel_rfl) (hK232 ac w q23 F24 q316 F317 _ _ _ (S.prune (keep := [1, 2, 7, 10, 12, 14]) (m := 2) (by kernel_rfl)) o22 o318 d321 hb320 hBB)
      · refine id (S.bs0 (α := TEntry) (d := 8) (by kernel_rfl) ?_)
        clear S; intro ac w N q322 F323 S up o324 d325
        have hb326 := fun b h => (⟨(up b (hNN b h).1).1, (up b (hNN b h).1).2.trans (hNN b h).2.1, d325 b (hNN b h).1, (hNN b h).2.2⟩ : _ ∧ _ ∧ _ ∧ _)
        refine WD.stayK S (fun b h => ⟨(hb326 b h).1, (hb326 b h).2.1⟩) hBB (fun _ _ h => h) ?_
        have d327 : Disj F24 F323 := fun b x y => d325 b (o22.sub b x) y
        replace o22 := o22.up up
        clear up d325
        exact WD.ofW hW (by kernel_rfl) (hK254 ac w q23 F24 q322 F323 _ _ _ (S.prune (keep := [1, 2, 6, 8, 10, 12, 14]) (m := 2) (by kernel_rfl)) o22 o324 d327 hb326 hBB)
      · refine S.stepq (i := 12) (keep := [1, 2, 3, 6, 10, 12, 14]) (m := 3) (σ' := ⟨[(1, .p 0 0), (2, .p 1 0), (3, .p 2 0), (6, .v (slv (h.mem).length ph.mem.1)), (10, .v (slv (h.buf).length ph.buf.1)), (12, .v (slv 0 q23.1)), (14, .v (slv (h.iobuf).length ph.iobuf.1))], [GT.cells h ph, Zc THost, Zc THost]⟩) .nil (by kernel_rfl) ?_
        clear S; intro ac w β S hβ
        have hB2 := fun k (hk : k < 2) => (hβ k (Nat.lt_of_lt_of_le hk (Nat.le_of_ble_eq_true rfl))).trans (hBB k hk)
        refine WD.stayK S (fun b h => ⟨(hNN b h).1, (hNN b h).2.1⟩) hB2 (bx_app rfl) ?_
        clear hβ
        exact WD.ofW hW (by kernel_rfl) (hK276 ac w q23 F24 _ _ _ (S.prune (keep := [1, 2, 3, 6, 10, 12, 14]) (m := 3) (by kernel_rfl)) o22 hNN hB2)
    have hK328 : ∀ (ac : Act) (w : World)  (u : World) (N : Bl) (β : Nat → Nat) (S : St Try.prog Try.f38.ntmps w0 NoB u N β ⟨[(1, .p 0 0), (2, .p 1 0), (3, .p 2 0), (6, .v (slv (h.mem).length ph.mem.1)), (10, .v (slv (h.buf).length ph.buf.1)), (14, .v (slv (h.iobuf).length ph.iobuf.1))], [GT.cells h ph, Zc THost, Zc THost]⟩ ac w) (hNN : ∀ b, N0 b → N b ∧ u.heap[b]? = u0.heap[b]?) (hBB : ∀ k, k < 2 → β k = β0 k), W 7 (mkL 14 [0, 1, 4, 5, 8, 9, 12]) ac w := by
      intro ac w  u N β S hNN hBB
      rw [hW]
      refine WD.many (rs := [2, 3, 7]) (by kernel_rfl) rfl (List.forall_mem_cons.2 ⟨?_, List.forall_mem_cons.2 ⟨?_, List.forall_mem_cons.2 ⟨?_, List.forall_mem_nil _⟩⟩⟩)
      · refine id (S.call1 (r := h.mem) (d := 7) (c_spec_l04Copy w h.mem ph.mem (S.rd (RHost.mem (d := h) (S.arg hh)))) (by kernel_rfl) rfl ?_)
        clear S; intro ac w N q329 F330 S up o331 d332
        have hb333 := fun b h => (⟨(up b (hNN b h).1).1, (up b (hNN b h).1).2.trans (hNN b h).2⟩ : _ ∧ _)
        refine WD.stayK S (fun b h => ⟨(hb333 b h).1, (hb333 b h).2⟩) hBB (bx_app rfl) ?_
        clear up d332
        exact WD.ofW hW (by kernel_rfl) (hK241 ac w q329 F330 _ _ _ (S.prune (keep := [1, 2, 3, 7, 10, 14]) (m := 3) (by kernel_rfl)) o331 hb333 hBB)
      · refine id (S.bs0 (α := TEntry) (d := 8) (by kernel_rfl) ?_)
        clear S; intro ac w N q334 F335 S up o336 d337
        have hb338 := fun b h => (⟨(up b (hNN b h).1).1, (up b (hNN b h).1).2.trans (hNN b h).2, d337 b (hNN b h).1⟩ : _ ∧ _ ∧ _)
        refine WD.stayK S (fun b h => ⟨(hb338 b h).1, (hb338 b h).2.1⟩) hBB (bx_app rfl) ?_
        clear up d337
        exact WD.ofW hW (by kernel_rfl) (hK263 ac w q334 F335 _ _ _ (S.prune (keep := [1, 2, 3, 6, 8, 10, 14]) (m := 3) (by kernel_rfl)) o336 hb338 hBB)
      · refine id (S.bs0 (α := TEntry) (d := 12) (by kernel_rfl) ?_)
        clear S; intro ac w N q339 F340 S up o341 d342
        have hb343 := fun b h => (⟨(up b (hNN b h).1).1, (up b (hNN b h).1).2.trans (hNN b h).2, d342 b (hNN b h).1⟩ : _ ∧ _ ∧ _)
        refine WD.stayK S (fun b h => ⟨(hb343 b h).1, (hb343 b h).2.1⟩) hBB (bx_app rfl) ?_
        clear up d342
        exact WD.ofW hW (by kernel_rfl) (hK276 ac w q339 F340 _ _ _ (S.prune (keep := [1, 2, 3, 6, 10, 12, 14]) (m := 3) (by kernel_rfl)) o341 hb343 hBB)
    have hNN : ∀ b, N0 b → N0 b ∧ u0.heap[b]? = u0.heap[b]? := fun b h => ⟨h, rfl⟩
    have hBB : ∀ k, k < 2 → β0 k = β0 k := fun _ _ => rfl
    rw [hW]
    refine WD.many (rs := [2, 3, 7, 12]) (by kernel_rfl) rfl (List.forall_mem_cons.2 ⟨?_, List.forall_mem_cons.2 ⟨?_, List.forall_mem_cons.2 ⟨?_, List.forall_mem_cons.2 ⟨?_, List.forall_mem_nil _⟩⟩⟩⟩)
    · refine id (S.call1 (r := h.mem) (d := 7) (c_spec_l04Copy w h.mem ph.mem (S.rd (RHost.mem (d := h) (S.arg hh)))) (by kernel_rfl) rfl ?_)
      clear S; intro ac w N q344 F345 S up o346 d347
      have hb348 := fun b h => (⟨(up b (hNN b h).1).1, (up b (hNN b h).1).2.trans (hNN b h).2⟩ : _ ∧ _)
      refine WD.stayK S (fun b h => ⟨(hb348 b h).1, (hb348 b h).2⟩) hBB (fun _ _ h => h) ?_
      clear up d347
      exact WD.ofW hW (by kernel_rfl) (hK289 ac w q344 F345 _ _ _ (S.prune (keep := [1, 2, 7, 10, 14]) (m := 2) (by kernel_rfl)) o346 hb348 hBB)
    · refine id (S.bs0 (α := TEntry) (d := 8) (by kernel_rfl) ?_)
      clear S; intro ac w N q349 F350 S up o351 d352
      have hb353 := fun b h => (⟨(up b (hNN b h).1).1, (up b (hNN b h).1).2.trans (hNN b h).2, d352 b (hNN b h).1⟩ : _ ∧ _ ∧ _)
      refine WD.stayK S (fun b h => ⟨(hb353 b h).1, (hb353 b h).2.1⟩) hBB (fun _ _ h => h) ?_
      clear up d352
      exact WD.ofW hW (by kernel_rfl) (hK302 ac w q349 F350 _ _ _ (S.prune (keep := [1, 2, 6, 8, 10, 14]) (m := 2) (by kernel_rfl)) o351 hb353 hBB)
    · refine id (S.bs0 (α := TEntry) (d := 12) (by kernel_rfl) ?_)
      clear S; intro ac w N q354 F355 S up o356 d357
      have hb358 := fun b h => (⟨(up b (hNN b h).1).1, (up b (hNN b h).1).2.trans (hNN b h).2, d357 b (hNN b h).1⟩ : _ ∧ _ ∧ _)
      refine WD.stayK S (fun b h => ⟨(hb358 b h).1, (hb358 b h).2.1⟩) hBB (fun _ _ h => h) ?_
      clear up d357
      exact WD.ofW hW (by kernel_rfl) (hK315 ac w q354 F355 _ _ _ (S.prune (keep := [1, 2, 6, 10, 12, 14]) (m := 2) (by kernel_rfl)) o356 hb358 hBB)
    · refine S.stepq (i := 12) (keep := [1, 2, 3, 6, 10, 14]) (m := 3) (σ' := ⟨[(1, .p 0 0), (2, .p 1 0), (3, .p 2 0), (6, .v (slv (h.mem).length ph.mem.1)), (10, .v (slv (h.buf).length ph.buf.1)), (14, .v (slv (h.iobuf).length ph.iobuf.1))], [GT.cells h ph, Zc THost, Zc THost]⟩) .nil (by kernel_rfl) ?_
      clear S; intro ac w β S hβ
      have hB2 := fun k (hk : k < 2) => (hβ k (Nat.lt_of_lt_of_le hk (Nat.le_of_ble_eq_true rfl))).trans (hBB k hk)
      refine WD.stayK S (fun b h => ⟨(hNN b h).1, (hNN b h).2⟩) hB2 (bx_app rfl) ?_
      clear hβ
      exact WD.ofW hW (by kernel_rfl) (hK328 ac w  _ _ _ (S.prune (keep := [1, 2, 3, 6, 10, 14]) (m := 3) (by kernel_rfl))  hNN hB2)
  clear S
  rintro ac w ⟨q91, F92, q94, F95, q88, F89, u, N, β, S, o90, o93, o87, d359, d360, d361⟩
  refine id (nx_then (wp_seq (wp_seq (RG.start ?_))))
  refine S.q 1 [1, 2, 3, 4] 3 ⟨[(1, .p 0 0), (2, .p 1 0), (3, .p 2 0), (4, .v (I 0))], [GT.cells h ph, Zc THost, [slv (h.mem).length q88.1, slv (([] : List TMon)).length (GT.pdflt (α := List TMon)).1, slv ((([] : List TEntry) ++ h.buf)).length q91.1, slv ((([] : List TEntry) ++ h.iobuf)).length q94.1]]⟩ .nil ?_; clear S; intro ac w β S
  refine RG.done rfl (nx_then (wp_block ?_))
  replace S := S.p [1, 2, 3, 4] 3 ⟨[(1, .p 0 0), (2, .p 1 0), (3, .p 2 0), (4, .v (I 0))], [GT.cells h ph, Zc THost, [slv (h.mem).length q88.1, slv (([] : List TMon)).length (GT.pdflt (α := List TMon)).1, slv ((([] : List TEntry) ++ h.buf)).length q91.1, slv ((([] : List TEntry) ++ h.iobuf)).length q94.1]]⟩
  have o365 := S.nilOw (α := TMon)
  refine wp_loop_down (fun mm ac w => ∃ (i : Nat) (acc : List TMon) (q362 : GT.Ptr (List TMon)) (F363 : Bl) (u : World) (N : Bl) (β : Nat → Nat), mm = h.mons.length - i ∧ (i ≤ h.mons.length) ∧ (acc = h.mons.take i) ∧ St Try.prog Try.f38.ntmps w0 NoB u N β ⟨[(1, .p 0 0), (2, .p 1 0), (3, .p 2 0), (4, .v (I (i : Int)))], [GT.cells h ph, Zc THost, [slv (h.mem).length q88.1, slv (acc).length q362.1, slv ((([] : List TEntry) ++ h.buf)).length q91.1, slv ((([] : List TEntry) ++ h.iobuf)).length q94.1]]⟩ ac w ∧ Ow w0 NoB u N F363 acc q362 ∧ Ow w0 NoB u N F89 h.mem q88 ∧ Ow w0 NoB u N F92 (([] : List TEntry) ++ h.buf) q91 ∧ Ow w0 NoB u N F95 (([] : List TEntry) ++ h.iobuf) q94 ∧ Disj F363 F89 ∧ Disj F363 F92 ∧ Disj F363 F95) _ ⟨0, ([] : List TMon), (GT.pdflt (α := List TMon)), NoB, _, _, _, rfl, (by first | omega | (simp; done) | (simp; omega)), (by rfl), S.cast (by kernel_rfl), o365, o87, o90, o93, (Disj.symm (fun b _ h => False.elim h)), (Disj.symm (fun b _ h => False.elim h)), (Disj.symm (fun b _ h => False.elim h))⟩ ?_
  clear S o365 o87 o90 o93
  rintro mm ac w ⟨i, acc, q362, F363, u, N, β, rfl, hi, hacc, S, o364, o87, o90, o93, d366, d367, d368⟩
  have hlacc : acc.length = i := by rw [hacc]; simp; omega
  refine wp_seq (wp_seq (RG.start ?_))
  refine S.q 5 [1, 2, 3, 4, 21] 3 ⟨[(1, .p 0 0), (2, .p 1 0), (3, .p 2 0), (4, .v (I (i : Int))), (21, .v (B (decide ((i : Int) < ((h.mons).length : Int)))))], [GT.cells h ph, Zc THost, [slv (h.mem).length q88.1, slv (acc).length q362.1, slv ((([] : List TEntry) ++ h.buf)).length q91.1, slv ((([] : List TEntry) ++ h.iobuf)).length q94.1]]⟩ .nil ?_; clear S; intro ac w β S
  refine RG.done rfl (nx_then ?_)
  refine S.c (decide ((i : Int) < ((h.mons).length : Int))) (fun h369 => ?_) (fun h369 => ?_)
  · have g370 : (i : Int) < ((h.mons).length : Int) := of_decide_eq_true h369
    refine wp_skip (nx_then (wp_seq (wp_block ?_)))
    refine S.draw0 (f := 12) 9 rfl rfl ?_
    clear S; intro w S
    refine S.hoist (i := 0) (path := [1, 0]) (keep := [1, 2, 3, 4, 24]) (m := 3) (σ' := ⟨[(1, .p 0 0), (2, .p 1 0), (3, .p 2 0), (4, .v (I (i : Int))), (24, .p 2 1)], [GT.cells h ph, Zc THost, [slv (h.mem).length q88.1, slv (acc).length q362.1, slv ((([] : List TEntry) ++ h.buf)).length q91.1, slv ((([] : List TEntry) ++ h.iobuf)).length q94.1]]⟩) (by kernel_rfl) (by kernel_rfl) .nil (by kernel_rfl) ?_
    clear S; intro ac S
    refine S.hoist (i := 1) (path := [1]) (keep := [1, 2, 3, 4, 25]) (m := 3) (σ' := ⟨[(1, .p 0 0), (2, .p 1 0), (3, .p 2 0), (4, .v (I (i : Int))), (25, .v (slv (acc).length q362.1))], [GT.cells h ph, Zc THost, [slv (h.mem).length q88.1, slv (acc).length q362.1, slv ((([] : List TEntry) ++ h.buf)).length q91.1, slv ((([] : List TEntry) ++ h.iobuf)).length q94.1]]⟩) (by kernel_rfl) (by kernel_rfl) .nil (by kernel_rfl) ?_
    clear S; intro ac S
    refine S.hoist (i := 2) (path := [7, 6, 5, 3, 2]) (keep := [1, 2, 3, 4, 25, 26]) (m := 3) (σ' := ⟨[(1, .p 0 0), (2, .p 1 0), (3, .p 2 0), (4, .v (I (i : Int))), (25, .v (slv (acc).length q362.1)), (26, .p 0 1)], [GT.cells h ph, Zc THost, [slv (h.mem).length q88.1, slv (acc).length q362.1, slv ((([] : List TEntry) ++ h.buf)).length q91.1, slv ((([] : List TEntry) ++ h.iobuf)).length q94.1]]⟩) (by kernel_rfl) (by kernel_rfl) .nil (by kernel_rfl) ?_
    clear S; intro ac S
    refine S.hoist (i := 3) (path := [7, 6, 5, 3]) (keep := [1, 2, 3, 4, 25, 27]) (m := 3) (σ' := ⟨[(1, .p 0 0), (2, .p 1 0), (3, .p 2 0), (4, .v (I (i : Int))), (25, .v (slv (acc).length q362.1)), (27, .v (slv (h.mons).length ph.mons.1))], [GT.cells h ph, Zc THost, [slv (h.mem).length q88.1, slv (acc).length q362.1, slv ((([] : List TEntry) ++ h.buf)).length q91.1, slv ((([] : List TEntry) ++ h.iobuf)).length q94.1]]⟩) (by kernel_rfl) (by kernel_rfl) .nil (by kernel_rfl) ?_
    clear S; intro ac S
    refine S.hoist (i := 4) (path := [7, 6, 5, 4]) (keep := [1, 2, 3, 4, 25, 27, 28]) (m := 3) (σ' := ⟨[(1, .p 0 0), (2, .p 1 0), (3, .p 2 0), (4, .v (I (i : Int))), (25, .v (slv (acc).length q362.1)), (27, .v (slv (h.mons).length ph.mons.1)), (28, .v (I (i : Int)))], [GT.cells h ph, Zc THost, [slv (h.mem).length q88.1, slv (acc).length q362.1, slv ((([] : List TEntry) ++ h.buf)).length q91.1, slv ((([] : List TEntry) ++ h.iobuf)).length q94.1]]⟩) (by kernel_rfl) (by kernel_rfl) .nil (by kernel_rfl) ?_
    clear S; intro ac S
    refine S.hoist (i := 5) (path := [7, 6, 5]) (keep := [1, 2, 3, 4, 25, 29]) (m := 3) (σ' := ⟨[(1, .p 0 0), (2, .p 1 0), (3, .p 2 0), (4, .v (I (i : Int))), (25, .v (slv (acc).length q362.1)), (29, .v (pt ph.mons.1.b (ph.mons.1.off + i * 9)))], [GT.cells h ph, Zc THost, [slv (h.mem).length q88.1, slv (acc).length q362.1, slv ((([] : List TEntry) ++ h.buf)).length q91.1, slv ((([] : List TEntry) ++ h.iobuf)).length q94.1]]⟩) (by kernel_rfl) (by kernel_rfl) (.cons (Q_idx (RHost.mons (d := h) (S.arg hh)) (l := (h.mons).length) (k := i) (i := (i : Int)) rfl rfl (by omega) Try.underlying36 (by kernel_rfl)) .nil) (by kernel_rfl) ?_
    clear S; intro ac S
    refine S.hoist (i := 6) (path := [7, 6]) (keep := [1, 2, 3, 4, 25, 30]) (m := 3) (σ' := ⟨[(1, .p 0 0), (2, .p 1 0), (3, .p 2 0), (4, .v (I (i : Int))), (25, .v (slv (acc).length q362.1)), (30, .v (GT.val (el h.mons i) (ph.mons.2 i)))], [GT.cells h ph, Zc THost, [slv (h.mem).length q88.1, slv (acc).length q362.1, slv ((([] : List TEntry) ++ h.buf)).length q91.1, slv ((([] : List TEntry) ++ h.iobuf)).length q94.1]]⟩) (by kernel_rfl) (by kernel_rfl) (.cons (Q_el (RHost.mons (d := h) (S.arg hh)) (t := 46) (k := i) (by omega) rfl (by kernel_rfl) (by kernel_rfl)) .nil) (by kernel_rfl) ?_
    clear S; intro ac S
    refine WD.one (i := 7) (by kernel_rfl) ?_
    refine id (S.call1 (r := (el h.mons i)) (d := 31) (c_spec_l21Mon w (el h.mons i) (ph.mons.2 i) (S.rd (LRd.el (RHost.mons (d := h) (S.arg hh)) i (by omega)))) (by kernel_rfl) rfl ?_)
    clear S; intro ac w N q371 F372 S up o373 d374
    refine WD.next S up rfl ?_
    have d375 : Disj F363 F372 := fun b x y => d374 b (o364.sub b x) y
    have d376 : Disj F89 F372 := fun b x y => d374 b (o87.sub b x) y
    have d377 : Disj F92 F372 := fun b x y => d374 b (o90.sub b x) y
    have d378 : Disj F95 F372 := fun b x y => d374 b (o93.sub b x) y
    replace o364 := o364.up up
    replace o87 := o87.up up
    replace o90 := o90.up up
    replace o93 := o93.up up
    clear up d374
    have i394 : In64 (el h.mons i).pend := RMon.pend (d := (el h.mons i)) o373.rn
    have i395 : In64 (el h.mons i).traps := RMon.traps (d := (el h.mons i)) o373.rn
    have i399 : In64 (el h.mons i).owned := RMon.owned (d := (el h.mons i)) o373.rn
    obtain ⟨F379, F382, F385, F388, F391, F396, o380, o383, o386, o389, o392, o397, s381, s384, s387, s390, s393, s398, d400, d401, d402, d403, d404, d405, d406, d407, d408, d409, d410, d411, d412, d413, d414⟩ := sp_Mon o373
    refine WD.one (i := 8) (by kernel_rfl) ?_
    have o419 := ow_Mon (x := (el h.mons i)) (p := q371) o380 o383 o386 o389 o392 o397 d400 d401 d402 d403 d404 d405 d406 d407 d408 d409 d410 d411 d412 d413 d414 i394 i395 i399
    refine id (S.bs1 (α := TMon) (x := (el h.mons i)) (p := q371) o419.own o419.sub o419.young (d := 32) (by kernel_rfl) ?_)
    clear S; intro ac w N q415 F416 S up o417 d418
    refine WD.next S up rfl ?_
    have d420 : Disj F363 F416 := d418 _ (Disj.symm (Disj.or (Disj.part (Disj.symm d375) s381) (Disj.or (Disj.part (Disj.symm d375) s384) (Disj.or (Disj.part (Disj.symm d375) s387) (Disj.or (Disj.part (Disj.symm d375) s390) (Disj.or (Disj.part (Disj.symm d375) s393) (Disj.or (Disj.part (Disj.symm d375) s398) Disj.nob))))))) o364.sub
    have d421 : Disj F89 F416 := d418 _ (Disj.symm (Disj.or (Disj.part (Disj.symm d376) s381) (Disj.or (Disj.part (Disj.symm d376) s384) (Disj.or (Disj.part (Disj.symm d376) s387) (Disj.or (Disj.part (Disj.symm d376) s390) (Disj.or (Disj.part (Disj.symm d376) s393) (Disj.or (Disj.part (Disj.symm d376) s398) Disj.nob))))))) o87.sub
    have d422 : Disj F92 F416 := d418 _ (Disj.symm (Disj.or (Disj.part (Disj.symm d377) s381) (Disj.or (Disj.part (Disj.symm d377) s384) (Disj.or (Disj.part (Disj.symm d377) s387) (Disj.or (Disj.part (Disj.symm d377) s390) (Disj.or (Disj.part (Disj.symm d377) s393) (Disj.or (Disj.part (Disj.symm d377) s398) Disj.nob))))))) o90.sub
    have d423 : Disj F95 F416 := d418 _ (Disj.symm (Disj.or (Disj.part (Disj.symm d378) s381) (Disj.or (Disj.part (Disj.symm d378) s384) (Disj.or (Disj.part (Disj.symm d378) s387) (Disj.or (Disj.part (Disj.symm d378) s390) (Disj.or (Disj.part (Disj.symm d378) s393) (Disj.or (Disj.part (Disj.symm d378) s398) Disj.nob))))))) o93.sub
    replace o364 := o364.up up
    replace o87 := o87.up up
    replace o90 := o90.up up
    replace o93 := o93.up up
    clear up d418
    refine WD.one (i := 9) (by kernel_rfl) ?_
    refine id (S.appOwn (α := TMon) o364 o417 d420 (by' := 168) (d := 33) (lx := (acc).length) (ly := 1) rfl rfl (by kernel_rfl) (show _ ≤ 4194304 by simp only [List.length_append, List.length_cons, List.length_nil]; omega) ?_)
    clear S; intro ac w N q424 F425 S up o426 d427
    refine WD.last (by kernel_rfl) ?_
    have d428 : Disj F89 F425 := d427 _ (Disj.symm d366) d421 o87.sub
    have d429 : Disj F92 F425 := d427 _ (Disj.symm d367) d422 o90.sub
    have d430 : Disj F95 F425 := d427 _ (Disj.symm d368) d423 o93.sub
    replace o87 := o87.upF (Disj.symm d366) up
    replace o90 := o90.upF (Disj.symm d367) up
    replace o93 := o93.upF (Disj.symm d368) up
    clear up d427
    refine WD.one (i := 10) (by kernel_rfl) ?_
    refine S.stepq (i := 10) (keep := [1, 2, 3, 4, 33, 34]) (m := 3) (σ' := ⟨[(1, .p 0 0), (2, .p 1 0), (3, .p 2 0), (4, .v (I (i : Int))), (33, .v (slv ((acc ++ [(el h.mons i)])).length q424.1)), (34, .p 2 1)], [GT.cells h ph, Zc THost, [slv (h.mem).length q88.1, slv (acc).length q362.1, slv ((([] : List TEntry) ++ h.buf)).length q91.1, slv ((([] : List TEntry) ++ h.iobuf)).length q94.1]]⟩) .nil (by kernel_rfl) ?_
    clear S; intro ac w β S hβ
    refine WD.last (by kernel_rfl) ?_
    clear hβ
    refine WD.one (i := 11) (by kernel_rfl) ?_
    refine S.stepq (i := 11) (keep := [1, 2, 3, 4]) (m := 3) (σ' := ⟨[(1, .p 0 0), (2, .p 1 0), (3, .p 2 0), (4, .v (I (i : Int)))], [GT.cells h ph, Zc THost, [slv (h.mem).length q88.1, slv ((acc ++ [(el h.mons i)])).length q424.1, slv ((([] : List TEntry) ++ h.buf)).length q91.1, slv ((([] : List TEntry) ++ h.iobuf)).length q94.1]]⟩) .nil (by kernel_rfl) ?_
    clear S; intro ac w β S hβ
    refine WD.last (by kernel_rfl) ?_
    clear hβ
    refine WD.done (by kernel_rfl) ?_ _
    replace S := S.p [1, 2, 3, 4] 3 ⟨[(1, .p 0 0), (2, .p 1 0), (3, .p 2 0), (4, .v (I (i : Int)))], [GT.cells h ph, Zc THost, [slv (h.mem).length q88.1, slv ((acc ++ [(el h.mons i)])).length q424.1, slv ((([] : List TEntry) ++ h.buf)).length q91.1, slv ((([] : List TEntry) ++ h.iobuf)).length q94.1]]⟩
    refine id (nx_block (nx_then (RG.start ?_)))
    refine S.q 3 [1, 2, 3, 4] 3 ⟨[(1, .p 0 0), (2, .p 1 0), (3, .p 2 0), (4, .v (I ((i : Int) + 1)))], [GT.cells h ph, Zc THost, [slv (h.mem).length q88.1, slv ((acc ++ [(el h.mons i)])).length q424.1, slv ((([] : List TEntry) ++ h.buf)).length q91.1, slv ((([] : List TEntry) ++ h.iobuf)).length q94.1]]⟩ (.cons (Q_add (x := (i : Int)) (y := 1) ⟨by omega, by omega⟩) .nil) ?_; clear S; intro ac w β S
    refine RG.done rfl (nx_then ?_)
    replace S := S.p [1, 2, 3, 4] 3 ⟨[(1, .p 0 0), (2, .p 1 0), (3, .p 2 0), (4, .v (I ((i : Int) + 1)))], [GT.cells h ph, Zc THost, [slv (h.mem).length q88.1, slv ((acc ++ [(el h.mons i)])).length q424.1, slv ((([] : List TEntry) ++ h.buf)).length q91.1, slv ((([] : List TEntry) ++ h.iobuf)).length q94.1]]⟩
    refine ⟨h.mons.length - (i + 1), by omega, i + 1, (acc ++ [(el h.mons i)]), q424, F425, _, _, _, rfl, ?_, ?_, S.cast (by kernel_rfl), o426, o87, o90, o93, (Disj.symm d428), (Disj.symm d429), (Disj.symm d430)⟩
    · clear S; first | omega | (simp [*]; done) | (simp [*]; omega)
    · clear S; (first | (rw [take_el (by omega), hacc]; done) | (rw [take_el (by omega), hacc]; simp; done))
  · have g431 : ¬ ((i : Int) < ((h.mons).length : Int)) := of_decide_eq_false h369
    refine wp_exit (ex_then (ex_then (ex_hit (nx_then (wp_seq (RG.start ?_))))))
    refine S.q 2 [2] 2 ⟨[(2, .p 1 0)], [GT.cells h ph, [slv (h.mem).length q88.1, slv (acc).length q362.1, slv ((([] : List TEntry) ++ h.buf)).length q91.1, slv ((([] : List TEntry) ++ h.iobuf)).length q94.1]]⟩ .nil ?_; clear S; intro ac w β S
    refine RG.done rfl (nx_then (wp_ret ?_))
    refine S.r [GT.val (⟨h.mem, acc, (([] : List TEntry) ++ h.buf), (([] : List TEntry) ++ h.iobuf)⟩ : THost) (⟨q88, q362, q91, q94⟩ : PHost)] ?_
    have o432 := ow_Host (x := (⟨h.mem, acc, (([] : List TEntry) ++ h.buf), (([] : List TEntry) ++ h.iobuf)⟩ : THost)) (p := (⟨q88, q362, q91, q94⟩ : PHost)) o87 o364 o90 o93 (Disj.symm d366) (Disj.symm d360) (Disj.symm d361) d367 d368 d359 
    exact ret1_of S (show h = (⟨h.mem, acc, (([] : List TEntry) ++ h.buf), (([] : List TEntry) ++ h.iobuf)⟩ : THost) by clear S; (rw [hacc, take_all (by omega)]; first | rfl | (simp; done))) rfl o432

set_option maxRecDepth 100000 in
theorem c_spec_l01In (w0 : World) (x : Int) (a : Int) (b : Int) : Calls Try.prog 39 [I x, I a, I b].toArray w0 (fun e w' => e = .returned (B (f_within x a b)) ∧ Chg NoB w0 w') := by
  refine Calls.walk (args := [I x, I a, I b]) NoB Try.func39 rfl rfl ?_
  intro ac β S
  refine wp_seq (RG.start ?_)
  refine S.q 1 [0, 1, 2] 0 ⟨[(0, .v (I x)), (1, .v (I a)), (2, .v (I b))], []⟩ .nil ?_; clear S; intro ac w β S
  refine RG.done rfl (nx_then (wp_seq (RG.start ?_)))
  refine S.q 4 [0, 2, 10] 0 ⟨[(0, .v (I x)), (2, .v (I b)), (10, .v (B (decide (x ≥ a))))], []⟩ .nil ?_; clear S; intro ac w β S
  rcases Bool.eq_false_or_eq_true (decide (x ≥ a)) with h1 | h1 <;> rw [h1] at S
  · have g2 : x ≥ a := of_decide_eq_true h1
    refine S.q 5 [6] 0 ⟨[(6, .v (B (decide (x ≤ b))))], []⟩ .nil ?_; clear S; intro ac w β S
    refine RG.done rfl (nx_then (wp_ret ?_))
    refine S.r [B (decide (x ≤ b))] ?_
    exact ⟨retB (by clear S; first | rfl | (simp [f_within, *]; done) | (simp [f_within, *]; omega) | (simp_all [f_within]; done) | (simp_all [f_within]; omega)), S.chg⟩
  · have g3 : ¬ (x ≥ a) := of_decide_eq_false h1
    refine S.q 5 [6] 0 ⟨[(6, .v (B false))], []⟩ .nil ?_; clear S; intro ac w β S
    refine RG.done rfl (nx_then (wp_ret ?_))
    refine S.r [B false] ?_
    exact ⟨retB (by clear S; first | rfl | (simp [f_within, *]; done) | (simp [f_within, *]; omega) | (simp_all [f_within]; done) | (simp_all [f_within]; omega)), S.chg⟩

set_option maxRecDepth 100000 in
theorem c_spec_l07Has (w0 : World) (k : TKept) (pk : PKept) (hk : GT.rd KK (Lt w0.heap.size) w0 k pk) (page : Int) : Calls Try.prog 119 [GT.val k pk, I page].toArray w0 (fun e w' => e = .returned (B (decide ((0 ≤ page ∧ page < k.known.length) ∧ page < k.slots.length))) ∧ Chg NoB w0 w') := by
  refine Calls.walk (args := [GT.val k pk, I page]) NoB Try.func119 rfl rfl ?_
  intro ac β S
  have hlek_known : k.known.length ≤ 4194304 := LRd.le (RKept.known (d := k) hk)
  have hlek_slots : k.slots.length ≤ 4194304 := LRd.le (RKept.slots (d := k) hk)
  refine wp_seq (RG.start ?_)
  refine S.q 2 [1, 2] 1 ⟨[(1, .v (I page)), (2, .p 0 0)], [GT.cells k pk]⟩ .nil ?_; clear S; intro ac w β S
  refine RG.done rfl (nx_then (wp_seq (RG.start ?_)))
  refine S.q 7 [1, 2, 11] 1 ⟨[(1, .v (I page)), (2, .p 0 0), (11, .v (B (f_within page 0 (((k.known).length : Int) - 1))))], [GT.cells k pk]⟩ (.cons (Q_sub (x := ((k.known).length : Int)) (y := 1) ⟨by omega, by omega⟩) (.cons (Q_call fun w hw => c_spec_l01In w page 0 (((k.known).length : Int) - 1)) .nil)) ?_; clear S; intro ac w β S
  rcases Bool.eq_false_or_eq_true (f_within page 0 (((k.known).length : Int) - 1)) with h1 | h1 <;> rw [h1] at S
  · have g2 := within_t h1
    refine S.q 7 [4] 0 ⟨[(4, .v (B (decide (page < ((k.slots).length : Int)))))], []⟩ .nil ?_; clear S; intro ac w β S
    refine RG.done rfl (nx_then (wp_ret ?_))
    refine S.r [B (decide (page < ((k.slots).length : Int)))] ?_
    exact ⟨retB (by clear S; (rw [Bool.eq_iff_iff]; simp; omega)), S.chg⟩
  · have g3 := within_f h1
    refine S.q 7 [4] 0 ⟨[(4, .v (B false))], []⟩ .nil ?_; clear S; intro ac w β S
    refine RG.done rfl (nx_then (wp_ret ?_))
    refine S.r [B false] ?_
    exact ⟨retB (by clear S; (rw [Bool.eq_iff_iff]; simp; omega)), S.chg⟩

set_option maxRecDepth 100000 in
theorem c_spec_NoSlot (w0 : World)  : Calls Try.prog 117 [].toArray w0 (fun e w' => e = .returned (GT.val (⟨-1, 0⟩ : TSlot) ()) ∧ Chg NoB w0 w') := by
  refine Calls.walk (args := []) NoB Try.func117 rfl rfl ?_
  intro ac β S
  refine wp_seq (RG.start ?_)
  refine S.q 1 [0] 1 ⟨[(0, .p 0 0)], [Zc TSlot]⟩ .nil ?_; clear S; intro ac w β S
  refine RG.done rfl (nx_then (wp_seq (RG.start ?_)))
  refine S.q 2 [0] 1 ⟨[(0, .p 0 0)], [[I (-1), I 0]]⟩ (.cons (Q_sem (s := Instr.build 120 [(0, I (-1))].toArray) (v := .agg [I (-1), I 0].toArray) (fun w => by kernel_rfl)) .nil) ?_; clear S; intro ac w β S
  refine RG.done rfl (nx_then (wp_ret ?_))
  refine S.r [GT.val (⟨(-1), 0⟩ : TSlot) ()] ?_
  exact ⟨retV (p := ()) (by clear S; first | rfl | (simp [id, *]; done) | (simp [id, *]; omega) | (simp_all [id]; done) | (simp_all [id]; omega)), S.chg⟩

set_option maxRecDepth 100000 in
theorem c_spec_Forget (w0 : World) (k : TKept) (pk : PKept) (hk : GT.rd KK (Lt w0.heap.size) w0 k pk) (page : Int) : Calls Try.prog 106 [GT.val k pk, I page].toArray w0 (Ret1 NoB w0 (f_forget k page : TKept)) := by
  refine Calls.walk (args := [GT.val k pk, I page]) NoB Try.func106 rfl rfl ?_
  intro ac β S
  have hlek_known : k.known.length ≤ 4194304 := LRd.le (RKept.known (d := k) hk)
  have hlek_slots : k.slots.length ≤ 4194304 := LRd.le (RKept.slots (d := k) hk)
  refine wp_seq (RG.start ?_)
  refine S.q 2 [1, 2, 4] 2 ⟨[(1, .v (I page)), (2, .p 0 0), (4, .p 1 0)], [GT.cells k pk, Zc TKept]⟩ .nil ?_; clear S; intro ac w β S
  refine RG.done rfl (nx_then (wp_seq (RG.start ?_)))
  refine S.q 1 [1, 2, 4, 5] 2 ⟨[(1, .v (I page)), (2, .p 0 0), (4, .p 1 0), (5, .v (GT.val k pk))], [GT.cells k pk, Zc TKept]⟩ .nil ?_; clear S; intro ac w β S
  refine RG.op rfl (S.call1 (r := k) (d := 6) (c_spec_l07Copy w k pk (S.rd (S.arg hk))) (by kernel_rfl) rfl ?_)
  clear S; intro ac w N q1 F2 S up o3 d4
  clear up d4
  obtain ⟨F5, F8, o6, o9, s7, s10, d11⟩ := sp_Kept o3
  refine S.q 1 [1, 2, 4] 2 ⟨[(1, .v (I page)), (2, .p 0 0), (4, .p 1 0)], [[slv (k.known).length q1.known.1, slv (k.slots).length q1.slots.1], Zc TKept]⟩ .nil ?_; clear S; intro ac w β S
  refine RG.done rfl (nx_then (wp_seq (wp_seq (RG.start ?_))))
  refine S.q 3 [1, 2, 4, 9] 2 ⟨[(1, .v (I page)), (2, .p 0 0), (4, .p 1 0), (9, .v (B ((decide ((0 ≤ page ∧ page < k.known.length) ∧ page < k.slots.length)))))], [[slv (k.known).length q1.known.1, slv (k.slots).length q1.slots.1], Zc TKept]⟩ (.cons (Q_call fun w hw => c_spec_l07Has w k q1 (rd_of (show GT.rd KK _ _ k q1 from ⟨o6.rn, o9.rn⟩) hw) page) .nil) ?_; clear S; intro ac w β S
  refine RG.done rfl (nx_then ?_)
  refine S.c ((decide ((0 ≤ page ∧ page < k.known.length) ∧ page < k.slots.length))) (fun h12 => ?_) (fun h12 => ?_)
  · have g13 := of_decide_eq_true h12
    refine wp_seq (RG.start ?_)
    refine S.q 4 [1, 2, 4, 13] 2 ⟨[(1, .v (I page)), (2, .p 0 0), (4, .p 1 0), (13, .v (pt q1.known.1.b (q1.known.1.off + ((page).toNat) * 1)))], [[slv (k.known).length q1.known.1, slv (k.slots).length q1.slots.1], Zc TKept]⟩ (.cons (Q_idx o6.rn (l := (k.known).length) (k := (page).toNat) (i := page) rfl (by omega) (by omega) Try.underlying28 (by kernel_rfl)) .nil) ?_; clear S; intro ac w β S
    refine RG.op rfl (S.setEl (α := Bool) o6 (t := 4) (v := B false) (k := (page).toNat) (j := 0) (off := q1.known.1.off + ((page).toNat) * 1) (y := false) (q := ()) (Fy := NoB) (by kernel_rfl) (by kernel_rfl) (by omega) (by kernel_rfl) (by kernel_rfl) (Nat.le_of_ble_eq_true (by kernel_rfl)) (by kernel_rfl) (fun _ _ _ => ⟨NoB, trivial, fun _ h => False.elim h⟩) (fun b _ h => False.elim h) (fun b h => False.elim h) (fun b h => False.elim h) ?_)
    clear S; intro w N F15 q16 S up o14 d17 s18 n19
    have d20 : Disj F8 F15 := d17 _ (Disj.symm d11) (fun b _ h => False.elim h) o9.sub
    replace o9 := o9.upF (Disj.symm d11) up
    clear up d17 o6 n19
    have l21 : (k.known.set ((page).toNat) false).length = (k.known).length := List.length_set
    replace S := S.p [1, 2, 4, 13] 2 ⟨[(1, .v (I page)), (2, .p 0 0), (4, .p 1 0), (13, .v (pt q1.known.1.b (q1.known.1.off + ((page).toNat) * 1)))], [[slv (k.known).length q1.known.1, slv (k.slots).length q1.slots.1], Zc TKept]⟩
    replace S := S.cast (σ' := ⟨[(1, .v (I page)), (2, .p 0 0), (4, .p 1 0), (13, .v (pt q1.known.1.b (q1.known.1.off + ((page).toNat) * 1)))], [[slv ((k.known.set ((page).toNat) false)).length q1.known.1, slv (k.slots).length q1.slots.1], Zc TKept]⟩) (by rw [show ((k.known.set ((page).toNat) false)).length = (k.known).length by omega])
    replace S := S.p [1, 2, 4] 2 ⟨[(1, .v (I page)), (2, .p 0 0), (4, .p 1 0)], [[slv ((k.known.set ((page).toNat) false)).length q1.known.1, slv (k.slots).length q1.slots.1], Zc TKept]⟩
    refine RG.done rfl (nx_then ?_)
    refine S.draw0 (f := 6) 5 rfl rfl ?_
    clear S; intro w S
    refine S.hoist (i := 0) (path := [0]) (keep := [1, 2, 4, 14]) (m := 2) (σ' := ⟨[(1, .v (I page)), (2, .p 0 0), (4, .p 1 0), (14, .p 0 1)], [[slv ((k.known.set ((page).toNat) false)).length q1.known.1, slv (k.slots).length q1.slots.1], Zc TKept]⟩) (by kernel_rfl) (by kernel_rfl) .nil (by kernel_rfl) ?_
    clear S; intro ac S
    refine S.hoist (i := 1) (path := [1]) (keep := [1, 2, 4, 15]) (m := 2) (σ' := ⟨[(1, .v (I page)), (2, .p 0 0), (4, .p 1 0), (15, .v (slv (k.slots).length q1.slots.1))], [[slv ((k.known.set ((page).toNat) false)).length q1.known.1, slv (k.slots).length q1.slots.1], Zc TKept]⟩) (by kernel_rfl) (by kernel_rfl) .nil (by kernel_rfl) ?_
    clear S; intro ac S
    refine S.hoist (i := 2) (path := [2]) (keep := [2, 4, 15, 16]) (m := 2) (σ' := ⟨[(2, .p 0 0), (4, .p 1 0), (15, .v (slv (k.slots).length q1.slots.1)), (16, .v (I page))], [[slv ((k.known.set ((page).toNat) false)).length q1.known.1, slv (k.slots).length q1.slots.1], Zc TKept]⟩) (by kernel_rfl) (by kernel_rfl) .nil (by kernel_rfl) ?_
    clear S; intro ac S
    refine WD.one (i := 3) (by kernel_rfl) ?_
    refine S.stepq (i := 3) (keep := [2, 4, 15, 16, 17]) (m := 2) (σ' := ⟨[(2, .p 0 0), (4, .p 1 0), (15, .v (slv (k.slots).length q1.slots.1)), (16, .v (I page)), (17, .v (GT.val ((⟨-1, 0⟩ : TSlot)) ()))], [[slv ((k.known.set ((page).toNat) false)).length q1.known.1, slv (k.slots).length q1.slots.1], Zc TKept]⟩) (.cons (Q_call fun w hw => c_spec_NoSlot w ) .nil) (by kernel_rfl) ?_
    clear S; intro ac w β S hβ
    refine WD.stay S hβ (fun _ _ h => h) ?_
    clear hβ
    refine S.hoist (i := 4) (path := [4]) (keep := [2, 4, 17, 18]) (m := 2) (σ' := ⟨[(2, .p 0 0), (4, .p 1 0), (17, .v (GT.val ((⟨-1, 0⟩ : TSlot)) ())), (18, .v (pt q1.slots.1.b (q1.slots.1.off + ((page).toNat) * 2)))], [[slv ((k.known.set ((page).toNat) false)).length q1.known.1, slv (k.slots).length q1.slots.1], Zc TKept]⟩) (by kernel_rfl) (by kernel_rfl) (.cons (Q_idx o9.rn (l := (k.slots).length) (k := (page).toNat) (i := page) rfl (by omega) (by omega) Try.underlying42 (by kernel_rfl)) .nil) (by kernel_rfl) ?_
    clear S; intro ac S
    refine WD.one (i := 5) (by kernel_rfl) ?_
    have e22 : RSlot (el k.slots ((page).toNat)) := (LRd.el o9.rn ((page).toNat) (by omega))
    refine id (S.setEl (α := TSlot) o9 (t := 120) (v := GT.val ((⟨-1, 0⟩ : TSlot)) ()) (k := (page).toNat) (j := 0) (off := q1.slots.1.off + ((page).toNat) * 2) (y := ((⟨-1, 0⟩ : TSlot))) (q := ()) (Fy := NoB) (by kernel_rfl) (by kernel_rfl) (by omega) (by kernel_rfl) (by kernel_rfl) (Nat.le_of_ble_eq_true (by kernel_rfl)) (by kernel_rfl) (fun _ _ _ => ⟨NoB, ((show RSlot ⟨-1, 0⟩ from ⟨⟨by decide, by decide⟩, ⟨by decide, by decide⟩⟩)), fun _ h => False.elim h⟩) (fun b _ h => False.elim h) (fun b h => False.elim h) (fun b h => False.elim h) ?_)
    clear S; intro w N F24 q25 S up o23 d26 s27 n28
    refine WD.last (by kernel_rfl) ?_
    have d29 : Disj F15 F24 := d26 _ (Disj.symm d20) (fun b _ h => False.elim h) o14.sub
    replace o14 := o14.upF (Disj.symm d20) up
    clear up d26 o9 n28
    have l30 : (k.slots.set ((page).toNat) ((⟨-1, 0⟩ : TSlot))).length = (k.slots).length := List.length_set
    replace S := S.p [2, 4, 17, 18] 2 ⟨[(2, .p 0 0), (4, .p 1 0), (17, .v (GT.val ((⟨-1, 0⟩ : TSlot)) ())), (18, .v (pt q1.slots.1.b (q1.slots.1.off + ((page).toNat) * 2)))], [[slv ((k.known.set ((page).toNat) false)).length q1.known.1, slv (k.slots).length q1.slots.1], Zc TKept]⟩
    replace S := S.cast (σ' := ⟨[(2, .p 0 0), (4, .p 1 0), (17, .v (GT.val ((⟨-1, 0⟩ : TSlot)) ())), (18, .v (pt q1.slots.1.b (q1.slots.1.off + ((page).toNat) * 2)))], [[slv ((k.known.set ((page).toNat) false)).length q1.known.1, slv ((k.slots.set ((page).toNat) ((⟨-1, 0⟩ : TSlot)))).length q1.slots.1], Zc TKept]⟩) (by rw [show ((k.slots.set ((page).toNat) ((⟨-1, 0⟩ : TSlot)))).length = (k.slots).length by omega])
    refine WD.done (by kernel_rfl) ?_ _
    replace S := S.p [2, 4] 2 ⟨[(2, .p 0 0), (4, .p 1 0)], [[slv ((k.known.set ((page).toNat) false)).length q1.known.1, slv ((k.slots.set ((page).toNat) ((⟨-1, 0⟩ : TSlot)))).length q1.slots.1], Zc TKept]⟩
    refine id (nx_then (wp_seq (RG.start ?_)))
    refine S.q 2 [4] 2 ⟨[(4, .p 1 0)], [[slv ((k.known.set ((page).toNat) false)).length q1.known.1, slv ((k.slots.set ((page).toNat) ((⟨-1, 0⟩ : TSlot)))).length q1.slots.1], [slv ((k.known.set ((page).toNat) false)).length q1.known.1, slv ((k.slots.set ((page).toNat) ((⟨-1, 0⟩ : TSlot)))).length q1.slots.1]]⟩ .nil ?_; clear S; intro ac w β S
    refine RG.done rfl (nx_then (wp_ret ?_))
    refine S.r [GT.val (⟨(k.known.set ((page).toNat) false), (k.slots.set ((page).toNat) ((⟨-1, 0⟩ : TSlot)))⟩ : TKept) (⟨(q1.known.1, q16), (q1.slots.1, q25)⟩ : PKept)] ?_
    have o31 := ow_Kept (x := (⟨(k.known.set ((page).toNat) false), (k.slots.set ((page).toNat) ((⟨-1, 0⟩ : TSlot)))⟩ : TKept)) (p := (⟨(q1.known.1, q16), (q1.slots.1, q25)⟩ : PKept)) o14 o23 d29 
    exact ret1_of S (show f_forget k page = (⟨(k.known.set ((page).toNat) false), (k.slots.set ((page).toNat) ((⟨-1, 0⟩ : TSlot)))⟩ : TKept) by clear S; (unfold f_forget; (repeat' split) <;> first | rfl | (exfalso; omega) | (exfalso; simp_all; done))) rfl o31
  · have g32 := of_decide_eq_false h12
    refine wp_skip (nx_then (wp_seq (RG.start ?_)))
    refine S.q 2 [4] 2 ⟨[(4, .p 1 0)], [[slv (k.known).length q1.known.1, slv (k.slots).length q1.slots.1], [slv (k.known).length q1.known.1, slv (k.slots).length q1.slots.1]]⟩ .nil ?_; clear S; intro ac w β S
    refine RG.done rfl (nx_then (wp_ret ?_))
    refine S.r [GT.val k q1] ?_
    have o33 := ow_Kept (x := k) (p := q1) o6 o9 d11 
    exact ret1_of S (show f_forget k page = k by clear S; (unfold f_forget; (repeat' split) <;> first | rfl | (exfalso; omega) | (exfalso; simp_all; done))) rfl o33

set_option maxRecDepth 100000 in
theorem c_spec_ForgetAll (w0 : World) (k : TKept) (pk : PKept) (hk : GT.rd KK (Lt w0.heap.size) w0 k pk) : Calls Try.prog 77 [GT.val k pk].toArray w0 (Ret1 NoB w0 (f_forgetAll k : TKept)) := by
  refine Calls.walk (args := [GT.val k pk]) NoB Try.func77 rfl rfl ?_
  intro ac β S
  have hlek_known : k.known.length ≤ 4194304 := LRd.le (RKept.known (d := k) hk)
  have hlek_slots : k.slots.length ≤ 4194304 := LRd.le (RKept.slots (d := k) hk)
  refine wp_seq (RG.start ?_)
  refine S.q 2 [1, 2] 2 ⟨[(1, .p 0 0), (2, .p 1 0)], [GT.cells k pk, Zc TKept]⟩ .nil ?_; clear S; intro ac w β S
  refine RG.done rfl (nx_then (wp_seq (RG.start ?_)))
  refine S.q 1 [1, 2, 4] 2 ⟨[(1, .p 0 0), (2, .p 1 0), (4, .v (GT.val k pk))], [GT.cells k pk, Zc TKept]⟩ .nil ?_; clear S; intro ac w β S
  refine RG.op rfl (S.call1 (r := k) (d := 5) (c_spec_l07Copy w k pk (S.rd (S.arg hk))) (by kernel_rfl) rfl ?_)
  clear S; intro ac w N q1 F2 S up o3 d4
  clear up d4
  obtain ⟨F5, F8, o6, o9, s7, s10, d11⟩ := sp_Kept o3
  refine S.q 1 [1, 2] 2 ⟨[(1, .p 0 0), (2, .p 1 0)], [[slv (k.known).length q1.known.1, slv (k.slots).length q1.slots.1], Zc TKept]⟩ .nil ?_; clear S; intro ac w β S
  refine RG.done rfl (nx_then (wp_seq (wp_seq (RG.start ?_))))
  refine S.q 1 [1, 2, 3] 2 ⟨[(1, .p 0 0), (2, .p 1 0), (3, .v (I 0))], [[slv (k.known).length q1.known.1, slv (k.slots).length q1.slots.1], Zc TKept]⟩ .nil ?_; clear S; intro ac w β S
  refine RG.done rfl (nx_then (wp_block ?_))
  replace S := S.p [1, 2, 3] 2 ⟨[(1, .p 0 0), (2, .p 1 0), (3, .v (I 0))], [[slv (k.known).length q1.known.1, slv (k.slots).length q1.slots.1], Zc TKept]⟩
  refine wp_loop_down (fun mm ac w => ∃ (i : Nat) (kn : List Bool) (sl : List TSlot) (q12 : GT.Ptr (List Bool)) (F13 : Bl) (q15 : GT.Ptr (List TSlot)) (F16 : Bl) (u : World) (N : Bl) (β : Nat → Nat), mm = k.known.length - i ∧ (i ≤ k.known.length) ∧ ((⟨kn, sl⟩ : TKept) = f_forgetUpto k i) ∧ St Try.prog Try.f77.ntmps w0 NoB u N β ⟨[(1, .p 0 0), (2, .p 1 0), (3, .v (I (i : Int)))], [[slv (kn).length q12.1, slv (sl).length q15.1], Zc TKept]⟩ ac w ∧ Ow w0 NoB u N F13 kn q12 ∧ Ow w0 NoB u N F16 sl q15 ∧ Disj F13 F16) _ ⟨0, k.known, k.slots, q1.known, F5, q1.slots, F8, _, _, _, rfl, (by first | omega | (simp; done) | (simp; omega)), (by rfl), S.cast (by kernel_rfl), o6, o9, d11⟩ ?_
  clear S o6 o9
  rintro mm ac w ⟨i, kn, sl, q12, F13, q15, F16, u, N, β, rfl, hi, hf, S, o14, o17, d18⟩
  have hfl := forgetUpto_len k i; rw [← hf] at hfl; simp only at hfl
  refine wp_seq (wp_seq (RG.start ?_))
  refine S.q 5 [1, 2, 3, 10] 2 ⟨[(1, .p 0 0), (2, .p 1 0), (3, .v (I (i : Int))), (10, .v (B (decide ((i : Int) < ((kn).length : Int)))))], [[slv (kn).length q12.1, slv (sl).length q15.1], Zc TKept]⟩ .nil ?_; clear S; intro ac w β S
  refine RG.done rfl (nx_then ?_)
  refine S.c (decide ((i : Int) < ((kn).length : Int))) (fun h19 => ?_) (fun h19 => ?_)
  · have g20 : (i : Int) < ((kn).length : Int) := of_decide_eq_true h19
    refine wp_skip (nx_then (wp_seq (wp_block (RG.start ?_))))
    refine S.q 2 [1, 2, 3, 13, 14] 2 ⟨[(1, .p 0 0), (2, .p 1 0), (3, .v (I (i : Int))), (13, .v (GT.val (⟨kn, sl⟩ : TKept) (⟨q12, q15⟩ : PKept))), (14, .v (I (i : Int)))], [[slv (kn).length q12.1, slv (sl).length q15.1], Zc TKept]⟩ .nil ?_; clear S; intro ac w β S
    refine RG.op rfl (S.call1 (r := f_forget (⟨kn, sl⟩ : TKept) (i : Int)) (d := 15) (c_spec_Forget w (⟨kn, sl⟩ : TKept) (⟨q12, q15⟩ : PKept) (S.rd (show GT.rd KK _ _ (⟨kn, sl⟩ : TKept) (⟨q12, q15⟩ : PKept) from ⟨o14.rn, o17.rn⟩)) (i : Int)) (by kernel_rfl) rfl ?_)
    clear S; intro ac w N q21 F22 S up o23 d24
    have d25 : Disj F13 F22 := fun b x y => d24 b (o14.sub b x) y
    have d26 : Disj F16 F22 := fun b x y => d24 b (o17.sub b x) y
    replace o14 := o14.up up
    replace o17 := o17.up up
    clear up d24
    obtain ⟨F27, F30, o28, o31, s29, s32, d33⟩ := sp_Kept o23
    refine S.q 1 [1, 2, 3] 2 ⟨[(1, .p 0 0), (2, .p 1 0), (3, .v (I (i : Int)))], [[slv ((f_forget (⟨kn, sl⟩ : TKept) (i : Int)).known).length q21.known.1, slv ((f_forget (⟨kn, sl⟩ : TKept) (i : Int)).slots).length q21.slots.1], Zc TKept]⟩ .nil ?_; clear S; intro ac w β S
    refine RG.done rfl (nx_block (nx_then (RG.start ?_)))
    refine S.q 3 [1, 2, 3] 2 ⟨[(1, .p 0 0), (2, .p 1 0), (3, .v (I ((i : Int) + 1)))], [[slv ((f_forget (⟨kn, sl⟩ : TKept) (i : Int)).known).length q21.known.1, slv ((f_forget (⟨kn, sl⟩ : TKept) (i : Int)).slots).length q21.slots.1], Zc TKept]⟩ (.cons (Q_add (x := (i : Int)) (y := 1) ⟨by omega, by omega⟩) .nil) ?_; clear S; intro ac w β S
    refine RG.done rfl (nx_then ?_)
    replace S := S.p [1, 2, 3] 2 ⟨[(1, .p 0 0), (2, .p 1 0), (3, .v (I ((i : Int) + 1)))], [[slv ((f_forget (⟨kn, sl⟩ : TKept) (i : Int)).known).length q21.known.1, slv ((f_forget (⟨kn, sl⟩ : TKept) (i : Int)).slots).length q21.slots.1], Zc TKept]⟩
    refine ⟨k.known.length - (i + 1), by omega, i + 1, (f_forget (⟨kn, sl⟩ : TKept) (i : Int)).known, (f_forget (⟨kn, sl⟩ : TKept) (i : Int)).slots, q21.known, F27, q21.slots, F30, _, _, _, rfl, ?_, ?_, S.cast (by kernel_rfl), o28, o31, d33⟩
    · clear S; first | omega | (simp [*]; done) | (simp [*]; omega)
    · clear S; (rw [forgetUpto_step, ← hf])
  · have g34 : ¬ ((i : Int) < ((kn).length : Int)) := of_decide_eq_false h19
    refine wp_exit (ex_then (ex_then (ex_hit (nx_then (wp_seq (RG.start ?_))))))
    refine S.q 2 [2] 2 ⟨[(2, .p 1 0)], [[slv (kn).length q12.1, slv (sl).length q15.1], [slv (kn).length q12.1, slv (sl).length q15.1]]⟩ .nil ?_; clear S; intro ac w β S
    refine RG.done rfl (nx_then (wp_ret ?_))
    refine S.r [GT.val (⟨kn, sl⟩ : TKept) (⟨q12, q15⟩ : PKept)] ?_
    have o35 := ow_Kept (x := (⟨kn, sl⟩ : TKept)) (p := (⟨q12, q15⟩ : PKept)) o14 o17 d18 
    exact ret1_of S (show f_forgetAll k = (⟨kn, sl⟩ : TKept) by clear S; (unfold f_forgetAll; rw [show k.known.length = i by omega, ← hf])) rfl o35

set_option maxRecDepth 100000 in
theorem c_spec_Cold (w0 : World) (h : THost) (ph : PHost) (hh : GT.rd KK (Lt w0.heap.size) w0 h ph) : Calls Try.prog 28 [GT.val h ph].toArray w0 (Ret1 NoB w0 (f_cold h : THost)) := by
  refine Calls.walk (args := [GT.val h ph]) NoB Try.func28 rfl rfl ?_
  intro ac β S
  have hleh_mem : h.mem.length ≤ 4194304 := LRd.le (RHost.mem (d := h) hh)
  have hleh_mons : h.mons.length ≤ 4194304 := LRd.le (RHost.mons (d := h) hh)
  have hleh_buf : h.buf.length ≤ 4194304 := LRd.le (RHost.buf (d := h) hh)
  have hleh_iobuf : h.iobuf.length ≤ 4194304 := LRd.le (RHost.iobuf (d := h) hh)
  refine wp_seq (RG.start ?_)
  refine S.q 2 [1, 2] 2 ⟨[(1, .p 0 0), (2, .p 1 0)], [GT.cells h ph, Zc THost]⟩ .nil ?_; clear S; intro ac w β S
  refine RG.done rfl (nx_then (wp_seq (RG.start ?_)))
  refine S.q 1 [1, 2, 5] 2 ⟨[(1, .p 0 0), (2, .p 1 0), (5, .v (GT.val h ph))], [GT.cells h ph, Zc THost]⟩ .nil ?_; clear S; intro ac w β S
  refine RG.op rfl (S.call1 (r := h) (d := 6) (c_spec_l21Copy w h ph (S.rd (S.arg hh))) (by kernel_rfl) rfl ?_)
  clear S; intro ac w N q1 F2 S up o3 d4
  clear up d4
  obtain ⟨F5, F8, F11, F14, o6, o9, o12, o15, s7, s10, s13, s16, d17, d18, d19, d20, d21, d22⟩ := sp_Host o3
  refine S.q 1 [1, 2] 2 ⟨[(1, .p 0 0), (2, .p 1 0)], [[slv (h.mem).length q1.mem.1, slv (h.mons).length q1.mons.1, slv (h.buf).length q1.buf.1, slv (h.iobuf).length q1.iobuf.1], Zc THost]⟩ .nil ?_; clear S; intro ac w β S
  refine RG.done rfl (nx_then (wp_seq (wp_seq (RG.start ?_))))
  refine S.q 1 [1, 2, 3] 2 ⟨[(1, .p 0 0), (2, .p 1 0), (3, .v (I 0))], [[slv (h.mem).length q1.mem.1, slv (h.mons).length q1.mons.1, slv (h.buf).length q1.buf.1, slv (h.iobuf).length q1.iobuf.1], Zc THost]⟩ .nil ?_; clear S; intro ac w β S
  refine RG.done rfl (nx_then (wp_block ?_))
  replace S := S.p [1, 2, 3] 2 ⟨[(1, .p 0 0), (2, .p 1 0), (3, .v (I 0))], [[slv (h.mem).length q1.mem.1, slv (h.mons).length q1.mons.1, slv (h.buf).length q1.buf.1, slv (h.iobuf).length q1.iobuf.1], Zc THost]⟩
  refine wp_loop_down (fun mm ac w => ∃ (i : Nat) (ms : List TMon) (q23 : GT.Ptr (List TMon)) (F24 : Bl) (u : World) (N : Bl) (β : Nat → Nat), mm = h.mons.length - i ∧ (i ≤ h.mons.length) ∧ (ms.length = h.mons.length) ∧ (ms.take i = (h.mons.take i).map f_coldMon) ∧ (ms.drop i = h.mons.drop i) ∧ St Try.prog Try.f28.ntmps w0 NoB u N β ⟨[(1, .p 0 0), (2, .p 1 0), (3, .v (I (i : Int)))], [[slv (h.mem).length q1.mem.1, slv (ms).length q23.1, slv (h.buf).length q1.buf.1, slv (h.iobuf).length q1.iobuf.1], Zc THost]⟩ ac w ∧ Ow w0 NoB u N F24 ms q23 ∧ Ow w0 NoB u N F5 h.mem q1.mem ∧ Ow w0 NoB u N F11 h.buf q1.buf ∧ Ow w0 NoB u N F14 h.iobuf q1.iobuf ∧ Disj F24 F5 ∧ Disj F24 F11 ∧ Disj F24 F14) _ ⟨0, h.mons, q1.mons, F8, _, _, _, rfl, (by first | omega | (simp; done) | (simp; omega)), (by rfl), (by rfl), (by rfl), S.cast (by kernel_rfl), o9, o6, o12, o15, (Disj.symm d17), d20, d21⟩ ?_
  clear S o12 o15 o6 o9
  rintro mm ac w ⟨i, ms, q23, F24, u, N, β, rfl, hi, hl, hT, hD, S, o25, o6, o12, o15, d26, d27, d28⟩
  have hel := el_of_drop hD
  refine wp_seq (wp_seq (RG.start ?_))
  refine S.q 5 [1, 2, 3, 11] 2 ⟨[(1, .p 0 0), (2, .p 1 0), (3, .v (I (i : Int))), (11, .v (B (decide ((i : Int) < ((ms).length : Int)))))], [[slv (h.mem).length q1.mem.1, slv (ms).length q23.1, slv (h.buf).length q1.buf.1, slv (h.iobuf).length q1.iobuf.1], Zc THost]⟩ .nil ?_; clear S; intro ac w β S
  refine RG.done rfl (nx_then ?_)
  refine S.c (decide ((i : Int) < ((ms).length : Int))) (fun h29 => ?_) (fun h29 => ?_)
  · have g30 : (i : Int) < ((ms).length : Int) := of_decide_eq_true h29
    refine wp_skip (nx_then (wp_seq (wp_block (wp_seq (RG.start ?_)))))
    refine S.q 1 [1, 2, 3, 4] 2 ⟨[(1, .p 0 0), (2, .p 1 0), (3, .v (I (i : Int))), (4, .v (I 0))], [[slv (h.mem).length q1.mem.1, slv (ms).length q23.1, slv (h.buf).length q1.buf.1, slv (h.iobuf).length q1.iobuf.1], Zc THost]⟩ .nil ?_; clear S; intro ac w β S
    refine RG.done rfl (nx_then (wp_block ?_))
    replace S := S.p [1, 2, 3, 4] 2 ⟨[(1, .p 0 0), (2, .p 1 0), (3, .v (I (i : Int))), (4, .v (I 0))], [[slv (h.mem).length q1.mem.1, slv (ms).length q23.1, slv (h.buf).length q1.buf.1, slv (h.iobuf).length q1.iobuf.1], Zc THost]⟩
    refine wp_loop_down (fun mm ac w => ∃ (g : Nat) (ms2 : List TMon) (tb : List TKept) (q31 : GT.Ptr (List TMon)) (F32 : Bl) (u : World) (N : Bl) (β : Nat → Nat), mm = (el h.mons i).tables.length - g ∧ (g ≤ (el h.mons i).tables.length) ∧ (ms2 = ms.set i { el ms i with tables := tb }) ∧ (tb.length = (el h.mons i).tables.length) ∧ (tb.take g = ((el h.mons i).tables.take g).map f_forgetAll) ∧ (tb.drop g = (el h.mons i).tables.drop g) ∧ St Try.prog Try.f28.ntmps w0 NoB u N β ⟨[(1, .p 0 0), (2, .p 1 0), (3, .v (I (i : Int))), (4, .v (I (g : Int)))], [[slv (h.mem).length q1.mem.1, slv (ms2).length q31.1, slv (h.buf).length q1.buf.1, slv (h.iobuf).length q1.iobuf.1], Zc THost]⟩ ac w ∧ Ow w0 NoB u N F32 ms2 q31 ∧ Ow w0 NoB u N F5 h.mem q1.mem ∧ Ow w0 NoB u N F11 h.buf q1.buf ∧ Ow w0 NoB u N F14 h.iobuf q1.iobuf ∧ Disj F32 F5 ∧ Disj F32 F11 ∧ Disj F32 F14) _ ⟨0, ms, (el ms i).tables, q23, F24, _, _, _, rfl, (by omega), (by exact (set_self_el (by omega)).symm), (by rw [hel]), (by rfl), (by rw [hel]), S.cast (by kernel_rfl), o25, o6, o12, o15, d26, d27, d28⟩ ?_
    clear S o12 o15 o25 o6
    rintro mm ac w ⟨g, ms2, tb, q31, F32, u, N, β, rfl, hg, hm2, htl, htT, htD, S, o33, o6, o12, o15, d34, d35, d36⟩
    have hl2 : (el h.mons i).tables.length ≤ 4194304 := LRd.le (RMon.tables (d := el h.mons i) (LRd.el (RHost.mons (d := h) hh) i (by omega)))
    have hem : el ms2 i = { el ms i with tables := tb } := by rw [hm2]; exact el_set_self (by omega)
    have hml : ms2.length = h.mons.length := by rw [hm2, List.length_set]; exact hl
    have hen : (el ms2 i).tables.length = (el h.mons i).tables.length := by rw [hem]; exact htl
    have hen1 : (el ms i).tables.length = (el h.mons i).tables.length := by rw [hel]
    refine wp_seq (wp_seq (RG.start ?_))
    have b37 : ((el ms2 i).tables).length ≤ 4194304 := LRd.le (RMon.tables (d := (el ms2 i)) (LRd.el o33.rn i (by omega)))
    refine S.q 9 [1, 2, 3, 4, 22] 2 ⟨[(1, .p 0 0), (2, .p 1 0), (3, .v (I (i : Int))), (4, .v (I (g : Int))), (22, .v (B (decide ((g : Int) < (((el ms2 i).tables).length : Int)))))], [[slv (h.mem).length q1.mem.1, slv (ms2).length q31.1, slv (h.buf).length q1.buf.1, slv (h.iobuf).length q1.iobuf.1], Zc THost]⟩ (.cons (Q_idx o33.rn (l := (ms2).length) (k := i) (i := (i : Int)) rfl rfl (by omega) Try.underlying36 (by kernel_rfl)) (.cons (Q_cell o33.rn (t := 44) (k := i) (j := 7) (v := slv ((el ms2 i).tables).length ((q31.2 i).tables).1) (by omega) (by kernel_rfl) (by kernel_rfl)) .nil)) ?_; clear S; intro ac w β S
    refine RG.done rfl (nx_then ?_)
    refine S.c (decide ((g : Int) < (((el ms2 i).tables).length : Int))) (fun h38 => ?_) (fun h38 => ?_)
    · have g39 : (g : Int) < (((el ms2 i).tables).length : Int) := of_decide_eq_true h38
      refine wp_skip (nx_then (wp_seq (wp_block ?_)))
      refine S.draw0 (f := 19) 18 rfl rfl ?_
      clear S; intro w S
      refine S.hoist (i := 0) (path := [0]) (keep := [1, 2, 3, 4, 25]) (m := 2) (σ' := ⟨[(1, .p 0 0), (2, .p 1 0), (3, .v (I (i : Int))), (4, .v (I (g : Int))), (25, .p 0 1)], [[slv (h.mem).length q1.mem.1, slv (ms2).length q31.1, slv (h.buf).length q1.buf.1, slv (h.iobuf).length q1.iobuf.1], Zc THost]⟩) (by kernel_rfl) (by kernel_rfl) .nil (by kernel_rfl) ?_
      clear S; intro ac S
      refine S.hoist (i := 1) (path := [1]) (keep := [1, 2, 3, 4, 26]) (m := 2) (σ' := ⟨[(1, .p 0 0), (2, .p 1 0), (3, .v (I (i : Int))), (4, .v (I (g : Int))), (26, .v (slv (ms2).length q31.1))], [[slv (h.mem).length q1.mem.1, slv (ms2).length q31.1, slv (h.buf).length q1.buf.1, slv (h.iobuf).length q1.iobuf.1], Zc THost]⟩) (by kernel_rfl) (by kernel_rfl) .nil (by kernel_rfl) ?_
      clear S; intro ac S
      refine S.hoist (i := 2) (path := [2]) (keep := [1, 2, 3, 4, 26, 27]) (m := 2) (σ' := ⟨[(1, .p 0 0), (2, .p 1 0), (3, .v (I (i : Int))), (4, .v (I (g : Int))), (26, .v (slv (ms2).length q31.1)), (27, .v (I (i : Int)))], [[slv (h.mem).length q1.mem.1, slv (ms2).length q31.1, slv (h.buf).length q1.buf.1, slv (h.iobuf).length q1.iobuf.1], Zc THost]⟩) (by kernel_rfl) (by kernel_rfl) .nil (by kernel_rfl) ?_
      clear S; intro ac S
      refine S.hoist (i := 3) (path := [3]) (keep := [1, 2, 3, 4, 28]) (m := 2) (σ' := ⟨[(1, .p 0 0), (2, .p 1 0), (3, .v (I (i : Int))), (4, .v (I (g : Int))), (28, .v (pt q31.1.b (q31.1.off + i * 9)))], [[slv (h.mem).length q1.mem.1, slv (ms2).length q31.1, slv (h.buf).length q1.buf.1, slv (h.iobuf).length q1.iobuf.1], Zc THost]⟩) (by kernel_rfl) (by kernel_rfl) (.cons (Q_idx o33.rn (l := (ms2).length) (k := i) (i := (i : Int)) rfl rfl (by omega) Try.underlying36 (by kernel_rfl)) .nil) (by kernel_rfl) ?_
      clear S; intro ac S
      refine S.hoist (i := 4) (path := [4]) (keep := [1, 2, 3, 4, 29]) (m := 2) (σ' := ⟨[(1, .p 0 0), (2, .p 1 0), (3, .v (I (i : Int))), (4, .v (I (g : Int))), (29, .v (pt q31.1.b (q31.1.off + i * 9 + 7)))], [[slv (h.mem).length q1.mem.1, slv (ms2).length q31.1, slv (h.buf).length q1.buf.1, slv (h.iobuf).length q1.iobuf.1], Zc THost]⟩) (by kernel_rfl) (by kernel_rfl) .nil (by kernel_rfl) ?_
      clear S; intro ac S
      refine S.hoist (i := 5) (path := [5]) (keep := [1, 2, 3, 4, 30]) (m := 2) (σ' := ⟨[(1, .p 0 0), (2, .p 1 0), (3, .v (I (i : Int))), (4, .v (I (g : Int))), (30, .v (slv ((el ms2 i).tables).length ((q31.2 i).tables).1))], [[slv (h.mem).length q1.mem.1, slv (ms2).length q31.1, slv (h.buf).length q1.buf.1, slv (h.iobuf).length q1.iobuf.1], Zc THost]⟩) (by kernel_rfl) (by kernel_rfl) (.cons (Q_cell o33.rn (t := 44) (k := i) (j := 7) (v := slv ((el ms2 i).tables).length ((q31.2 i).tables).1) (by omega) (by kernel_rfl) (by kernel_rfl)) .nil) (by kernel_rfl) ?_
      clear S; intro ac S
      refine S.hoist (i := 6) (path := [6]) (keep := [1, 2, 3, 4, 30, 31]) (m := 2) (σ' := ⟨[(1, .p 0 0), (2, .p 1 0), (3, .v (I (i : Int))), (4, .v (I (g : Int))), (30, .v (slv ((el ms2 i).tables).length ((q31.2 i).tables).1)), (31, .v (I (g : Int)))], [[slv (h.mem).length q1.mem.1, slv (ms2).length q31.1, slv (h.buf).length q1.buf.1, slv (h.iobuf).length q1.iobuf.1], Zc THost]⟩) (by kernel_rfl) (by kernel_rfl) .nil (by kernel_rfl) ?_
      clear S; intro ac S
      refine S.hoist (i := 7) (path := [7]) (keep := [1, 2, 3, 4, 30, 31, 32]) (m := 2) (σ' := ⟨[(1, .p 0 0), (2, .p 1 0), (3, .v (I (i : Int))), (4, .v (I (g : Int))), (30, .v (slv ((el ms2 i).tables).length ((q31.2 i).tables).1)), (31, .v (I (g : Int))), (32, .p 0 1)], [[slv (h.mem).length q1.mem.1, slv (ms2).length q31.1, slv (h.buf).length q1.buf.1, slv (h.iobuf).length q1.iobuf.1], Zc THost]⟩) (by kernel_rfl) (by kernel_rfl) .nil (by kernel_rfl) ?_
      clear S; intro ac S
      refine S.hoist (i := 8) (path := [8]) (keep := [1, 2, 3, 4, 30, 31, 33]) (m := 2) (σ' := ⟨[(1, .p 0 0), (2, .p 1 0), (3, .v (I (i : Int))), (4, .v (I (g : Int))), (30, .v (slv ((el ms2 i).tables).length ((q31.2 i).tables).1)), (31, .v (I (g : Int))), (33, .v (slv (ms2).length q31.1))], [[slv (h.mem).length q1.mem.1, slv (ms2).length q31.1, slv (h.buf).length q1.buf.1, slv (h.iobuf).length q1.iobuf.1], Zc THost]⟩) (by kernel_rfl) (by kernel_rfl) .nil (by kernel_rfl) ?_
      clear S; intro ac S
      refine S.hoist (i := 9) (path := [9]) (keep := [1, 2, 3, 4, 30, 31, 33, 34]) (m := 2) (σ' := ⟨[(1, .p 0 0), (2, .p 1 0), (3, .v (I (i : Int))), (4, .v (I (g : Int))), (30, .v (slv ((el ms2 i).tables).length ((q31.2 i).tables).1)), (31, .v (I (g : Int))), (33, .v (slv (ms2).length q31.1)), (34, .v (I (i : Int)))], [[slv (h.mem).length q1.mem.1, slv (ms2).length q31.1, slv (h.buf).length q1.buf.1, slv (h.iobuf).length q1.iobuf.1], Zc THost]⟩) (by kernel_rfl) (by kernel_rfl) .nil (by kernel_rfl) ?_
      clear S; intro ac S
      refine S.hoist (i := 10) (path := [10]) (keep := [1, 2, 3, 4, 30, 31, 35]) (m := 2) (σ' := ⟨[(1, .p 0 0), (2, .p 1 0), (3, .v (I (i : Int))), (4, .v (I (g : Int))), (30, .v (slv ((el ms2 i).tables).length ((q31.2 i).tables).1)), (31, .v (I (g : Int))), (35, .v (pt q31.1.b (q31.1.off + i * 9)))], [[slv (h.mem).length q1.mem.1, slv (ms2).length q31.1, slv (h.buf).length q1.buf.1, slv (h.iobuf).length q1.iobuf.1], Zc THost]⟩) (by kernel_rfl) (by kernel_rfl) (.cons (Q_idx o33.rn (l := (ms2).length) (k := i) (i := (i : Int)) rfl rfl (by omega) Try.underlying36 (by kernel_rfl)) .nil) (by kernel_rfl) ?_
      clear S; intro ac S
      refine S.hoist (i := 11) (path := [11]) (keep := [1, 2, 3, 4, 30, 31, 36]) (m := 2) (σ' := ⟨[(1, .p 0 0), (2, .p 1 0), (3, .v (I (i : Int))), (4, .v (I (g : Int))), (30, .v (slv ((el ms2 i).tables).length ((q31.2 i).tables).1)), (31, .v (I (g : Int))), (36, .v (pt q31.1.b (q31.1.off + i * 9 + 7)))], [[slv (h.mem).length q1.mem.1, slv (ms2).length q31.1, slv (h.buf).length q1.buf.1, slv (h.iobuf).length q1.iobuf.1], Zc THost]⟩) (by kernel_rfl) (by kernel_rfl) .nil (by kernel_rfl) ?_
      clear S; intro ac S
      refine S.hoist (i := 12) (path := [12]) (keep := [1, 2, 3, 4, 30, 31, 37]) (m := 2) (σ' := ⟨[(1, .p 0 0), (2, .p 1 0), (3, .v (I (i : Int))), (4, .v (I (g : Int))), (30, .v (slv ((el ms2 i).tables).length ((q31.2 i).tables).1)), (31, .v (I (g : Int))), (37, .v (slv ((el ms2 i).tables).length ((q31.2 i).tables).1))], [[slv (h.mem).length q1.mem.1, slv (ms2).length q31.1, slv (h.buf).length q1.buf.1, slv (h.iobuf).length q1.iobuf.1], Zc THost]⟩) (by kernel_rfl) (by kernel_rfl) (.cons (Q_cell o33.rn (t := 44) (k := i) (j := 7) (v := slv ((el ms2 i).tables).length ((q31.2 i).tables).1) (by omega) (by kernel_rfl) (by kernel_rfl)) .nil) (by kernel_rfl) ?_
      clear S; intro ac S
      refine S.hoist (i := 13) (path := [13]) (keep := [1, 2, 3, 4, 30, 31, 37, 38]) (m := 2) (σ' := ⟨[(1, .p 0 0), (2, .p 1 0), (3, .v (I (i : Int))), (4, .v (I (g : Int))), (30, .v (slv ((el ms2 i).tables).length ((q31.2 i).tables).1)), (31, .v (I (g : Int))), (37, .v (slv ((el ms2 i).tables).length ((q31.2 i).tables).1)), (38, .v (I (g : Int)))], [[slv (h.mem).length q1.mem.1, slv (ms2).length q31.1, slv (h.buf).length q1.buf.1, slv (h.iobuf).length q1.iobuf.1], Zc THost]⟩) (by kernel_rfl) (by kernel_rfl) .nil (by kernel_rfl) ?_
      clear S; intro ac S
      refine S.hoist (i := 14) (path := [14]) (keep := [1, 2, 3, 4, 30, 31, 39]) (m := 2) (σ' := ⟨[(1, .p 0 0), (2, .p 1 0), (3, .v (I (i : Int))), (4, .v (I (g : Int))), (30, .v (slv ((el ms2 i).tables).length ((q31.2 i).tables).1)), (31, .v (I (g : Int))), (39, .v (pt ((q31.2 i).tables).1.b (((q31.2 i).tables).1.off + g * 2)))], [[slv (h.mem).length q1.mem.1, slv (ms2).length q31.1, slv (h.buf).length q1.buf.1, slv (h.iobuf).length q1.iobuf.1], Zc THost]⟩) (by kernel_rfl) (by kernel_rfl) (.cons (Q_idx (RMon.tables (d := (el ms2 i)) (LRd.el o33.rn i (by omega))) (l := ((el ms2 i).tables).length) (k := g) (i := (g : Int)) rfl rfl (by omega) Try.underlying44 (by kernel_rfl)) .nil) (by kernel_rfl) ?_
      clear S; intro ac S
      refine S.hoist (i := 15) (path := [15]) (keep := [1, 2, 3, 4, 30, 31, 40]) (m := 2) (σ' := ⟨[(1, .p 0 0), (2, .p 1 0), (3, .v (I (i : Int))), (4, .v (I (g : Int))), (30, .v (slv ((el ms2 i).tables).length ((q31.2 i).tables).1)), (31, .v (I (g : Int))), (40, .v (GT.val (el ((el ms2 i).tables) g) (((q31.2 i).tables).2 g)))], [[slv (h.mem).length q1.mem.1, slv (ms2).length q31.1, slv (h.buf).length q1.buf.1, slv (h.iobuf).length q1.iobuf.1], Zc THost]⟩) (by kernel_rfl) (by kernel_rfl) (.cons (Q_el (RMon.tables (d := (el ms2 i)) (LRd.el o33.rn i (by omega))) (t := 101) (k := g) (by omega) rfl (by kernel_rfl) (by kernel_rfl)) .nil) (by kernel_rfl) ?_
      clear S; intro ac S
      refine WD.one (i := 16) (by kernel_rfl) ?_
      refine id (S.call1 (r := f_forgetAll (el ((el ms2 i).tables) g)) (d := 41) (c_spec_ForgetAll w (el ((el ms2 i).tables) g) (((q31.2 i).tables).2 g) (S.rd (LRd.el (RMon.tables (d := (el ms2 i)) (LRd.el o33.rn i (by omega))) g (by omega)))) (by kernel_rfl) rfl ?_)
      clear S; intro ac w N q40 F41 S up o42 d43
      refine WD.next S up rfl ?_
      have d44 : Disj F32 F41 := fun b x y => d43 b (o33.sub b x) y
      have d45 : Disj F5 F41 := fun b x y => d43 b (o6.sub b x) y
      have d46 : Disj F11 F41 := fun b x y => d43 b (o12.sub b x) y
      have d47 : Disj F14 F41 := fun b x y => d43 b (o15.sub b x) y
      replace o33 := o33.up up
      replace o6 := o6.up up
      replace o12 := o12.up up
      replace o15 := o15.up up
      clear up d43
      obtain ⟨F48, F51, o49, o52, s50, s53, d54⟩ := sp_Kept o42
      refine S.hoist (i := 17) (path := [17]) (keep := [1, 2, 3, 4, 41, 42]) (m := 2) (σ' := ⟨[(1, .p 0 0), (2, .p 1 0), (3, .v (I (i : Int))), (4, .v (I (g : Int))), (41, .v (GT.val (f_forgetAll (el ((el ms2 i).tables) g)) q40)), (42, .v (pt ((q31.2 i).tables).1.b (((q31.2 i).tables).1.off + g * 2)))], [[slv (h.mem).length q1.mem.1, slv (ms2).length q31.1, slv (h.buf).length q1.buf.1, slv (h.iobuf).length q1.iobuf.1], Zc THost]⟩) (by kernel_rfl) (by kernel_rfl) (.cons (Q_idx (RMon.tables (d := (el ms2 i)) (LRd.el o33.rn i (by omega))) (l := ((el ms2 i).tables).length) (k := g) (i := (g : Int)) rfl rfl (by omega) Try.underlying44 (by kernel_rfl)) .nil) (by kernel_rfl) ?_
      clear S; intro ac S
      refine WD.one (i := 18) (by kernel_rfl) ?_
      obtain ⟨F55, o56, s57, b58⟩ := foc2_Mon_tables o33 (k := i) (show i < (ms2).length by omega)
      have l59 := LRd.le o56.rn
      have n60 := o56.sub
      have o65 := ow_Kept (x := (f_forgetAll (el ((el ms2 i).tables) g))) (p := q40) o49 o52 d54 
      refine id (S.setEl (α := TKept) o56 (t := 101) (v := GT.val (f_forgetAll (el ((el ms2 i).tables) g)) q40) (k := g) (j := 0) (off := ((q31.2 i).tables).1.off + g * 2) (y := (f_forgetAll (el ((el ms2 i).tables) g))) (q := q40) (Fy := (uniB [F48, F51])) (by kernel_rfl) (by kernel_rfl) (by omega) (by kernel_rfl) (by kernel_rfl) (Nat.le_of_ble_eq_true (by kernel_rfl)) (by kernel_rfl) (fun _ _ _ => ⟨(uniB [F48, F51]), o65.own, fun _ h => .inr h⟩) (Disj.symm (Disj.or (Disj.symm (Disj.part (Disj.symm (Disj.part (Disj.symm d44) s50)) s57)) (Disj.or (Disj.symm (Disj.part (Disj.symm (Disj.part (Disj.symm d44) s53)) s57)) Disj.nob))) o65.sub o65.young ?_)
      clear S; intro w N F62 q63 S up o61 d64 s66 n67
      refine WD.last (by kernel_rfl) ?_
      have d68 : Disj F5 F62 := d64 _ (Disj.symm (Disj.part d34 s57)) (Disj.symm (Disj.or (Disj.part (Disj.symm d45) s50) (Disj.or (Disj.part (Disj.symm d45) s53) Disj.nob))) o6.sub
      have d69 : Disj F11 F62 := d64 _ (Disj.symm (Disj.part d35 s57)) (Disj.symm (Disj.or (Disj.part (Disj.symm d46) s50) (Disj.or (Disj.part (Disj.symm d46) s53) Disj.nob))) o12.sub
      have d70 : Disj F14 F62 := d64 _ (Disj.symm (Disj.part d36 s57)) (Disj.symm (Disj.or (Disj.part (Disj.symm d47) s50) (Disj.or (Disj.part (Disj.symm d47) s53) Disj.nob))) o15.sub
      replace o6 := o6.upF (Disj.symm (Disj.part d34 s57)) up
      replace o12 := o12.upF (Disj.symm (Disj.part d35 s57)) up
      replace o15 := o15.upF (Disj.symm (Disj.part d36 s57)) up
      clear d64 o56
      obtain ⟨p71, o72, c73⟩ := b58 _ _ _ _ _ (uniB [F48, F51]) up o61 s66 (Disj.symm (Disj.or (Disj.part (Disj.symm d44) s50) (Disj.or (Disj.part (Disj.symm d44) s53) Disj.nob))) (by show [slv _ _] = [slv _ _]; rw [List.length_set]) (fun b h => n67 b (n60 b h))
      clear up o61 n67
      have l74 : ((ms2).set i ({ el ms2 i with tables := (((el ms2 i).tables).set g (f_forgetAll (el ((el ms2 i).tables) g))) })).length = (ms2).length := List.length_set
      replace S := S.p [1, 2, 3, 4, 41, 42] 2 ⟨[(1, .p 0 0), (2, .p 1 0), (3, .v (I (i : Int))), (4, .v (I (g : Int))), (41, .v (GT.val (f_forgetAll (el ((el ms2 i).tables) g)) q40)), (42, .v (pt ((q31.2 i).tables).1.b (((q31.2 i).tables).1.off + g * 2)))], [[slv (h.mem).length q1.mem.1, slv (ms2).length q31.1, slv (h.buf).length q1.buf.1, slv (h.iobuf).length q1.iobuf.1], Zc THost]⟩
      replace S := S.cast (σ' := ⟨[(1, .p 0 0), (2, .p 1 0), (3, .v (I (i : Int))), (4, .v (I (g : Int))), (41, .v (GT.val (f_forgetAll (el ((el ms2 i).tables) g)) q40)), (42, .v (pt ((q31.2 i).tables).1.b (((q31.2 i).tables).1.off + g * 2)))], [[slv (h.mem).length q1.mem.1, slv (((ms2).set i ({ el ms2 i with tables := (((el ms2 i).tables).set g (f_forgetAll (el ((el ms2 i).tables) g))) }))).length q31.1, slv (h.buf).length q1.buf.1, slv (h.iobuf).length q1.iobuf.1], Zc THost]⟩) (by rw [show (((ms2).set i ({ el ms2 i with tables := (((el ms2 i).tables).set g (f_forgetAll (el ((el ms2 i).tables) g))) }))).length = (ms2).length by omega])
      refine WD.done (by kernel_rfl) ?_ _
      replace S := S.p [1, 2, 3, 4] 2 ⟨[(1, .p 0 0), (2, .p 1 0), (3, .v (I (i : Int))), (4, .v (I (g : Int)))], [[slv (h.mem).length q1.mem.1, slv (((ms2).set i ({ el ms2 i with tables := (((el ms2 i).tables).set g (f_forgetAll (el ((el ms2 i).tables) g))) }))).length q31.1, slv (h.buf).length q1.buf.1, slv (h.iobuf).length q1.iobuf.1], Zc THost]⟩
      refine id (nx_block (nx_then (RG.start ?_)))
      refine S.q 3 [1, 2, 3, 4] 2 ⟨[(1, .p 0 0), (2, .p 1 0), (3, .v (I (i : Int))), (4, .v (I ((g : Int) + 1)))], [[slv (h.mem).length q1.mem.1, slv (((ms2).set i ({ el ms2 i with tables := (((el ms2 i).tables).set g (f_forgetAll (el ((el ms2 i).tables) g))) }))).length q31.1, slv (h.buf).length q1.buf.1, slv (h.iobuf).length q1.iobuf.1], Zc THost]⟩ (.cons (Q_add (x := (g : Int)) (y := 1) ⟨by omega, by omega⟩) .nil) ?_; clear S; intro ac w β S
      refine RG.done rfl (nx_then ?_)
      replace S := S.p [1, 2, 3, 4] 2 ⟨[(1, .p 0 0), (2, .p 1 0), (3, .v (I (i : Int))), (4, .v (I ((g : Int) + 1)))], [[slv (h.mem).length q1.mem.1, slv (((ms2).set i ({ el ms2 i with tables := (((el ms2 i).tables).set g (f_forgetAll (el ((el ms2 i).tables) g))) }))).length q31.1, slv (h.buf).length q1.buf.1, slv (h.iobuf).length q1.iobuf.1], Zc THost]⟩
      refine ⟨(el h.mons i).tables.length - (g + 1), by omega, g + 1, ((ms2).set i ({ el ms2 i with tables := (((el ms2 i).tables).set g (f_forgetAll (el ((el ms2 i).tables) g))) })), (tb.set g (f_forgetAll (el tb g))), (q31.1, p71), (Or F32 F62), _, _, _, rfl, ?_, ?_, ?_, ?_, ?_, S.cast (by kernel_rfl), o72, o6, o12, o15, (Disj.symm (Disj.symm (Disj.or d34 (Disj.symm d68)))), (Disj.symm (Disj.symm (Disj.or d35 (Disj.symm d69)))), (Disj.symm (Disj.symm (Disj.or d36 (Disj.symm d70))))⟩
      · clear S; omega
      · clear S; (rw [hem]; rw [hm2, List.set_set])
      · clear S; (rw [List.length_set]; exact htl)
      · clear S; (rw [take_set_succ (by omega), map_step (by omega), htT, el_of_drop htD])
      · clear S; (rw [drop_set_self]; exact drop_more htD)
    · have g75 : ¬ ((g : Int) < (((el ms2 i).tables).length : Int)) := of_decide_eq_false h38
      refine wp_exit (ex_then (ex_then (ex_hit (nx_block (nx_then (RG.start ?_))))))
      refine S.q 3 [1, 2, 3] 2 ⟨[(1, .p 0 0), (2, .p 1 0), (3, .v (I ((i : Int) + 1)))], [[slv (h.mem).length q1.mem.1, slv (ms2).length q31.1, slv (h.buf).length q1.buf.1, slv (h.iobuf).length q1.iobuf.1], Zc THost]⟩ (.cons (Q_add (x := (i : Int)) (y := 1) ⟨by omega, by omega⟩) .nil) ?_; clear S; intro ac w β S
      refine RG.done rfl (nx_then ?_)
      replace S := S.p [1, 2, 3] 2 ⟨[(1, .p 0 0), (2, .p 1 0), (3, .v (I ((i : Int) + 1)))], [[slv (h.mem).length q1.mem.1, slv (ms2).length q31.1, slv (h.buf).length q1.buf.1, slv (h.iobuf).length q1.iobuf.1], Zc THost]⟩
      refine ⟨h.mons.length - (i + 1), by omega, i + 1, ms2, q31, F32, _, _, _, rfl, ?_, ?_, ?_, ?_, S.cast (by kernel_rfl), o33, o6, o12, o15, d34, d35, d36⟩
      · clear S; first | omega | (simp [*]; done) | (simp [*]; omega)
      · clear S; (rw [hm2, List.length_set]; exact hl)
      · clear S; (rw [hm2, take_set_succ (by omega), map_step (by omega), hT, hel, cold_step (by omega) htl htT])
      · clear S; (rw [hm2, drop_set_self]; exact drop_more hD)
  · have g76 : ¬ ((i : Int) < ((ms).length : Int)) := of_decide_eq_false h29
    refine wp_exit (ex_then (ex_then (ex_hit (nx_then (wp_seq (RG.start ?_))))))
    refine RG.op rfl (S.bs0 (α := TEntry) (d := 43) (by kernel_rfl) ?_)
    clear S; intro ac w N q77 F78 S up o79 d80
    have d81 : Disj F24 F78 := fun b x y => d80 b (o25.sub b x) y
    have d82 : Disj F5 F78 := fun b x y => d80 b (o6.sub b x) y
    have d83 : Disj F11 F78 := fun b x y => d80 b (o12.sub b x) y
    have d84 : Disj F14 F78 := fun b x y => d80 b (o15.sub b x) y
    replace o25 := o25.up up
    replace o6 := o6.up up
    replace o12 := o12.up up
    replace o15 := o15.up up
    clear up d80
    refine S.q 2 [1, 2] 2 ⟨[(1, .p 0 0), (2, .p 1 0)], [[slv (h.mem).length q1.mem.1, slv (ms).length q23.1, slv 0 q77.1, slv (h.iobuf).length q1.iobuf.1], Zc THost]⟩ .nil ?_; clear S; intro ac w β S
    refine RG.done rfl (nx_then (wp_seq (RG.start ?_)))
    refine RG.op rfl (S.bs0 (α := TEntry) (d := 45) (by kernel_rfl) ?_)
    clear S; intro ac w N q85 F86 S up o87 d88
    have d89 : Disj F24 F86 := fun b x y => d88 b (o25.sub b x) y
    have d90 : Disj F5 F86 := fun b x y => d88 b (o6.sub b x) y
    have d91 : Disj F14 F86 := fun b x y => d88 b (o15.sub b x) y
    have d92 : Disj F78 F86 := fun b x y => d88 b (o79.sub b x) y
    replace o25 := o25.up up
    replace o6 := o6.up up
    replace o15 := o15.up up
    replace o79 := o79.up up
    clear up d88
    refine S.q 2 [1, 2] 2 ⟨[(1, .p 0 0), (2, .p 1 0)], [[slv (h.mem).length q1.mem.1, slv (ms).length q23.1, slv 0 q77.1, slv 0 q85.1], Zc THost]⟩ .nil ?_; clear S; intro ac w β S
    refine RG.done rfl (nx_then (wp_seq (RG.start ?_)))
    refine S.q 2 [2] 2 ⟨[(2, .p 1 0)], [[slv (h.mem).length q1.mem.1, slv (ms).length q23.1, slv 0 q77.1, slv 0 q85.1], [slv (h.mem).length q1.mem.1, slv (ms).length q23.1, slv 0 q77.1, slv 0 q85.1]]⟩ .nil ?_; clear S; intro ac w β S
    refine RG.done rfl (nx_then (wp_ret ?_))
    refine S.r [GT.val (⟨h.mem, ms, ([] : List TEntry), ([] : List TEntry)⟩ : THost) (⟨q1.mem, q23, q77, q85⟩ : PHost)] ?_
    have o93 := ow_Host (x := (⟨h.mem, ms, ([] : List TEntry), ([] : List TEntry)⟩ : THost)) (p := (⟨q1.mem, q23, q77, q85⟩ : PHost)) o6 o25 o79 o87 (Disj.symm d26) d82 d90 d81 d89 d92 
    exact ret1_of S (show f_cold h = (⟨h.mem, ms, ([] : List TEntry), ([] : List TEntry)⟩ : THost) by clear S; (unfold f_cold; rw [take_all (by omega), take_all (by omega)] at hT; rw [hT])) rfl o93

set_option maxRecDepth 100000 in
theorem c_impl_copyInts (w0 : World) (l : List Int) (pl : LP Int) (hl : GT.rd KK (Lt w0.heap.size) w0 l pl) : Calls Try.prog 91 [slv (l).length pl.1].toArray w0 (Ret1 NoB w0 (l : List Int)) := by
  refine Calls.walk (args := [slv (l).length pl.1]) NoB Try.func91 rfl rfl ?_
  intro ac β S
  have hlel : l.length ≤ 4194304 := LRd.le hl
  refine wp_seq (RG.start ?_)
  refine S.q 1 [0] 0 ⟨[(0, .v (slv (l).length pl.1))], []⟩ .nil ?_; clear S; intro ac w β S
  refine RG.done rfl (nx_then (wp_seq (RG.start ?_)))
  refine RG.op rfl (S.bs0 (α := Int) (d := 3) (by kernel_rfl) ?_)
  clear S; intro ac w N q1 F2 S up o3 d4
  clear up d4
  refine S.q 1 [3, 4] 0 ⟨[(3, .v (slv 0 q1.1)), (4, .v (slv (l).length pl.1))], []⟩ .nil ?_; clear S; intro ac w β S
  have b9 : (l).length ≤ 4194304 := LRd.le (S.arg hl)
  refine RG.op rfl (S.appFlat (α := Int) o3 ((S.arg hl)) (fun _ _ h => h) (by' := 8) (d := 5) (lx := 0) (ly := (l).length) rfl rfl (by kernel_rfl) (show _ ≤ 4194304 by simp only [List.length_append, List.length_cons, List.length_nil]; omega) ?_)
  clear S; intro ac w N q5 F6 S up o7 d8
  clear up d8
  refine S.q 1 [2] 0 ⟨[(2, .v (slv ((([] : List Int) ++ l)).length q5.1))], []⟩ .nil ?_; clear S; intro ac w β S
  refine RG.done rfl (nx_then (wp_ret ?_))
  refine S.r [slv ((([] : List Int) ++ l)).length q5.1] ?_
  exact ret1_of S (show l = (([] : List Int) ++ l) by clear S; simp) rfl o7

set_option maxRecDepth 100000 in
theorem c_impl_copyMem (w0 : World) (l : List (List Int)) (pl : LP (List Int)) (hl : GT.rd KK (Lt w0.heap.size) w0 l pl) : Calls Try.prog 88 [slv (l).length pl.1].toArray w0 (Ret1 NoB w0 (l : List (List Int))) := by
  refine Calls.walk (args := [slv (l).length pl.1]) NoB Try.func88 rfl rfl ?_
  intro ac β S
  have hlel : l.length ≤ 4194304 := LRd.le hl
  refine wp_seq (RG.start ?_)
  refine S.q 1 [0] 0 ⟨[(0, .v (slv (l).length pl.1))], []⟩ .nil ?_; clear S; intro ac w β S
  refine RG.done rfl (nx_then (wp_seq (RG.start ?_)))
  refine RG.op rfl (S.bs0 (α := List Int) (d := 6) (by kernel_rfl) ?_)
  clear S; intro ac w N q1 F2 S up o3 d4
  clear up d4
  refine S.q 1 [0, 3] 0 ⟨[(0, .v (slv (l).length pl.1)), (3, .v (slv 0 q1.1))], []⟩ .nil ?_; clear S; intro ac w β S
  refine RG.done rfl (nx_then (wp_seq (wp_seq (RG.start ?_))))
  refine S.q 3 [3, 7, 8, 9] 0 ⟨[(3, .v (slv 0 q1.1)), (7, .v (slv (l).length pl.1)), (8, .v (I ((l).length : Int))), (9, .v (I 0))], []⟩ .nil ?_; clear S; intro ac w β S
  refine RG.done rfl (nx_then (wp_block ?_))
  replace S := S.p [3, 7, 8, 9] 0 ⟨[(3, .v (slv 0 q1.1)), (7, .v (slv (l).length pl.1)), (8, .v (I ((l).length : Int))), (9, .v (I 0))], []⟩
  refine wp_loop_down (fun mm ac w => ∃ (k : Nat) (acc : List (List Int)) (q5 : GT.Ptr (List (List Int))) (F6 : Bl) (u : World) (N : Bl) (β : Nat → Nat), mm = (l).length - k ∧ (k ≤ (l).length) ∧ (acc = (l).take k) ∧ St Try.prog Try.f88.ntmps w0 NoB u N β ⟨[(3, .v (slv (acc).length q5.1)), (7, .v (slv (l).length pl.1)), (8, .v (I ((l).length : Int))), (9, .v (I (k : Int)))], []⟩ ac w ∧ Ow w0 NoB u N F6 acc q5) _ ⟨0, ([] : List (List Int)), q1, F2, _, _, _, rfl, (by first | omega | (simp; done) | (simp; omega)), (by simp), S.cast (by kernel_rfl), o3⟩ ?_
  clear S o3
  rintro mm ac w ⟨k, acc, q5, F6, u, N, β, rfl, hk, hacc, S, o7⟩
  have hlacc : acc.length = k := by rw [hacc]; simp; omega
  refine wp_seq (RG.start ?_)
  refine S.q 1 [3, 7, 8, 9, 10] 0 ⟨[(3, .v (slv (acc).length q5.1)), (7, .v (slv (l).length pl.1)), (8, .v (I ((l).length : Int))), (9, .v (I (k : Int))), (10, .v (B (decide ((k : Int) < ((l).length : Int)))))], []⟩ .nil ?_; clear S; intro ac w β S
  refine RG.done rfl (nx_then (wp_seq ?_))
  refine S.c (decide ((k : Int) < ((l).length : Int))) (fun h8 => ?_) (fun h8 => ?_)
  · have g9 : (k : Int) < ((l).length : Int) := of_decide_eq_true h8
    refine wp_skip (nx_then (wp_seq (wp_block (wp_seq (RG.start ?_)))))
    refine S.q 3 [3, 5, 7, 8, 9] 0 ⟨[(3, .v (slv (acc).length q5.1)), (5, .v (slv ((el l k)).length (pl.2 k).1)), (7, .v (slv (l).length pl.1)), (8, .v (I ((l).length : Int))), (9, .v (I (k : Int)))], []⟩ (.cons (Q_idx (S.arg hl) (l := (l).length) (k := k) (i := (k : Int)) rfl rfl (by omega) Try.underlying22 (by kernel_rfl)) (.cons (Q_el1 (S.arg hl) (t := 30) (k := k) (by omega) rfl (by kernel_rfl)) .nil)) ?_; clear S; intro ac w β S
    refine RG.done rfl (nx_then (RG.start ?_))
    refine S.q 2 [7, 8, 9, 13, 14] 0 ⟨[(7, .v (slv (l).length pl.1)), (8, .v (I ((l).length : Int))), (9, .v (I (k : Int))), (13, .v (slv (acc).length q5.1)), (14, .v (slv ((el l k)).length (pl.2 k).1))], []⟩ .nil ?_; clear S; intro ac w β S
    refine RG.op rfl (S.call1 (r := (el l k)) (d := 15) (c_impl_copyInts w (el l k) (pl.2 k) (S.rd (LRd.el (S.arg hl) k (by omega)))) (by kernel_rfl) rfl ?_)
    clear S; intro ac w N q10 F11 S up o12 d13
    have d14 : Disj F6 F11 := fun b x y => d13 b (o7.sub b x) y
    replace o7 := o7.up up
    clear up d13
    refine RG.op rfl (S.bs1 (α := List Int) (x := (el l k)) (p := q10) o12.own o12.sub o12.young (d := 16) (by kernel_rfl) ?_)
    clear S; intro ac w N q15 F16 S up o17 d18
    have d19 : Disj F6 F16 := d18 _ d14 o7.sub
    replace o7 := o7.up up
    clear up d18
    refine RG.op rfl (S.appOwn (α := List Int) o7 o17 d19 (by' := 24) (d := 17) (lx := (acc).length) (ly := 1) rfl rfl (by kernel_rfl) (show _ ≤ 4194304 by simp only [List.length_append, List.length_cons, List.length_nil]; omega) ?_)
    clear S; intro ac w N q20 F21 S up o22 d23
    clear up d23
    refine S.q 1 [3, 7, 8, 9] 0 ⟨[(3, .v (slv ((acc ++ [(el l k)])).length q20.1)), (7, .v (slv (l).length pl.1)), (8, .v (I ((l).length : Int))), (9, .v (I (k : Int)))], []⟩ .nil ?_; clear S; intro ac w β S
    refine RG.done rfl (nx_block (nx_then (RG.start ?_)))
    refine S.q 2 [3, 7, 8, 9] 0 ⟨[(3, .v (slv ((acc ++ [(el l k)])).length q20.1)), (7, .v (slv (l).length pl.1)), (8, .v (I ((l).length : Int))), (9, .v (I ((k : Int) + 1)))], []⟩ (.cons (Q_add (x := (k : Int)) (y := 1) ⟨by omega, by omega⟩) .nil) ?_; clear S; intro ac w β S
    refine RG.done rfl (nx_then ?_)
    replace S := S.p [3, 7, 8, 9] 0 ⟨[(3, .v (slv ((acc ++ [(el l k)])).length q20.1)), (7, .v (slv (l).length pl.1)), (8, .v (I ((l).length : Int))), (9, .v (I ((k : Int) + 1)))], []⟩
    refine ⟨(l).length - (k + 1), by omega, k + 1, (acc ++ [(el l k)]), q20, F21, _, _, _, rfl, ?_, ?_, S.cast (by kernel_rfl), o22⟩
    · clear S; first | omega | (simp [*]; done) | (simp [*]; omega)
    · clear S; (first | (rw [take_el (by omega), hacc]; done) | (rw [take_el (by omega), hacc]; simp; done))
  · have g24 : ¬ ((k : Int) < ((l).length : Int)) := of_decide_eq_false h8
    refine wp_exit (ex_then (ex_then (ex_hit (nx_then (wp_seq (RG.start ?_))))))
    refine S.q 2 [2] 0 ⟨[(2, .v (slv (acc).length q5.1))], []⟩ .nil ?_; clear S; intro ac w β S
    refine RG.done rfl (nx_then (wp_ret ?_))
    refine S.r [slv (acc).length q5.1] ?_
    exact ret1_of S (show l = acc by clear S; (rw [hacc, take_all (by omega)])) rfl o7

set_option maxRecDepth 100000 in
theorem c_impl_copyTable (w0 : World) (l : List TSlot) (pl : LP TSlot) (hl : GT.rd KK (Lt w0.heap.size) w0 l pl) : Calls Try.prog 89 [slv (l).length pl.1].toArray w0 (Ret1 NoB w0 (l : List TSlot)) := by
  refine Calls.walk (args := [slv (l).length pl.1]) NoB Try.func89 rfl rfl ?_
  intro ac β S
  have hlel : l.length ≤ 4194304 := LRd.le hl
  refine wp_seq (RG.start ?_)
  refine S.q 1 [0] 0 ⟨[(0, .v (slv (l).length pl.1))], []⟩ .nil ?_; clear S; intro ac w β S
  refine RG.done rfl (nx_then (wp_seq (RG.start ?_)))
  refine RG.op rfl (S.bs0 (α := TSlot) (d := 3) (by kernel_rfl) ?_)
  clear S; intro ac w N q1 F2 S up o3 d4
  clear up d4
  refine S.q 1 [3, 4] 0 ⟨[(3, .v (slv 0 q1.1)), (4, .v (slv (l).length pl.1))], []⟩ .nil ?_; clear S; intro ac w β S
  have b9 : (l).length ≤ 4194304 := LRd.le (S.arg hl)
  refine RG.op rfl (S.appFlat (α := TSlot) o3 ((S.arg hl)) (fun _ _ h => h) (by' := 16) (d := 5) (lx := 0) (ly := (l).length) rfl rfl (by kernel_rfl) (show _ ≤ 4194304 by simp only [List.length_append, List.length_cons, List.length_nil]; omega) ?_)
  clear S; intro ac w N q5 F6 S up o7 d8
  clear up d8
  refine S.q 1 [2] 0 ⟨[(2, .v (slv ((([] : List TSlot) ++ l)).length q5.1))], []⟩ .nil ?_; clear S; intro ac w β S
  refine RG.done rfl (nx_then (wp_ret ?_))
  refine S.r [slv ((([] : List TSlot) ++ l)).length q5.1] ?_
  exact ret1_of S (show l = (([] : List TSlot) ++ l) by clear S; simp) rfl o7

set_option maxRecDepth 100000 in
theorem c_impl_copyProg (w0 : World) (l : List TIns) (pl : LP TIns) (hl : GT.rd KK (Lt w0.heap.size) w0 l pl) : Calls Try.prog 121 [slv (l).length pl.1].toArray w0 (Ret1 NoB w0 (l : List TIns)) := by
  refine Calls.walk (args := [slv (l).length pl.1]) NoB Try.func121 rfl rfl ?_
  intro ac β S
  have hlel : l.length ≤ 4194304 := LRd.le hl
  refine wp_seq (RG.start ?_)
  refine S.q 1 [0] 0 ⟨[(0, .v (slv (l).length pl.1))], []⟩ .nil ?_; clear S; intro ac w β S
  refine RG.done rfl (nx_then (wp_seq (RG.start ?_)))
  refine RG.op rfl (S.bs0 (α := TIns) (d := 3) (by kernel_rfl) ?_)
  clear S; intro ac w N q1 F2 S up o3 d4
  clear up d4
  refine S.q 1 [3, 4] 0 ⟨[(3, .v (slv 0 q1.1)), (4, .v (slv (l).length pl.1))], []⟩ .nil ?_; clear S; intro ac w β S
  have b9 : (l).length ≤ 4194304 := LRd.le (S.arg hl)
  refine RG.op rfl (S.appFlat (α := TIns) o3 ((S.arg hl)) (fun _ _ h => h) (by' := 16) (d := 5) (lx := 0) (ly := (l).length) rfl rfl (by kernel_rfl) (show _ ≤ 4194304 by simp only [List.length_append, List.length_cons, List.length_nil]; omega) ?_)
  clear S; intro ac w N q5 F6 S up o7 d8
  clear up d8
  refine S.q 1 [2] 0 ⟨[(2, .v (slv ((([] : List TIns) ++ l)).length q5.1))], []⟩ .nil ?_; clear S; intro ac w β S
  refine RG.done rfl (nx_then (wp_ret ?_))
  refine S.r [slv ((([] : List TIns) ++ l)).length q5.1] ?_
  exact ret1_of S (show l = (([] : List TIns) ++ l) by clear S; simp) rfl o7

set_option maxRecDepth 100000 in
theorem c_impl_copyGuest (w0 : World) (g : TGuest) (pg : PGuest) (hg : GT.rd KK (Lt w0.heap.size) w0 g pg) : Calls Try.prog 113 [GT.val g pg].toArray w0 (Ret1 NoB w0 (g : TGuest)) := by
  refine Calls.walk (args := [GT.val g pg]) NoB Try.func113 rfl rfl ?_
  intro ac β S
  have hleg_prog : g.prog.length ≤ 4194304 := LRd.le (RGuest.prog (d := g) hg)
  have hleg_written : g.written.length ≤ 4194304 := LRd.le (RGuest.written (d := g) hg)
  have hleg_live : g.live.length ≤ 4194304 := LRd.le (RGuest.live (d := g) hg)
  have hleg_seen : g.seen.length ≤ 4194304 := LRd.le (RGuest.seen (d := g) hg)
  refine wp_seq (RG.start ?_)
  refine S.q 2 [1, 2] 2 ⟨[(1, .p 0 0), (2, .p 1 0)], [GT.cells g pg, Zc TGuest]⟩ .nil ?_; clear S; intro ac w β S
  refine RG.done rfl (nx_then (wp_seq (RG.start ?_)))
  refine S.q 2 [1, 2, 4] 2 ⟨[(1, .p 0 0), (2, .p 1 0), (4, .v (slv (g.prog).length pg.prog.1))], [GT.cells g pg, Zc TGuest]⟩ .nil ?_; clear S; intro ac w β S
  refine RG.op rfl (S.call1 (r := g.prog) (d := 5) (c_impl_copyProg w g.prog pg.prog (S.rd (RGuest.prog (d := g) (S.arg hg)))) (by kernel_rfl) rfl ?_)
  clear S; intro ac w N q1 F2 S up o3 d4
  clear up d4
  refine S.q 2 [1, 2] 2 ⟨[(1, .p 0 0), (2, .p 1 0)], [[slv (g.prog).length q1.1, I g.acc, I g.pc, slv (g.written).length pg.written.1, slv (g.live).length pg.live.1, I g.ctl.traps, I g.ctl.post, B g.ctl.opn, I g.pend, I g.exit.kind, I g.exit.page, B g.exit.wr, I g.exit.n, B g.halted, slv (g.seen).length pg.seen.1], Zc TGuest]⟩ .nil ?_; clear S; intro ac w β S
  refine RG.done rfl (nx_then (wp_seq (RG.start ?_)))
  refine S.q 2 [1, 2, 8] 2 ⟨[(1, .p 0 0), (2, .p 1 0), (8, .v (slv (g.written).length pg.written.1))], [[slv (g.prog).length q1.1, I g.acc, I g.pc, slv (g.written).length pg.written.1, slv (g.live).length pg.live.1, I g.ctl.traps, I g.ctl.post, B g.ctl.opn, I g.pend, I g.exit.kind, I g.exit.page, B g.exit.wr, I g.exit.n, B g.halted, slv (g.seen).length pg.seen.1], Zc TGuest]⟩ .nil ?_; clear S; intro ac w β S
  refine RG.op rfl (S.call1 (r := g.written) (d := 9) (c_impl_copyTable w g.written pg.written (S.rd (RGuest.written (d := g) (S.arg hg)))) (by kernel_rfl) rfl ?_)
  clear S; intro ac w N q5 F6 S up o7 d8
  have d9 : Disj F2 F6 := fun b x y => d8 b (o3.sub b x) y
  replace o3 := o3.up up
  clear up d8
  refine S.q 2 [1, 2] 2 ⟨[(1, .p 0 0), (2, .p 1 0)], [[slv (g.prog).length q1.1, I g.acc, I g.pc, slv (g.written).length q5.1, slv (g.live).length pg.live.1, I g.ctl.traps, I g.ctl.post, B g.ctl.opn, I g.pend, I g.exit.kind, I g.exit.page, B g.exit.wr, I g.exit.n, B g.halted, slv (g.seen).length pg.seen.1], Zc TGuest]⟩ .nil ?_; clear S; intro ac w β S
  refine RG.done rfl (nx_then (wp_seq (RG.start ?_)))
  refine S.q 2 [1, 2, 12] 2 ⟨[(1, .p 0 0), (2, .p 1 0), (12, .v (slv (g.live).length pg.live.1))], [[slv (g.prog).length q1.1, I g.acc, I g.pc, slv (g.written).length q5.1, slv (g.live).length pg.live.1, I g.ctl.traps, I g.ctl.post, B g.ctl.opn, I g.pend, I g.exit.kind, I g.exit.page, B g.exit.wr, I g.exit.n, B g.halted, slv (g.seen).length pg.seen.1], Zc TGuest]⟩ .nil ?_; clear S; intro ac w β S
  refine RG.op rfl (S.call1 (r := g.live) (d := 13) (c_impl_copyTable w g.live pg.live (S.rd (RGuest.live (d := g) (S.arg hg)))) (by kernel_rfl) rfl ?_)
  clear S; intro ac w N q10 F11 S up o12 d13
  have d14 : Disj F2 F11 := fun b x y => d13 b (o3.sub b x) y
  have d15 : Disj F6 F11 := fun b x y => d13 b (o7.sub b x) y
  replace o3 := o3.up up
  replace o7 := o7.up up
  clear up d13
  refine S.q 2 [1, 2] 2 ⟨[(1, .p 0 0), (2, .p 1 0)], [[slv (g.prog).length q1.1, I g.acc, I g.pc, slv (g.written).length q5.1, slv (g.live).length q10.1, I g.ctl.traps, I g.ctl.post, B g.ctl.opn, I g.pend, I g.exit.kind, I g.exit.page, B g.exit.wr, I g.exit.n, B g.halted, slv (g.seen).length pg.seen.1], Zc TGuest]⟩ .nil ?_; clear S; intro ac w β S
  refine RG.done rfl (nx_then (wp_seq (RG.start ?_)))
  refine S.q 2 [1, 2, 16] 2 ⟨[(1, .p 0 0), (2, .p 1 0), (16, .v (slv (g.seen).length pg.seen.1))], [[slv (g.prog).length q1.1, I g.acc, I g.pc, slv (g.written).length q5.1, slv (g.live).length q10.1, I g.ctl.traps, I g.ctl.post, B g.ctl.opn, I g.pend, I g.exit.kind, I g.exit.page, B g.exit.wr, I g.exit.n, B g.halted, slv (g.seen).length pg.seen.1], Zc TGuest]⟩ .nil ?_; clear S; intro ac w β S
  refine RG.op rfl (S.call1 (r := g.seen) (d := 17) (c_impl_copyInts w g.seen pg.seen (S.rd (RGuest.seen (d := g) (S.arg hg)))) (by kernel_rfl) rfl ?_)
  clear S; intro ac w N q16 F17 S up o18 d19
  have d20 : Disj F2 F17 := fun b x y => d19 b (o3.sub b x) y
  have d21 : Disj F6 F17 := fun b x y => d19 b (o7.sub b x) y
  have d22 : Disj F11 F17 := fun b x y => d19 b (o12.sub b x) y
  replace o3 := o3.up up
  replace o7 := o7.up up
  replace o12 := o12.up up
  clear up d19
  refine S.q 2 [1, 2] 2 ⟨[(1, .p 0 0), (2, .p 1 0)], [[slv (g.prog).length q1.1, I g.acc, I g.pc, slv (g.written).length q5.1, slv (g.live).length q10.1, I g.ctl.traps, I g.ctl.post, B g.ctl.opn, I g.pend, I g.exit.kind, I g.exit.page, B g.exit.wr, I g.exit.n, B g.halted, slv (g.seen).length q16.1], Zc TGuest]⟩ .nil ?_; clear S; intro ac w β S
  refine RG.done rfl (nx_then (wp_seq (RG.start ?_)))
  refine S.q 2 [2] 2 ⟨[(2, .p 1 0)], [[slv (g.prog).length q1.1, I g.acc, I g.pc, slv (g.written).length q5.1, slv (g.live).length q10.1, I g.ctl.traps, I g.ctl.post, B g.ctl.opn, I g.pend, I g.exit.kind, I g.exit.page, B g.exit.wr, I g.exit.n, B g.halted, slv (g.seen).length q16.1], [slv (g.prog).length q1.1, I g.acc, I g.pc, slv (g.written).length q5.1, slv (g.live).length q10.1, I g.ctl.traps, I g.ctl.post, B g.ctl.opn, I g.pend, I g.exit.kind, I g.exit.page, B g.exit.wr, I g.exit.n, B g.halted, slv (g.seen).length q16.1]]⟩ .nil ?_; clear S; intro ac w β S
  refine RG.done rfl (nx_then (wp_ret ?_))
  refine S.r [GT.val (⟨g.prog, g.acc, g.pc, g.written, g.live, g.ctl, g.pend, g.exit, g.halted, g.seen⟩ : TGuest) (⟨q1, q5, q10, q16⟩ : PGuest)] ?_
  have o23 := ow_Guest (x := (⟨g.prog, g.acc, g.pc, g.written, g.live, g.ctl, g.pend, g.exit, g.halted, g.seen⟩ : TGuest)) (p := (⟨q1, q5, q10, q16⟩ : PGuest)) o3 o7 o12 o18 d9 d14 d20 d15 d21 d22 (RGuest.acc (d := g) (S.arg hg)) (RGuest.pc (d := g) (S.arg hg)) (RGuest.ctl (d := g) (S.arg hg)) (RGuest.pend (d := g) (S.arg hg)) (RGuest.exit (d := g) (S.arg hg))
  exact ret1_of S (show g = (⟨g.prog, g.acc, g.pc, g.written, g.live, g.ctl, g.pend, g.exit, g.halted, g.seen⟩ : TGuest) by clear S; (first | rfl | simp)) rfl o23

set_option maxRecDepth 100000 in
theorem c_impl_copyGuests (w0 : World) (l : List TGuest) (pl : LP TGuest) (hl : GT.rd KK (Lt w0.heap.size) w0 l pl) : Calls Try.prog 90 [slv (l).length pl.1].toArray w0 (Ret1 NoB w0 (l : List TGuest)) := by
  refine Calls.walk (args := [slv (l).length pl.1]) NoB Try.func90 rfl rfl ?_
  intro ac β S
  have hlel : l.length ≤ 4194304 := LRd.le hl
  refine wp_seq (RG.start ?_)
  refine S.q 1 [0] 0 ⟨[(0, .v (slv (l).length pl.1))], []⟩ .nil ?_; clear S; intro ac w β S
  refine RG.done rfl (nx_then (wp_seq (RG.start ?_)))
  refine RG.op rfl (S.bs0 (α := TGuest) (d := 6) (by kernel_rfl) ?_)
  clear S; intro ac w N q1 F2 S up o3 d4
  clear up d4
  refine S.q 1 [0, 3] 0 ⟨[(0, .v (slv (l).length pl.1)), (3, .v (slv 0 q1.1))], []⟩ .nil ?_; clear S; intro ac w β S
  refine RG.done rfl (nx_then (wp_seq (wp_seq (RG.start ?_))))
  refine S.q 3 [3, 7, 8, 9] 0 ⟨[(3, .v (slv 0 q1.1)), (7, .v (slv (l).length pl.1)), (8, .v (I ((l).length : Int))), (9, .v (I 0))], []⟩ .nil ?_; clear S; intro ac w β S
  refine RG.done rfl (nx_then (wp_block ?_))
  replace S := S.p [3, 7, 8, 9] 0 ⟨[(3, .v (slv 0 q1.1)), (7, .v (slv (l).length pl.1)), (8, .v (I ((l).length : Int))), (9, .v (I 0))], []⟩
  refine wp_loop_down (fun mm ac w => ∃ (k : Nat) (acc : List TGuest) (q5 : GT.Ptr (List TGuest)) (F6 : Bl) (u : World) (N : Bl) (β : Nat → Nat), mm = (l).length - k ∧ (k ≤ (l).length) ∧ (acc = (l).take k) ∧ St Try.prog Try.f90.ntmps w0 NoB u N β ⟨[(3, .v (slv (acc).length q5.1)), (7, .v (slv (l).length pl.1)), (8, .v (I ((l).length : Int))), (9, .v (I (k : Int)))], []⟩ ac w ∧ Ow w0 NoB u N F6 acc q5) _ ⟨0, ([] : List TGuest), q1, F2, _, _, _, rfl, (by first | omega | (simp; done) | (simp; omega)), (by simp), S.cast (by kernel_rfl), o3⟩ ?_
  clear S o3
  rintro mm ac w ⟨k, acc, q5, F6, u, N, β, rfl, hk, hacc, S, o7⟩
  have hlacc : acc.length = k := by rw [hacc]; simp; omega
  refine wp_seq (RG.start ?_)
  refine S.q 1 [3, 7, 8, 9, 10] 0 ⟨[(3, .v (slv (acc).length q5.1)), (7, .v (slv (l).length pl.1)), (8, .v (I ((l).length : Int))), (9, .v (I (k : Int))), (10, .v (B (decide ((k : Int) < ((l).length : Int)))))], []⟩ .nil ?_; clear S; intro ac w β S
  refine RG.done rfl (nx_then (wp_seq ?_))
  refine S.c (decide ((k : Int) < ((l).length : Int))) (fun h8 => ?_) (fun h8 => ?_)
  · have g9 : (k : Int) < ((l).length : Int) := of_decide_eq_true h8
    refine wp_skip (nx_then (wp_seq (wp_block (wp_seq (RG.start ?_)))))
    refine S.q 4 [3, 5, 7, 8, 9] 1 ⟨[(3, .v (slv (acc).length q5.1)), (5, .p 0 0), (7, .v (slv (l).length pl.1)), (8, .v (I ((l).length : Int))), (9, .v (I (k : Int)))], [GT.cells (el l k) (pl.2 k)]⟩ (.cons (Q_idx (S.arg hl) (l := (l).length) (k := k) (i := (k : Int)) rfl rfl (by omega) Try.underlying43 (by kernel_rfl)) (.cons (Q_el (S.arg hl) (t := 127) (k := k) (by omega) rfl (by kernel_rfl) (by kernel_rfl)) .nil)) ?_; clear S; intro ac w β S
    refine RG.done rfl (nx_then (RG.start ?_))
    refine S.q 2 [7, 8, 9, 13, 14] 0 ⟨[(7, .v (slv (l).length pl.1)), (8, .v (I ((l).length : Int))), (9, .v (I (k : Int))), (13, .v (slv (acc).length q5.1)), (14, .v (GT.val (el l k) (pl.2 k)))], []⟩ .nil ?_; clear S; intro ac w β S
    refine RG.op rfl (S.call1 (r := (el l k)) (d := 15) (c_impl_copyGuest w (el l k) (pl.2 k) (S.rd (LRd.el (S.arg hl) k (by omega)))) (by kernel_rfl) rfl ?_)
    clear S; intro ac w N q10 F11 S up o12 d13
    have d14 : Disj F6 F11 := fun b x y => d13 b (o7.sub b x) y
    replace o7 := o7.up up
    clear up d13
    have i18 : In64 (el l k).acc := RGuest.acc (d := (el l k)) o12.rn
    have i19 : In64 (el l k).pc := RGuest.pc (d := (el l k)) o12.rn
    have i26 : RCtl (el l k).ctl := RGuest.ctl (d := (el l k)) o12.rn
    have i27 : In64 (el l k).pend := RGuest.pend (d := (el l k)) o12.rn
    have i28 : RExit (el l k).exit := RGuest.exit (d := (el l k)) o12.rn
    obtain ⟨F15, F20, F23, F29, o16, o21, o24, o30, s17, s22, s25, s31, d32, d33, d34, d35, d36, d37⟩ := sp_Guest o12
    have o42 := ow_Guest (x := (el l k)) (p := q10) o16 o21 o24 o30 d32 d33 d34 d35 d36 d37 i18 i19 i26 i27 i28
    refine RG.op rfl (S.bs1 (α := TGuest) (x := (el l k)) (p := q10) o42.own o42.sub o42.young (d := 16) (by kernel_rfl) ?_)
    clear S; intro ac w N q38 F39 S up o40 d41
    have d43 : Disj F6 F39 := d41 _ (Disj.symm (Disj.or (Disj.part (Disj.symm d14) s17) (Disj.or (Disj.part (Disj.symm d14) s22) (Disj.or (Disj.part (Disj.symm d14) s25) (Disj.or (Disj.part (Disj.symm d14) s31) Disj.nob))))) o7.sub
    replace o7 := o7.up up
    clear up d41
    refine RG.op rfl (S.appOwn (α := TGuest) o7 o40 d43 (by' := 184) (d := 17) (lx := (acc).length) (ly := 1) rfl rfl (by kernel_rfl) (show _ ≤ 4194304 by simp only [List.length_append, List.length_cons, List.length_nil]; omega) ?_)
    clear S; intro ac w N q44 F45 S up o46 d47
    clear up d47
    refine S.q 1 [3, 7, 8, 9] 0 ⟨[(3, .v (slv ((acc ++ [(el l k)])).length q44.1)), (7, .v (slv (l).length pl.1)), (8, .v (I ((l).length : Int))), (9, .v (I (k : Int)))], []⟩ .nil ?_; clear S; intro ac w β S
    refine RG.done rfl (nx_block (nx_then (RG.start ?_)))
    refine S.q 2 [3, 7, 8, 9] 0 ⟨[(3, .v (slv ((acc ++ [(el l k)])).length q44.1)), (7, .v (slv (l).length pl.1)), (8, .v (I ((l).length : Int))), (9, .v (I ((k : Int) + 1)))], []⟩ (.cons (Q_add (x := (k : Int)) (y := 1) ⟨by omega, by omega⟩) .nil) ?_; clear S; intro ac w β S
    refine RG.done rfl (nx_then ?_)
    replace S := S.p [3, 7, 8, 9] 0 ⟨[(3, .v (slv ((acc ++ [(el l k)])).length q44.1)), (7, .v (slv (l).length pl.1)), (8, .v (I ((l).length : Int))), (9, .v (I ((k : Int) + 1)))], []⟩
    refine ⟨(l).length - (k + 1), by omega, k + 1, (acc ++ [(el l k)]), q44, F45, _, _, _, rfl, ?_, ?_, S.cast (by kernel_rfl), o46⟩
    · clear S; first | omega | (simp [*]; done) | (simp [*]; omega)
    · clear S; (first | (rw [take_el (by omega), hacc]; done) | (rw [take_el (by omega), hacc]; simp; done))
  · have g48 : ¬ ((k : Int) < ((l).length : Int)) := of_decide_eq_false h8
    refine wp_exit (ex_then (ex_then (ex_hit (nx_then (wp_seq (RG.start ?_))))))
    refine S.q 2 [2] 0 ⟨[(2, .v (slv (acc).length q5.1))], []⟩ .nil ?_; clear S; intro ac w β S
    refine RG.done rfl (nx_then (wp_ret ?_))
    refine S.r [slv (acc).length q5.1] ?_
    exact ret1_of S (show l = acc by clear S; (rw [hacc, take_all (by omega)])) rfl o7

set_option maxRecDepth 100000 in
theorem c_impl_copyKept (w0 : World) (k : TKept) (pk : PKept) (hk : GT.rd KK (Lt w0.heap.size) w0 k pk) : Calls Try.prog 92 [GT.val k pk].toArray w0 (Ret1 NoB w0 (k : TKept)) := by
  refine Calls.walk (args := [GT.val k pk]) NoB Try.func92 rfl rfl ?_
  intro ac β S
  have hlek_known : k.known.length ≤ 4194304 := LRd.le (RKept.known (d := k) hk)
  have hlek_slots : k.slots.length ≤ 4194304 := LRd.le (RKept.slots (d := k) hk)
  refine wp_seq (RG.start ?_)
  refine S.q 2 [1, 2] 2 ⟨[(1, .p 0 0), (2, .p 1 0)], [GT.cells k pk, Zc TKept]⟩ .nil ?_; clear S; intro ac w β S
  refine RG.done rfl (nx_then (wp_seq ?_))
  refine S.draw0 (f := 9) 8 rfl rfl ?_
  clear S; intro w S
  refine S.hoist (i := 1) (path := [1]) (keep := [1, 2, 4]) (m := 2) (σ' := ⟨[(1, .p 0 0), (2, .p 1 0), (4, .p 0 0)], [GT.cells k pk, Zc TKept]⟩) (by kernel_rfl) (by kernel_rfl) .nil (by kernel_rfl) ?_
  clear S; intro ac S
  refine S.hoist (i := 2) (path := [2]) (keep := [1, 2, 5]) (m := 2) (σ' := ⟨[(1, .p 0 0), (2, .p 1 0), (5, .v (slv (k.known).length pk.known.1))], [GT.cells k pk, Zc TKept]⟩) (by kernel_rfl) (by kernel_rfl) .nil (by kernel_rfl) ?_
  clear S; intro ac S
  refine S.hoist (i := 4) (path := [4]) (keep := [2, 5, 7]) (m := 2) (σ' := ⟨[(2, .p 1 0), (5, .v (slv (k.known).length pk.known.1)), (7, .p 0 1)], [GT.cells k pk, Zc TKept]⟩) (by kernel_rfl) (by kernel_rfl) .nil (by kernel_rfl) ?_
  clear S; intro ac S
  refine S.hoist (i := 5) (path := [5]) (keep := [2, 5, 8]) (m := 2) (σ' := ⟨[(2, .p 1 0), (5, .v (slv (k.known).length pk.known.1)), (8, .v (slv (k.slots).length pk.slots.1))], [GT.cells k pk, Zc TKept]⟩) (by kernel_rfl) (by kernel_rfl) .nil (by kernel_rfl) ?_
  clear S; intro ac S
  refine WD.one (i := 0) (by kernel_rfl) ?_
  refine id (S.bs0 (α := Bool) (d := 3) (by kernel_rfl) ?_)
  clear S; intro ac w N q1 F2 S up o3 d4
  have hb5 := fun b h => (⟨(up b h).1, (up b h).2, d4 b h⟩ : _ ∧ _ ∧ _)
  refine WD.keep S up rfl ?_
  clear up d4
  refine WD.one (i := 3) (by kernel_rfl) ?_
  have b10 : (k.known).length ≤ 4194304 := LRd.le (RKept.known (d := k) (S.arg hk))
  refine id (S.appFlat (α := Bool) o3 ((RKept.known (d := k) (S.arg hk))) (fun _ _ h => h) (by' := 1) (d := 6) (lx := 0) (ly := (k.known).length) rfl rfl (by kernel_rfl) (show _ ≤ 4194304 by simp only [List.length_append, List.length_cons, List.length_nil]; omega) ?_)
  clear S; intro ac w N q6 F7 S up o8 d9
  have hb11 := fun b h => (⟨(up b (hb5 b h).1 (hb5 b h).2.2).1, (up b (hb5 b h).1 (hb5 b h).2.2).2.trans (hb5 b h).2.1⟩ : _ ∧ _)
  refine WD.next S hb11 rfl ?_
  clear up d9
  refine WD.one (i := 6) (by kernel_rfl) ?_
  refine id (S.call1 (r := k.slots) (d := 9) (c_impl_copyTable w k.slots pk.slots (S.rd (RKept.slots (d := k) (S.arg hk)))) (by kernel_rfl) rfl ?_)
  clear S; intro ac w N q12 F13 S up o14 d15
  refine WD.next S up rfl ?_
  have d16 : Disj F7 F13 := fun b x y => d15 b (o8.sub b x) y
  replace o8 := o8.up up
  clear up d15
  refine S.hoist (i := 7) (path := [7]) (keep := [2, 10]) (m := 2) (σ' := ⟨[(2, .p 1 0), (10, .v (GT.val (⟨(([] : List Bool) ++ k.known), k.slots⟩ : TKept) (⟨q6, q12⟩ : PKept)))], [GT.cells k pk, Zc TKept]⟩) (by kernel_rfl) (by kernel_rfl) (.cons (Q_sem (s := Instr.build 101 [(0, slv ((([] : List Bool) ++ k.known)).length q6.1), (1, slv (k.slots).length q12.1)].toArray) (v := .agg [slv ((([] : List Bool) ++ k.known)).length q6.1, slv (k.slots).length q12.1].toArray) (fun w => by kernel_rfl)) .nil) (by kernel_rfl) ?_
  clear S; intro ac S
  refine WD.one (i := 8) (by kernel_rfl) ?_
  refine S.stepq (i := 8) (keep := [2]) (m := 2) (σ' := ⟨[(2, .p 1 0)], [GT.cells k pk, [slv ((([] : List Bool) ++ k.known)).length q6.1, slv (k.slots).length q12.1]]⟩) .nil (by kernel_rfl) ?_
  clear S; intro ac w β S hβ
  refine WD.last (by kernel_rfl) ?_
  clear hβ
  refine WD.done (by kernel_rfl) ?_ _
  replace S := S.p [2] 2 ⟨[(2, .p 1 0)], [GT.cells k pk, [slv ((([] : List Bool) ++ k.known)).length q6.1, slv (k.slots).length q12.1]]⟩
  refine id (nx_then (wp_ret ?_))
  refine S.r [GT.val (⟨(([] : List Bool) ++ k.known), k.slots⟩ : TKept) (⟨q6, q12⟩ : PKept)] ?_
  have o17 := ow_Kept (x := (⟨(([] : List Bool) ++ k.known), k.slots⟩ : TKept)) (p := (⟨q6, q12⟩ : PKept)) o8 o14 d16 
  exact ret1_of S (show k = (⟨(([] : List Bool) ++ k.known), k.slots⟩ : TKept) by clear S; (first | rfl | simp)) rfl o17

set_option maxRecDepth 100000 in
theorem c_impl_copyMon (w0 : World) (m : TMon) (pm : PMon) (hm : GT.rd KK (Lt w0.heap.size) w0 m pm) : Calls Try.prog 51 [GT.val m pm].toArray w0 (Ret1 NoB w0 (m : TMon)) := by
  refine Calls.walk (args := [GT.val m pm]) NoB Try.func51 rfl rfl ?_
  intro ac β S
  have hlem_outer : m.outer.length ≤ 4194304 := LRd.le (RMon.outer (d := m) hm)
  have hlem_out : m.out.length ≤ 4194304 := LRd.le (RMon.out (d := m) hm)
  have hlem_dirty : m.dirty.length ≤ 4194304 := LRd.le (RMon.dirty (d := m) hm)
  have hlem_guests : m.guests.length ≤ 4194304 := LRd.le (RMon.guests (d := m) hm)
  have hlem_outs : m.outs.length ≤ 4194304 := LRd.le (RMon.outs (d := m) hm)
  have hlem_tables : m.tables.length ≤ 4194304 := LRd.le (RMon.tables (d := m) hm)
  refine wp_seq (RG.start ?_)
  refine S.q 2 [1, 2] 2 ⟨[(1, .p 0 0), (2, .p 1 0)], [GT.cells m pm, Zc TMon]⟩ .nil ?_; clear S; intro ac w β S
  refine RG.done rfl (nx_then (wp_seq (RG.start ?_)))
  refine S.q 2 [1, 2, 7] 2 ⟨[(1, .p 0 0), (2, .p 1 0), (7, .v (slv (m.outer).length pm.outer.1))], [GT.cells m pm, Zc TMon]⟩ .nil ?_; clear S; intro ac w β S
  refine RG.op rfl (S.call1 (r := m.outer) (d := 8) (c_impl_copyTable w m.outer pm.outer (S.rd (RMon.outer (d := m) (S.arg hm)))) (by kernel_rfl) rfl ?_)
  clear S; intro ac w N q1 F2 S up o3 d4
  clear up d4
  refine S.q 2 [1, 2] 2 ⟨[(1, .p 0 0), (2, .p 1 0)], [[slv (m.outer).length q1.1, slv (m.out).length pm.out.1, slv (m.dirty).length pm.dirty.1, slv (m.guests).length pm.guests.1, slv (m.outs).length pm.outs.1, I m.pend, I m.traps, slv (m.tables).length pm.tables.1, I m.owned], Zc TMon]⟩ .nil ?_; clear S; intro ac w β S
  refine RG.done rfl (nx_then (wp_seq (RG.start ?_)))
  refine S.q 2 [1, 2, 11] 2 ⟨[(1, .p 0 0), (2, .p 1 0), (11, .v (slv (m.out).length pm.out.1))], [[slv (m.outer).length q1.1, slv (m.out).length pm.out.1, slv (m.dirty).length pm.dirty.1, slv (m.guests).length pm.guests.1, slv (m.outs).length pm.outs.1, I m.pend, I m.traps, slv (m.tables).length pm.tables.1, I m.owned], Zc TMon]⟩ .nil ?_; clear S; intro ac w β S
  refine RG.op rfl (S.call1 (r := m.out) (d := 12) (c_impl_copyMem w m.out pm.out (S.rd (RMon.out (d := m) (S.arg hm)))) (by kernel_rfl) rfl ?_)
  clear S; intro ac w N q5 F6 S up o7 d8
  have d9 : Disj F2 F6 := fun b x y => d8 b (o3.sub b x) y
  replace o3 := o3.up up
  clear up d8
  refine S.q 2 [1, 2] 2 ⟨[(1, .p 0 0), (2, .p 1 0)], [[slv (m.outer).length q1.1, slv (m.out).length q5.1, slv (m.dirty).length pm.dirty.1, slv (m.guests).length pm.guests.1, slv (m.outs).length pm.outs.1, I m.pend, I m.traps, slv (m.tables).length pm.tables.1, I m.owned], Zc TMon]⟩ .nil ?_; clear S; intro ac w β S
  refine RG.done rfl (nx_then (wp_seq (RG.start ?_)))
  refine RG.op rfl (S.bs0 (α := Bool) (d := 14) (by kernel_rfl) ?_)
  clear S; intro ac w N q10 F11 S up o12 d13
  have d14 : Disj F2 F11 := fun b x y => d13 b (o3.sub b x) y
  have d15 : Disj F6 F11 := fun b x y => d13 b (o7.sub b x) y
  replace o3 := o3.up up
  replace o7 := o7.up up
  clear up d13
  refine S.q 2 [1, 2, 14, 16] 2 ⟨[(1, .p 0 0), (2, .p 1 0), (14, .v (slv 0 q10.1)), (16, .v (slv (m.dirty).length pm.dirty.1))], [[slv (m.outer).length q1.1, slv (m.out).length q5.1, slv (m.dirty).length pm.dirty.1, slv (m.guests).length pm.guests.1, slv (m.outs).length pm.outs.1, I m.pend, I m.traps, slv (m.tables).length pm.tables.1, I m.owned], Zc TMon]⟩ .nil ?_; clear S; intro ac w β S
  have b20 : (m.dirty).length ≤ 4194304 := LRd.le (RMon.dirty (d := m) (S.arg hm))
  refine RG.op rfl (S.appFlat (α := Bool) o12 ((RMon.dirty (d := m) (S.arg hm))) (fun _ _ h => h) (by' := 1) (d := 17) (lx := 0) (ly := (m.dirty).length) rfl rfl (by kernel_rfl) (show _ ≤ 4194304 by simp only [List.length_append, List.length_cons, List.length_nil]; omega) ?_)
  clear S; intro ac w N q16 F17 S up o18 d19
  have d21 : Disj F2 F17 := d19 _ d14 o3.sub
  have d22 : Disj F6 F17 := d19 _ d15 o7.sub
  replace o3 := o3.upF d14 up
  replace o7 := o7.upF d15 up
  clear up d19
  refine S.q 2 [1, 2] 2 ⟨[(1, .p 0 0), (2, .p 1 0)], [[slv (m.outer).length q1.1, slv (m.out).length q5.1, slv ((([] : List Bool) ++ m.dirty)).length q16.1, slv (m.guests).length pm.guests.1, slv (m.outs).length pm.outs.1, I m.pend, I m.traps, slv (m.tables).length pm.tables.1, I m.owned], Zc TMon]⟩ .nil ?_; clear S; intro ac w β S
  refine RG.done rfl (nx_then (wp_seq (RG.start ?_)))
  refine S.q 2 [1, 2, 20] 2 ⟨[(1, .p 0 0), (2, .p 1 0), (20, .v (slv (m.guests).length pm.guests.1))], [[slv (m.outer).length q1.1, slv (m.out).length q5.1, slv ((([] : List Bool) ++ m.dirty)).length q16.1, slv (m.guests).length pm.guests.1, slv (m.outs).length pm.outs.1, I m.pend, I m.traps, slv (m.tables).length pm.tables.1, I m.owned], Zc TMon]⟩ .nil ?_; clear S; intro ac w β S
  refine RG.op rfl (S.call1 (r := m.guests) (d := 21) (c_impl_copyGuests w m.guests pm.guests (S.rd (RMon.guests (d := m) (S.arg hm)))) (by kernel_rfl) rfl ?_)
  clear S; intro ac w N q23 F24 S up o25 d26
  have d27 : Disj F2 F24 := fun b x y => d26 b (o3.sub b x) y
  have d28 : Disj F6 F24 := fun b x y => d26 b (o7.sub b x) y
  have d29 : Disj F17 F24 := fun b x y => d26 b (o18.sub b x) y
  replace o3 := o3.up up
  replace o7 := o7.up up
  replace o18 := o18.up up
  clear up d26
  refine S.q 2 [1, 2] 2 ⟨[(1, .p 0 0), (2, .p 1 0)], [[slv (m.outer).length q1.1, slv (m.out).length q5.1, slv ((([] : List Bool) ++ m.dirty)).length q16.1, slv (m.guests).length q23.1, slv (m.outs).length pm.outs.1, I m.pend, I m.traps, slv (m.tables).length pm.tables.1, I m.owned], Zc TMon]⟩ .nil ?_; clear S; intro ac w β S
  refine RG.done rfl (nx_then (wp_seq (RG.start ?_)))
  refine S.q 2 [1, 2, 24] 2 ⟨[(1, .p 0 0), (2, .p 1 0), (24, .v (slv (m.outs).length pm.outs.1))], [[slv (m.outer).length q1.1, slv (m.out).length q5.1, slv ((([] : List Bool) ++ m.dirty)).length q16.1, slv (m.guests).length q23.1, slv (m.outs).length pm.outs.1, I m.pend, I m.traps, slv (m.tables).length pm.tables.1, I m.owned], Zc TMon]⟩ .nil ?_; clear S; intro ac w β S
  refine RG.op rfl (S.call1 (r := m.outs) (d := 25) (c_impl_copyInts w m.outs pm.outs (S.rd (RMon.outs (d := m) (S.arg hm)))) (by kernel_rfl) rfl ?_)
  clear S; intro ac w N q30 F31 S up o32 d33
  have d34 : Disj F2 F31 := fun b x y => d33 b (o3.sub b x) y
  have d35 : Disj F6 F31 := fun b x y => d33 b (o7.sub b x) y
  have d36 : Disj F17 F31 := fun b x y => d33 b (o18.sub b x) y
  have d37 : Disj F24 F31 := fun b x y => d33 b (o25.sub b x) y
  replace o3 := o3.up up
  replace o7 := o7.up up
  replace o18 := o18.up up
  replace o25 := o25.up up
  clear up d33
  refine S.q 2 [1, 2] 2 ⟨[(1, .p 0 0), (2, .p 1 0)], [[slv (m.outer).length q1.1, slv (m.out).length q5.1, slv ((([] : List Bool) ++ m.dirty)).length q16.1, slv (m.guests).length q23.1, slv (m.outs).length q30.1, I m.pend, I m.traps, slv (m.tables).length pm.tables.1, I m.owned], Zc TMon]⟩ .nil ?_; clear S; intro ac w β S
  refine RG.done rfl (nx_then (wp_seq (RG.start ?_)))
  refine RG.op rfl (S.bs0 (α := TKept) (d := 27) (by kernel_rfl) ?_)
  clear S; intro ac w N q38 F39 S up o40 d41
  have d42 : Disj F2 F39 := fun b x y => d41 b (o3.sub b x) y
  have d43 : Disj F6 F39 := fun b x y => d41 b (o7.sub b x) y
  have d44 : Disj F17 F39 := fun b x y => d41 b (o18.sub b x) y
  have d45 : Disj F24 F39 := fun b x y => d41 b (o25.sub b x) y
  have d46 : Disj F31 F39 := fun b x y => d41 b (o32.sub b x) y
  replace o3 := o3.up up
  replace o7 := o7.up up
  replace o18 := o18.up up
  replace o25 := o25.up up
  replace o32 := o32.up up
  clear up d41
  refine S.q 1 [1, 2, 3] 2 ⟨[(1, .p 0 0), (2, .p 1 0), (3, .v (slv 0 q38.1))], [[slv (m.outer).length q1.1, slv (m.out).length q5.1, slv ((([] : List Bool) ++ m.dirty)).length q16.1, slv (m.guests).length q23.1, slv (m.outs).length q30.1, I m.pend, I m.traps, slv (m.tables).length pm.tables.1, I m.owned], Zc TMon]⟩ .nil ?_; clear S; intro ac w β S
  refine RG.done rfl (nx_then (wp_seq (wp_seq (RG.start ?_))))
  refine S.q 4 [1, 2, 3, 29, 30, 31] 2 ⟨[(1, .p 0 0), (2, .p 1 0), (3, .v (slv 0 q38.1)), (29, .v (slv (m.tables).length pm.tables.1)), (30, .v (I ((m.tables).length : Int))), (31, .v (I 0))], [[slv (m.outer).length q1.1, slv (m.out).length q5.1, slv ((([] : List Bool) ++ m.dirty)).length q16.1, slv (m.guests).length q23.1, slv (m.outs).length q30.1, I m.pend, I m.traps, slv (m.tables).length pm.tables.1, I m.owned], Zc TMon]⟩ .nil ?_; clear S; intro ac w β S
  refine RG.done rfl (nx_then (wp_block ?_))
  replace S := S.p [1, 2, 3, 29, 30, 31] 2 ⟨[(1, .p 0 0), (2, .p 1 0), (3, .v (slv 0 q38.1)), (29, .v (slv (m.tables).length pm.tables.1)), (30, .v (I ((m.tables).length : Int))), (31, .v (I 0))], [[slv (m.outer).length q1.1, slv (m.out).length q5.1, slv ((([] : List Bool) ++ m.dirty)).length q16.1, slv (m.guests).length q23.1, slv (m.outs).length q30.1, I m.pend, I m.traps, slv (m.tables).length pm.tables.1, I m.owned], Zc TMon]⟩
  refine wp_loop_down (fun mm ac w => ∃ (k : Nat) (acc : List TKept) (q47 : GT.Ptr (List TKept)) (F48 : Bl) (u : World) (N : Bl) (β : Nat → Nat), mm = (m.tables).length - k ∧ (k ≤ (m.tables).length) ∧ (acc = (m.tables).take k) ∧ St Try.prog Try.f51.ntmps w0 NoB u N β ⟨[(1, .p 0 0), (2, .p 1 0), (3, .v (slv (acc).length q47.1)), (29, .v (slv (m.tables).length pm.tables.1)), (30, .v (I ((m.tables).length : Int))), (31, .v (I (k : Int)))], [[slv (m.outer).length q1.1, slv (m.out).length q5.1, slv ((([] : List Bool) ++ m.dirty)).length q16.1, slv (m.guests).length q23.1, slv (m.outs).length q30.1, I m.pend, I m.traps, slv (m.tables).length pm.tables.1, I m.owned], Zc TMon]⟩ ac w ∧ Ow w0 NoB u N F48 acc q47 ∧ Ow w0 NoB u N F2 m.outer q1 ∧ Ow w0 NoB u N F6 m.out q5 ∧ Ow w0 NoB u N F17 (([] : List Bool) ++ m.dirty) q16 ∧ Ow w0 NoB u N F24 m.guests q23 ∧ Ow w0 NoB u N F31 m.outs q30 ∧ Disj F48 F2 ∧ Disj F48 F6 ∧ Disj F48 F17 ∧ Disj F48 F24 ∧ Disj F48 F31) _ ⟨0, ([] : List TKept), q38, F39, _, _, _, rfl, (by first | omega | (simp; done) | (simp; omega)), (by simp), S.cast (by kernel_rfl), o40, o3, o7, o18, o25, o32, (Disj.symm d42), (Disj.symm d43), (Disj.symm d44), (Disj.symm d45), (Disj.symm d46)⟩ ?_
  clear S o18 o25 o3 o32 o40 o7
  rintro mm ac w ⟨k, acc, q47, F48, u, N, β, rfl, hk, hacc, S, o49, o3, o7, o18, o25, o32, d50, d51, d52, d53, d54⟩
  have hlacc : acc.length = k := by rw [hacc]; simp; omega
  refine wp_seq (RG.start ?_)
  refine S.q 1 [1, 2, 3, 29, 30, 31, 32] 2 ⟨[(1, .p 0 0), (2, .p 1 0), (3, .v (slv (acc).length q47.1)), (29, .v (slv (m.tables).length pm.tables.1)), (30, .v (I ((m.tables).length : Int))), (31, .v (I (k : Int))), (32, .v (B (decide ((k : Int) < ((m.tables).length : Int)))))], [[slv (m.outer).length q1.1, slv (m.out).length q5.1, slv ((([] : List Bool) ++ m.dirty)).length q16.1, slv (m.guests).length q23.1, slv (m.outs).length q30.1, I m.pend, I m.traps, slv (m.tables).length pm.tables.1, I m.owned], Zc TMon]⟩ .nil ?_; clear S; intro ac w β S
  refine RG.done rfl (nx_then (wp_seq ?_))
  refine S.c (decide ((k : Int) < ((m.tables).length : Int))) (fun h55 => ?_) (fun h55 => ?_)
  · have g56 : (k : Int) < ((m.tables).length : Int) := of_decide_eq_true h55
    refine wp_skip (nx_then (wp_seq (wp_block (wp_seq (RG.start ?_)))))
    refine S.q 4 [1, 2, 3, 5, 29, 30, 31] 3 ⟨[(1, .p 0 0), (2, .p 1 0), (3, .v (slv (acc).length q47.1)), (5, .p 2 0), (29, .v (slv (m.tables).length pm.tables.1)), (30, .v (I ((m.tables).length : Int))), (31, .v (I (k : Int)))], [[slv (m.outer).length q1.1, slv (m.out).length q5.1, slv ((([] : List Bool) ++ m.dirty)).length q16.1, slv (m.guests).length q23.1, slv (m.outs).length q30.1, I m.pend, I m.traps, slv (m.tables).length pm.tables.1, I m.owned], Zc TMon, GT.cells (el m.tables k) (pm.tables.2 k)]⟩ (.cons (Q_idx (RMon.tables (d := m) (S.arg hm)) (l := (m.tables).length) (k := k) (i := (k : Int)) rfl rfl (by omega) Try.underlying44 (by kernel_rfl)) (.cons (Q_el (RMon.tables (d := m) (S.arg hm)) (t := 101) (k := k) (by omega) rfl (by kernel_rfl) (by kernel_rfl)) .nil)) ?_; clear S; intro ac w β S
    refine RG.done rfl (nx_then (RG.start ?_))
    refine S.q 2 [1, 2, 29, 30, 31, 35, 36] 2 ⟨[(1, .p 0 0), (2, .p 1 0), (29, .v (slv (m.tables).length pm.tables.1)), (30, .v (I ((m.tables).length : Int))), (31, .v (I (k : Int))), (35, .v (slv (acc).length q47.1)), (36, .v (GT.val (el m.tables k) (pm.tables.2 k)))], [[slv (m.outer).length q1.1, slv (m.out).length q5.1, slv ((([] : List Bool) ++ m.dirty)).length q16.1, slv (m.guests).length q23.1, slv (m.outs).length q30.1, I m.pend, I m.traps, slv (m.tables).length pm.tables.1, I m.owned], Zc TMon]⟩ .nil ?_; clear S; intro ac w β S
    refine RG.op rfl (S.call1 (r := (el m.tables k)) (d := 37) (c_impl_copyKept w (el m.tables k) (pm.tables.2 k) (S.rd (LRd.el (RMon.tables (d := m) (S.arg hm)) k (by omega)))) (by kernel_rfl) rfl ?_)
    clear S; intro ac w N q57 F58 S up o59 d60
    have d61 : Disj F48 F58 := fun b x y => d60 b (o49.sub b x) y
    have d62 : Disj F2 F58 := fun b x y => d60 b (o3.sub b x) y
    have d63 : Disj F6 F58 := fun b x y => d60 b (o7.sub b x) y
    have d64 : Disj F17 F58 := fun b x y => d60 b (o18.sub b x) y
    have d65 : Disj F24 F58 := fun b x y => d60 b (o25.sub b x) y
    have d66 : Disj F31 F58 := fun b x y => d60 b (o32.sub b x) y
    replace o49 := o49.up up
    replace o3 := o3.up up
    replace o7 := o7.up up
    replace o18 := o18.up up
    replace o25 := o25.up up
    replace o32 := o32.up up
    clear up d60
    obtain ⟨F67, F70, o68, o71, s69, s72, d73⟩ := sp_Kept o59
    have o78 := ow_Kept (x := (el m.tables k)) (p := q57) o68 o71 d73 
    refine RG.op rfl (S.bs1 (α := TKept) (x := (el m.tables k)) (p := q57) o78.own o78.sub o78.young (d := 38) (by kernel_rfl) ?_)
    clear S; intro ac w N q74 F75 S up o76 d77
    have d79 : Disj F48 F75 := d77 _ (Disj.symm (Disj.or (Disj.part (Disj.symm d61) s69) (Disj.or (Disj.part (Disj.symm d61) s72) Disj.nob))) o49.sub
    have d80 : Disj F2 F75 := d77 _ (Disj.symm (Disj.or (Disj.part (Disj.symm d62) s69) (Disj.or (Disj.part (Disj.symm d62) s72) Disj.nob))) o3.sub
    have d81 : Disj F6 F75 := d77 _ (Disj.symm (Disj.or (Disj.part (Disj.symm d63) s69) (Disj.or (Disj.part (Disj.symm d63) s72) Disj.nob))) o7.sub
    have d82 : Disj F17 F75 := d77 _ (Disj.symm (Disj.or (Disj.part (Disj.symm d64) s69) (Disj.or (Disj.part (Disj.symm d64) s72) Disj.nob))) o18.sub
    have d83 : Disj F24 F75 := d77 _ (Disj.symm (Disj.or (Disj.part (Disj.symm d65) s69) (Disj.or (Disj.part (Disj.symm d65) s72) Disj.nob))) o25.sub
    have d84 : Disj F31 F75 := d77 _ (Disj.symm (Disj.or (Disj.part (Disj.symm d66) s69) (Disj.or (Disj.part (Disj.symm d66) s72) Disj.nob))) o32.sub
    replace o49 := o49.up up
    replace o3 := o3.up up
    replace o7 := o7.up up
    replace o18 := o18.up up
    replace o25 := o25.up up
    replace o32 := o32.up up
    clear up d77
    refine RG.op rfl (S.appOwn (α := TKept) o49 o76 d79 (by' := 48) (d := 39) (lx := (acc).length) (ly := 1) rfl rfl (by kernel_rfl) (show _ ≤ 4194304 by simp only [List.length_append, List.length_cons, List.length_nil]; omega) ?_)
    clear S; intro ac w N q85 F86 S up o87 d88
    have d89 : Disj F2 F86 := d88 _ (Disj.symm d50) d80 o3.sub
    have d90 : Disj F6 F86 := d88 _ (Disj.symm d51) d81 o7.sub
    have d91 : Disj F17 F86 := d88 _ (Disj.symm d52) d82 o18.sub
    have d92 : Disj F24 F86 := d88 _ (Disj.symm d53) d83 o25.sub
    have d93 : Disj F31 F86 := d88 _ (Disj.symm d54) d84 o32.sub
    replace o3 := o3.upF (Disj.symm d50) up
    replace o7 := o7.upF (Disj.symm d51) up
    replace o18 := o18.upF (Disj.symm d52) up
    replace o25 := o25.upF (Disj.symm d53) up
    replace o32 := o32.upF (Disj.symm d54) up
    clear up d88
    refine S.q 1 [1, 2, 3, 29, 30, 31] 2 ⟨[(1, .p 0 0), (2, .p 1 0), (3, .v (slv ((acc ++ [(el m.tables k)])).length q85.1)), (29, .v (slv (m.tables).length pm.tables.1)), (30, .v (I ((m.tables).length : Int))), (31, .v (I (k : Int)))], [[slv (m.outer).length q1.1, slv (m.out).length q5.1, slv ((([] : List Bool) ++ m.dirty)).length q16.1, slv (m.guests).length q23.1, slv (m.outs).length q30.1, I m.pend, I m.traps, slv (m.tables).length pm.tables.1, I m.owned], Zc TMon]⟩ .nil ?_; clear S; intro ac w β S
    refine RG.done rfl (nx_block (nx_then (RG.start ?_)))
    refine S.q 2 [1, 2, 3, 29, 30, 31] 2 ⟨[(1, .p 0 0), (2, .p 1 0), (3, .v (slv ((acc ++ [(el m.tables k)])).length q85.1)), (29, .v (slv (m.tables).length pm.tables.1)), (30, .v (I ((m.tables).length : Int))), (31, .v (I ((k : Int) + 1)))], [[slv (m.outer).length q1.1, slv (m.out).length q5.1, slv ((([] : List Bool) ++ m.dirty)).length q16.1, slv (m.guests).length q23.1, slv (m.outs).length q30.1, I m.pend, I m.traps, slv (m.tables).length pm.tables.1, I m.owned], Zc TMon]⟩ (.cons (Q_add (x := (k : Int)) (y := 1) ⟨by omega, by omega⟩) .nil) ?_; clear S; intro ac w β S
    refine RG.done rfl (nx_then ?_)
    replace S := S.p [1, 2, 3, 29, 30, 31] 2 ⟨[(1, .p 0 0), (2, .p 1 0), (3, .v (slv ((acc ++ [(el m.tables k)])).length q85.1)), (29, .v (slv (m.tables).length pm.tables.1)), (30, .v (I ((m.tables).length : Int))), (31, .v (I ((k : Int) + 1)))], [[slv (m.outer).length q1.1, slv (m.out).length q5.1, slv ((([] : List Bool) ++ m.dirty)).length q16.1, slv (m.guests).length q23.1, slv (m.outs).length q30.1, I m.pend, I m.traps, slv (m.tables).length pm.tables.1, I m.owned], Zc TMon]⟩
    refine ⟨(m.tables).length - (k + 1), by omega, k + 1, (acc ++ [(el m.tables k)]), q85, F86, _, _, _, rfl, ?_, ?_, S.cast (by kernel_rfl), o87, o3, o7, o18, o25, o32, (Disj.symm d89), (Disj.symm d90), (Disj.symm d91), (Disj.symm d92), (Disj.symm d93)⟩
    · clear S; first | omega | (simp [*]; done) | (simp [*]; omega)
    · clear S; (first | (rw [take_el (by omega), hacc]; done) | (rw [take_el (by omega), hacc]; simp; done))
  · have g94 : ¬ ((k : Int) < ((m.tables).length : Int)) := of_decide_eq_false h55
    refine wp_exit (ex_then (ex_then (ex_hit (nx_then (wp_seq (RG.start ?_))))))
    refine S.q 3 [1, 2] 2 ⟨[(1, .p 0 0), (2, .p 1 0)], [[slv (m.outer).length q1.1, slv (m.out).length q5.1, slv ((([] : List Bool) ++ m.dirty)).length q16.1, slv (m.guests).length q23.1, slv (m.outs).length q30.1, I m.pend, I m.traps, slv (acc).length q47.1, I m.owned], Zc TMon]⟩ .nil ?_; clear S; intro ac w β S
    refine RG.done rfl (nx_then (wp_seq (RG.start ?_)))
    refine S.q 2 [2] 2 ⟨[(2, .p 1 0)], [[slv (m.outer).length q1.1, slv (m.out).length q5.1, slv ((([] : List Bool) ++ m.dirty)).length q16.1, slv (m.guests).length q23.1, slv (m.outs).length q30.1, I m.pend, I m.traps, slv (acc).length q47.1, I m.owned], [slv (m.outer).length q1.1, slv (m.out).length q5.1, slv ((([] : List Bool) ++ m.dirty)).length q16.1, slv (m.guests).length q23.1, slv (m.outs).length q30.1, I m.pend, I m.traps, slv (acc).length q47.1, I m.owned]]⟩ .nil ?_; clear S; intro ac w β S
    refine RG.done rfl (nx_then (wp_ret ?_))
    refine S.r [GT.val (⟨m.outer, m.out, (([] : List Bool) ++ m.dirty), m.guests, m.outs, m.pend, m.traps, acc, m.owned⟩ : TMon) (⟨q1, q5, q16, q23, q30, q47⟩ : PMon)] ?_
    have o95 := ow_Mon (x := (⟨m.outer, m.out, (([] : List Bool) ++ m.dirty), m.guests, m.outs, m.pend, m.traps, acc, m.owned⟩ : TMon)) (p := (⟨q1, q5, q16, q23, q30, q47⟩ : PMon)) o3 o7 o18 o25 o32 o49 d9 d21 d27 d34 (Disj.symm d50) d22 d28 d35 (Disj.symm d51) d29 d36 (Disj.symm d52) d37 (Disj.symm d53) (Disj.symm d54) (RMon.pend (d := m) (S.arg hm)) (RMon.traps (d := m) (S.arg hm)) (RMon.owned (d := m) (S.arg hm))
    exact ret1_of S (show m = (⟨m.outer, m.out, (([] : List Bool) ++ m.dirty), m.guests, m.outs, m.pend, m.traps, acc, m.owned⟩ : TMon) by clear S; (first | rfl | (rw [hacc, take_all (by omega)]; simp; done) | simp)) rfl o95

end Go.Proofs.Ytacgkoohinlhjaa
