/- The walks: what each function that the laws reach computes (part 3). -/
import Derived.Test.YtacgkoohinlhjaaW2
import Derived.Test.YtacgkoohinlhjaaProg
import Derived.KernelRfl
namespace Go.Proofs.Ytacgkoohinlhjaa
open Go
set_option linter.unusedVariables false
set_option linter.unusedSimpArgs false

set_option maxRecDepth 100000 in
theorem c_impl_copyHost (w0 : World) (h : THost) (ph : PHost) (hh : GT.rd KK (Lt w0.heap.size) w0 h ph) : Calls Try.prog 49 [GT.val (α := THost) h ph].toArray w0 (Ret1 NoB w0 (h : THost)) := by
  refine Calls.walk (args := [GT.val (α := THost) h ph]) NoB Try.func49 rfl rfl ?_
  intro ac β S
  have hleh_mem : h.mem.length ≤ 4194304 := LRd.le (RHost.mem (d := h) hh)
  have hleh_mons : h.mons.length ≤ 4194304 := LRd.le (RHost.mons (d := h) hh)
  have hleh_buf : h.buf.length ≤ 4194304 := LRd.le (RHost.buf (d := h) hh)
  have hleh_iobuf : h.iobuf.length ≤ 4194304 := LRd.le (RHost.iobuf (d := h) hh)
  refine wp_seq ?_
  refine RG.start ?_
  refine S.quiet (k := 2) (keep := [1, 2]) (m := 2) (σ' := ⟨[(1, .p 0 0), (2, .p 1 0)], [GT.cells (α := THost) h ph, Zc THost]⟩) .nil (by kernel_rfl) ?_
  clear S; intro ac w β S
  refine RG.done rfl (nx_then ?_)
  refine wp_seq ?_
  replace S := S.prune (keep := [1, 2]) (m := 2) (σ' := ⟨[(1, .p 0 0), (2, .p 1 0)], [GT.cells (α := THost) h ph, Zc THost]⟩) (by kernel_rfl)
  obtain ⟨u0, N0, β0, S⟩ : ∃ (u0 : World) (N0 : Bl) (β0 : Nat → Nat), St Try.prog Try.f49.ntmps w0 NoB u0 N0 β0 ⟨[(1, .p 0 0), (2, .p 1 0)], [GT.cells (α := THost) h ph, Zc THost]⟩ ac w := ⟨_, _, _, S.cast (by kernel_rfl)⟩
  refine wp_region_cut (fun ac w => ∃ (q91 : GT.Ptr (List TEntry)) (F92 : Bl) (q94 : GT.Ptr (List TEntry)) (F95 : Bl) (q88 : GT.Ptr (List (List Int))) (F89 : Bl) (u : World) (N : Bl) (β : Nat → Nat), St Try.prog Try.f49.ntmps w0 NoB u N β ⟨[(1, .p 0 0), (2, .p 1 0), (3, .p 2 0)], [GT.cells (α := THost) h ph, Zc THost, [slv (h.mem).length q88.1, slv (([] : List TMon)).length (GT.pdflt (α := List TMon)).1, slv ((([] : List TEntry) ++ h.buf)).length q91.1, slv ((([] : List TEntry) ++ h.iobuf)).length q94.1]]⟩ ac w ∧ Ow w0 NoB u N F92 (([] : List TEntry) ++ h.buf) q91 ∧ Ow w0 NoB u N F95 (([] : List TEntry) ++ h.iobuf) q94 ∧ Ow w0 NoB u N F89 h.mem q88 ∧ Disj F92 F95 ∧ Disj F92 F89 ∧ Disj F95 F89) ?_ ?_
  · refine S.draw0 (f := 14) 13 rfl rfl ?_
    clear S; intro w S
    refine S.hoist (i := 0) (path := [0]) (keep := [1, 2, 6]) (m := 2) (σ' := ⟨[(1, .p 0 0), (2, .p 1 0), (6, .p 0 0)], [GT.cells (α := THost) h ph, Zc THost]⟩) (by kernel_rfl) (by kernel_rfl) .nil (by kernel_rfl) ?_
    clear S; intro ac S
    refine S.hoist (i := 1) (path := [1]) (keep := [1, 2, 7]) (m := 2) (σ' := ⟨[(1, .p 0 0), (2, .p 1 0), (7, .v (slv (h.mem).length ph.mem.1))], [GT.cells (α := THost) h ph, Zc THost]⟩) (by kernel_rfl) (by kernel_rfl) .nil (by kernel_rfl) ?_
    clear S; intro ac S
    refine S.hoist (i := 4) (path := [4]) (keep := [1, 2, 7, 10]) (m := 2) (σ' := ⟨[(1, .p 0 0), (2, .p 1 0), (7, .v (slv (h.mem).length ph.mem.1)), (10, .p 0 2)], [GT.cells (α := THost) h ph, Zc THost]⟩) (by kernel_rfl) (by kernel_rfl) .nil (by kernel_rfl) ?_
    clear S; intro ac S
    refine S.hoist (i := 5) (path := [5]) (keep := [1, 2, 7, 11]) (m := 2) (σ' := ⟨[(1, .p 0 0), (2, .p 1 0), (7, .v (slv (h.mem).length ph.mem.1)), (11, .v (slv (h.buf).length ph.buf.1))], [GT.cells (α := THost) h ph, Zc THost]⟩) (by kernel_rfl) (by kernel_rfl) .nil (by kernel_rfl) ?_
    clear S; intro ac S
    refine S.hoist (i := 8) (path := [8]) (keep := [1, 2, 7, 11, 14]) (m := 2) (σ' := ⟨[(1, .p 0 0), (2, .p 1 0), (7, .v (slv (h.mem).length ph.mem.1)), (11, .v (slv (h.buf).length ph.buf.1)), (14, .p 0 3)], [GT.cells (α := THost) h ph, Zc THost]⟩) (by kernel_rfl) (by kernel_rfl) .nil (by kernel_rfl) ?_
    clear S; intro ac S
    refine S.hoist (i := 9) (path := [9]) (keep := [1, 2, 7, 11, 15]) (m := 2) (σ' := ⟨[(1, .p 0 0), (2, .p 1 0), (7, .v (slv (h.mem).length ph.mem.1)), (11, .v (slv (h.buf).length ph.buf.1)), (15, .v (slv (h.iobuf).length ph.iobuf.1))], [GT.cells (α := THost) h ph, Zc THost]⟩) (by kernel_rfl) (by kernel_rfl) .nil (by kernel_rfl) ?_
    clear S; intro ac S
    refine WD.nameW fun W hW => ?_
    refine WD.castW (l' := mkL 14 [0, 1, 4, 5, 8, 9]) (by kernel_rfl) ?_
    have hK96 : ∀ (ac : Act) (w : World) (q91 : GT.Ptr (List TEntry)) (F92 : Bl) (q94 : GT.Ptr (List TEntry)) (F95 : Bl) (q88 : GT.Ptr (List (List Int))) (F89 : Bl) (u : World) (N : Bl) (β : Nat → Nat) (S : St Try.prog Try.f49.ntmps w0 NoB u N β ⟨[(1, .p 0 0), (2, .p 1 0), (3, .p 2 0)], [GT.cells (α := THost) h ph, Zc THost, [slv (h.mem).length q88.1, slv (([] : List TMon)).length (GT.pdflt (α := List TMon)).1, slv ((([] : List TEntry) ++ h.buf)).length q91.1, slv ((([] : List TEntry) ++ h.iobuf)).length q94.1]]⟩ ac w) (o90 : Ow w0 NoB u N F92 (([] : List TEntry) ++ h.buf) q91) (o93 : Ow w0 NoB u N F95 (([] : List TEntry) ++ h.iobuf) q94) (o87 : Ow w0 NoB u N F89 h.mem q88) (d97 : Disj F92 F95) (d98 : Disj F92 F89) (d99 : Disj F95 F89) (hb : ∀ b, N0 b → N b ∧ u.heap[b]? = u0.heap[b]?) (hB : ∀ k, k < 2 → β k = β0 k), W 0 (mkL 14 [0, 1, 2, 3, 4, 5, 6, 7, 8, 9, 10, 11, 12, 13]) ac w := by
      intro ac w q91 F92 q94 F95 q88 F89 u N β S o90 o93 o87 d97 d98 d99 hb hB
      rw [hW]
      refine WD.done (by kernel_rfl) ?_ _
      replace S := S.prune (keep := [1, 2, 3]) (m := 3) (σ' := ⟨[(1, .p 0 0), (2, .p 1 0), (3, .p 2 0)], [GT.cells (α := THost) h ph, Zc THost, [slv (h.mem).length q88.1, slv (([] : List TMon)).length (GT.pdflt (α := List TMon)).1, slv ((([] : List TEntry) ++ h.buf)).length q91.1, slv ((([] : List TEntry) ++ h.iobuf)).length q94.1]]⟩) (by kernel_rfl)
      exact ⟨rfl, q91, F92, q94, F95, q88, F89, _, _, _, S.cast (by kernel_rfl), o90, o93, o87, d97, d98, d99⟩
    have hK100 : ∀ (ac : Act) (w : World) (q82 : GT.Ptr (List TEntry)) (F83 : Bl) (q85 : GT.Ptr (List TEntry)) (F86 : Bl) (q79 : GT.Ptr (List (List Int))) (F80 : Bl) (u : World) (N : Bl) (β : Nat → Nat) (S : St Try.prog Try.f49.ntmps w0 NoB u N β ⟨[(1, .p 0 0), (2, .p 1 0), (3, .p 2 0), (17, .v (GT.val (α := THost) (⟨h.mem, ([] : List TMon), (([] : List TEntry) ++ h.buf), (([] : List TEntry) ++ h.iobuf)⟩ : THost) (⟨q79, (GT.pdflt (α := List TMon)), q82, q85⟩ : PHost)))], [GT.cells (α := THost) h ph, Zc THost, Zc THost]⟩ ac w) (o81 : Ow w0 NoB u N F83 (([] : List TEntry) ++ h.buf) q82) (o84 : Ow w0 NoB u N F86 (([] : List TEntry) ++ h.iobuf) q85) (o78 : Ow w0 NoB u N F80 h.mem q79) (d101 : Disj F83 F86) (d102 : Disj F83 F80) (d103 : Disj F86 F80) (hb : ∀ b, N0 b → N b ∧ u.heap[b]? = u0.heap[b]?) (hB : ∀ k, k < 2 → β k = β0 k), W 1 (mkL 14 [0, 1, 2, 3, 4, 5, 6, 7, 8, 9, 10, 11, 12]) ac w := by
      intro ac w q82 F83 q85 F86 q79 F80 u N β S o81 o84 o78 d101 d102 d103 hb hB
      rw [hW]
      refine WD.one (i := 13) (by kernel_rfl) ?_
      refine S.stepq (i := 13) (keep := [1, 2, 3]) (m := 3) (σ' := ⟨[(1, .p 0 0), (2, .p 1 0), (3, .p 2 0)], [GT.cells (α := THost) h ph, Zc THost, [slv (h.mem).length q79.1, slv (([] : List TMon)).length (GT.pdflt (α := List TMon)).1, slv ((([] : List TEntry) ++ h.buf)).length q82.1, slv ((([] : List TEntry) ++ h.iobuf)).length q85.1]]⟩) .nil (by kernel_rfl) ?_
      clear S; intro ac w β S hβ
      have hB2 := fun k (hk : k < 2) => (hβ k (Nat.lt_of_lt_of_le hk (Nat.le_of_ble_eq_true rfl))).trans (hB k hk)
      refine WD.last (by kernel_rfl) ?_
      clear hβ
      exact WD.ofW hW (by kernel_rfl) (hK96 ac w q82 F83 q85 F86 q79 F80 _ _ _ (S.prune (keep := [1, 2, 3]) (m := 3) (by kernel_rfl)) o81 o84 o78 d101 d102 d103 hb hB2)
    have hK104 : ∀ (ac : Act) (w : World) (q82 : GT.Ptr (List TEntry)) (F83 : Bl) (q85 : GT.Ptr (List TEntry)) (F86 : Bl) (q79 : GT.Ptr (List (List Int))) (F80 : Bl) (u : World) (N : Bl) (β : Nat → Nat) (S : St Try.prog Try.f49.ntmps w0 NoB u N β ⟨[(1, .p 0 0), (2, .p 1 0), (17, .v (GT.val (α := THost) (⟨h.mem, ([] : List TMon), (([] : List TEntry) ++ h.buf), (([] : List TEntry) ++ h.iobuf)⟩ : THost) (⟨q79, (GT.pdflt (α := List TMon)), q82, q85⟩ : PHost)))], [GT.cells (α := THost) h ph, Zc THost]⟩ ac w) (o81 : Ow w0 NoB u N F83 (([] : List TEntry) ++ h.buf) q82) (o84 : Ow w0 NoB u N F86 (([] : List TEntry) ++ h.iobuf) q85) (o78 : Ow w0 NoB u N F80 h.mem q79) (d105 : Disj F83 F86) (d106 : Disj F83 F80) (d107 : Disj F86 F80) (hb : ∀ b, N0 b → N b ∧ u.heap[b]? = u0.heap[b]?) (hB : ∀ k, k < 2 → β k = β0 k), W 2 (mkL 14 [0, 1, 2, 3, 4, 5, 6, 7, 8, 9, 10, 11]) ac w := by
      intro ac w q82 F83 q85 F86 q79 F80 u N β S o81 o84 o78 d105 d106 d107 hb hB
      rw [hW]
      refine WD.one (i := 12) (by kernel_rfl) ?_
      refine S.stepq (i := 12) (keep := [1, 2, 3, 17]) (m := 3) (σ' := ⟨[(1, .p 0 0), (2, .p 1 0), (3, .p 2 0), (17, .v (GT.val (α := THost) (⟨h.mem, ([] : List TMon), (([] : List TEntry) ++ h.buf), (([] : List TEntry) ++ h.iobuf)⟩ : THost) (⟨q79, (GT.pdflt (α := List TMon)), q82, q85⟩ : PHost)))], [GT.cells (α := THost) h ph, Zc THost, Zc THost]⟩) .nil (by kernel_rfl) ?_
      clear S; intro ac w β S hβ
      have hB2 := fun k (hk : k < 2) => (hβ k (Nat.lt_of_lt_of_le hk (Nat.le_of_ble_eq_true rfl))).trans (hB k hk)
      refine WD.stayK S (fun b h => ⟨(hb b h).1, (hb b h).2⟩) hB2 (bx_app rfl) ?_
      clear hβ
      exact WD.ofW hW (by kernel_rfl) (hK100 ac w q82 F83 q85 F86 q79 F80 _ _ _ (S.prune (keep := [1, 2, 3, 17]) (m := 3) (by kernel_rfl)) o81 o84 o78 d105 d106 d107 hb hB2)
    have hK108 : ∀ (ac : Act) (w : World) (q51 : GT.Ptr (List TEntry)) (F52 : Bl) (q76 : GT.Ptr (List TEntry)) (F77 : Bl) (q7 : GT.Ptr (List (List Int))) (F8 : Bl) (u : World) (N : Bl) (β : Nat → Nat) (S : St Try.prog Try.f49.ntmps w0 NoB u N β ⟨[(1, .p 0 0), (2, .p 1 0), (3, .p 2 0), (8, .v (slv (h.mem).length q7.1)), (12, .v (slv ((([] : List TEntry) ++ h.buf)).length q51.1)), (16, .v (slv ((([] : List TEntry) ++ h.iobuf)).length q76.1))], [GT.cells (α := THost) h ph, Zc THost, Zc THost]⟩ ac w) (o50 : Ow w0 NoB u N F52 (([] : List TEntry) ++ h.buf) q51) (o75 : Ow w0 NoB u N F77 (([] : List TEntry) ++ h.iobuf) q76) (o6 : Ow w0 NoB u N F8 h.mem q7) (d109 : Disj F52 F77) (d110 : Disj F52 F8) (d111 : Disj F77 F8) (hb : ∀ b, N0 b → N b ∧ u.heap[b]? = u0.heap[b]?) (hB : ∀ k, k < 2 → β k = β0 k), W 2 (mkL 14 [0, 1, 2, 3, 4, 5, 6, 7, 8, 9, 10, 12]) ac w := by
      intro ac w q51 F52 q76 F77 q7 F8 u N β S o50 o75 o6 d109 d110 d111 hb hB
      rw [hW]
      refine WD.one (i := 11) (by kernel_rfl) ?_
      refine S.stepq (i := 11) (keep := [1, 2, 3, 17]) (m := 3) (σ' := ⟨[(1, .p 0 0), (2, .p 1 0), (3, .p 2 0), (17, .v (GT.val (α := THost) (⟨h.mem, ([] : List TMon), (([] : List TEntry) ++ h.buf), (([] : List TEntry) ++ h.iobuf)⟩ : THost) (⟨q7, (GT.pdflt (α := List TMon)), q51, q76⟩ : PHost)))], [GT.cells (α := THost) h ph, Zc THost, Zc THost]⟩) (.cons (Q_sem (s := Instr.build 39 [(0, slv (h.mem).length q7.1), (2, slv ((([] : List TEntry) ++ h.buf)).length q51.1), (3, slv ((([] : List TEntry) ++ h.iobuf)).length q76.1)].toArray) (v := .agg [slv (h.mem).length q7.1, slv (([] : List TMon)).length (GT.pdflt (α := List TMon)).1, slv ((([] : List TEntry) ++ h.buf)).length q51.1, slv ((([] : List TEntry) ++ h.iobuf)).length q76.1].toArray) (fun w => by kernel_rfl)) .nil) (by kernel_rfl) ?_
      clear S; intro ac w β S hβ
      have hB2 := fun k (hk : k < 2) => (hβ k (Nat.lt_of_lt_of_le hk (Nat.le_of_ble_eq_true rfl))).trans (hB k hk)
      refine WD.stayK S (fun b h => ⟨(hb b h).1, (hb b h).2⟩) hB2 (bx_app rfl) ?_
      clear hβ
      exact WD.ofW hW (by kernel_rfl) (hK100 ac w q51 F52 q76 F77 q7 F8 _ _ _ (S.prune (keep := [1, 2, 3, 17]) (m := 3) (by kernel_rfl)) o50 o75 o6 d109 d110 d111 hb hB2)
    have hK112 : ∀ (ac : Act) (w : World) (q51 : GT.Ptr (List TEntry)) (F52 : Bl) (q76 : GT.Ptr (List TEntry)) (F77 : Bl) (q7 : GT.Ptr (List (List Int))) (F8 : Bl) (u : World) (N : Bl) (β : Nat → Nat) (S : St Try.prog Try.f49.ntmps w0 NoB u N β ⟨[(1, .p 0 0), (2, .p 1 0), (8, .v (slv (h.mem).length q7.1)), (12, .v (slv ((([] : List TEntry) ++ h.buf)).length q51.1)), (16, .v (slv ((([] : List TEntry) ++ h.iobuf)).length q76.1))], [GT.cells (α := THost) h ph, Zc THost]⟩ ac w) (o50 : Ow w0 NoB u N F52 (([] : List TEntry) ++ h.buf) q51) (o75 : Ow w0 NoB u N F77 (([] : List TEntry) ++ h.iobuf) q76) (o6 : Ow w0 NoB u N F8 h.mem q7) (d113 : Disj F52 F77) (d114 : Disj F52 F8) (d115 : Disj F77 F8) (hb : ∀ b, N0 b → N b ∧ u.heap[b]? = u0.heap[b]?) (hB : ∀ k, k < 2 → β k = β0 k), W 3 (mkL 14 [0, 1, 2, 3, 4, 5, 6, 7, 8, 9, 10]) ac w := by
      intro ac w q51 F52 q76 F77 q7 F8 u N β S o50 o75 o6 d113 d114 d115 hb hB
      rw [hW]
      refine WD.many (rs := [11, 12]) (by kernel_rfl) rfl (List.forall_mem_cons.2 ⟨?_, List.forall_mem_cons.2 ⟨?_, List.forall_mem_nil _⟩⟩)
      · refine S.stepq (i := 11) (keep := [1, 2, 17]) (m := 2) (σ' := ⟨[(1, .p 0 0), (2, .p 1 0), (17, .v (GT.val (α := THost) (⟨h.mem, ([] : List TMon), (([] : List TEntry) ++ h.buf), (([] : List TEntry) ++ h.iobuf)⟩ : THost) (⟨q7, (GT.pdflt (α := List TMon)), q51, q76⟩ : PHost)))], [GT.cells (α := THost) h ph, Zc THost]⟩) (.cons (Q_sem (s := Instr.build 39 [(0, slv (h.mem).length q7.1), (2, slv ((([] : List TEntry) ++ h.buf)).length q51.1), (3, slv ((([] : List TEntry) ++ h.iobuf)).length q76.1)].toArray) (v := .agg [slv (h.mem).length q7.1, slv (([] : List TMon)).length (GT.pdflt (α := List TMon)).1, slv ((([] : List TEntry) ++ h.buf)).length q51.1, slv ((([] : List TEntry) ++ h.iobuf)).length q76.1].toArray) (fun w => by kernel_rfl)) .nil) (by kernel_rfl) ?_
        clear S; intro ac w β S hβ
        have hB2 := fun k (hk : k < 2) => (hβ k (Nat.lt_of_lt_of_le hk (Nat.le_of_ble_eq_true rfl))).trans (hB k hk)
        refine WD.stayK S (fun b h => ⟨(hb b h).1, (hb b h).2⟩) hB2 (fun _ _ h => h) ?_
        clear hβ
        exact WD.ofW hW (by kernel_rfl) (hK104 ac w q51 F52 q76 F77 q7 F8 _ _ _ (S.prune (keep := [1, 2, 17]) (m := 2) (by kernel_rfl)) o50 o75 o6 d113 d114 d115 hb hB2)
      · refine S.stepq (i := 12) (keep := [1, 2, 3, 8, 12, 16]) (m := 3) (σ' := ⟨[(1, .p 0 0), (2, .p 1 0), (3, .p 2 0), (8, .v (slv (h.mem).length q7.1)), (12, .v (slv ((([] : List TEntry) ++ h.buf)).length q51.1)), (16, .v (slv ((([] : List TEntry) ++ h.iobuf)).length q76.1))], [GT.cells (α := THost) h ph, Zc THost, Zc THost]⟩) .nil (by kernel_rfl) ?_
        clear S; intro ac w β S hβ
        have hB2 := fun k (hk : k < 2) => (hβ k (Nat.lt_of_lt_of_le hk (Nat.le_of_ble_eq_true rfl))).trans (hB k hk)
        refine WD.stayK S (fun b h => ⟨(hb b h).1, (hb b h).2⟩) hB2 (bx_app rfl) ?_
        clear hβ
        exact WD.ofW hW (by kernel_rfl) (hK108 ac w q51 F52 q76 F77 q7 F8 _ _ _ (S.prune (keep := [1, 2, 3, 8, 12, 16]) (m := 3) (by kernel_rfl)) o50 o75 o6 d113 d114 d115 hb hB2)
    have hK116 : ∀ (ac : Act) (w : World) (q51 : GT.Ptr (List TEntry)) (F52 : Bl) (q23 : GT.Ptr (List TEntry)) (F24 : Bl) (q7 : GT.Ptr (List (List Int))) (F8 : Bl) (u : World) (N : Bl) (β : Nat → Nat) (S : St Try.prog Try.f49.ntmps w0 NoB u N β ⟨[(1, .p 0 0), (2, .p 1 0), (3, .p 2 0), (8, .v (slv (h.mem).length q7.1)), (12, .v (slv ((([] : List TEntry) ++ h.buf)).length q51.1)), (13, .v (slv 0 q23.1)), (15, .v (slv (h.iobuf).length ph.iobuf.1))], [GT.cells (α := THost) h ph, Zc THost, Zc THost]⟩ ac w) (o50 : Ow w0 NoB u N F52 (([] : List TEntry) ++ h.buf) q51) (o22 : Ow w0 NoB u N F24 ([] : List TEntry) q23) (o6 : Ow w0 NoB u N F8 h.mem q7) (d117 : Disj F52 F24) (d118 : Disj F52 F8) (d119 : Disj F24 F8) (hb : ∀ b, N0 b → N b ∧ u.heap[b]? = u0.heap[b]? ∧ ¬ F24 b) (hB : ∀ k, k < 2 → β k = β0 k), W 3 (mkL 14 [0, 1, 2, 3, 4, 5, 6, 7, 8, 9, 12]) ac w := by
      intro ac w q51 F52 q23 F24 q7 F8 u N β S o50 o22 o6 d117 d118 d119 hb hB
      rw [hW]
      refine WD.one (i := 10) (by kernel_rfl) ?_
      have b124 : (h.iobuf).length ≤ 4194304 := LRd.le (RHost.iobuf (d := h) (S.arg hh))
      refine id (S.appFlat (α := TEntry) o22 ((RHost.iobuf (d := h) (S.arg hh))) (fun _ _ h => h) (by' := 32) (d := 16) (lx := 0) (ly := (h.iobuf).length) rfl rfl (by kernel_rfl) (show _ ≤ 4194304 by simp only [List.length_append, List.length_cons, List.length_nil]; omega) ?_)
      clear S; intro ac w N q120 F121 S up o122 d123
      have hb125 := fun b h => (⟨(up b (hb b h).1 (hb b h).2.2).1, (up b (hb b h).1 (hb b h).2.2).2.trans (hb b h).2.1⟩ : _ ∧ _)
      refine WD.stayK S (fun b h => ⟨(hb125 b h).1, (hb125 b h).2⟩) hB (bx_app rfl) ?_
      have d126 : Disj F8 F121 := d123 _ (Disj.symm d119) o6.sub
      have d127 : Disj F52 F121 := d123 _ d117 o50.sub
      replace o6 := o6.upF (Disj.symm d119) up
      replace o50 := o50.upF d117 up
      clear up d123
      exact WD.ofW hW (by kernel_rfl) (hK108 ac w q51 F52 q120 F121 q7 F8 _ _ _ (S.prune (keep := [1, 2, 3, 8, 12, 16]) (m := 3) (by kernel_rfl)) o50 o122 o6 d127 d118 (Disj.symm d126) hb125 hB)
    have hK128 : ∀ (ac : Act) (w : World) (q51 : GT.Ptr (List TEntry)) (F52 : Bl) (q23 : GT.Ptr (List TEntry)) (F24 : Bl) (q7 : GT.Ptr (List (List Int))) (F8 : Bl) (u : World) (N : Bl) (β : Nat → Nat) (S : St Try.prog Try.f49.ntmps w0 NoB u N β ⟨[(1, .p 0 0), (2, .p 1 0), (8, .v (slv (h.mem).length q7.1)), (12, .v (slv ((([] : List TEntry) ++ h.buf)).length q51.1)), (13, .v (slv 0 q23.1)), (15, .v (slv (h.iobuf).length ph.iobuf.1))], [GT.cells (α := THost) h ph, Zc THost]⟩ ac w) (o50 : Ow w0 NoB u N F52 (([] : List TEntry) ++ h.buf) q51) (o22 : Ow w0 NoB u N F24 ([] : List TEntry) q23) (o6 : Ow w0 NoB u N F8 h.mem q7) (d129 : Disj F52 F24) (d130 : Disj F52 F8) (d131 : Disj F24 F8) (hb : ∀ b, N0 b → N b ∧ u.heap[b]? = u0.heap[b]? ∧ ¬ F24 b) (hB : ∀ k, k < 2 → β k = β0 k), W 4 (mkL 14 [0, 1, 2, 3, 4, 5, 6, 7, 8, 9]) ac w := by
      intro ac w q51 F52 q23 F24 q7 F8 u N β S o50 o22 o6 d129 d130 d131 hb hB
      rw [hW]
      refine WD.many (rs := [10, 12]) (by kernel_rfl) rfl (List.forall_mem_cons.2 ⟨?_, List.forall_mem_cons.2 ⟨?_, List.forall_mem_nil _⟩⟩)
      · have b136 : (h.iobuf).length ≤ 4194304 := LRd.le (RHost.iobuf (d := h) (S.arg hh))
        refine id (S.appFlat (α := TEntry) o22 ((RHost.iobuf (d := h) (S.arg hh))) (fun _ _ h => h) (by' := 32) (d := 16) (lx := 0) (ly := (h.iobuf).length) rfl rfl (by kernel_rfl) (show _ ≤ 4194304 by simp only [List.length_append, List.length_cons, List.length_nil]; omega) ?_)
        clear S; intro ac w N q132 F133 S up o134 d135
        have hb137 := fun b h => (⟨(up b (hb b h).1 (hb b h).2.2).1, (up b (hb b h).1 (hb b h).2.2).2.trans (hb b h).2.1⟩ : _ ∧ _)
        refine WD.stayK S (fun b h => ⟨(hb137 b h).1, (hb137 b h).2⟩) hB (fun _ _ h => h) ?_
        have d138 : Disj F8 F133 := d135 _ (Disj.symm d131) o6.sub
        have d139 : Disj F52 F133 := d135 _ d129 o50.sub
        replace o6 := o6.upF (Disj.symm d131) up
        replace o50 := o50.upF d129 up
        clear up d135
        exact WD.ofW hW (by kernel_rfl) (hK112 ac w q51 F52 q132 F133 q7 F8 _ _ _ (S.prune (keep := [1, 2, 8, 12, 16]) (m := 2) (by kernel_rfl)) o50 o134 o6 d139 d130 (Disj.symm d138) hb137 hB)
      · refine S.stepq (i := 12) (keep := [1, 2, 3, 8, 12, 13, 15]) (m := 3) (σ' := ⟨[(1, .p 0 0), (2, .p 1 0), (3, .p 2 0), (8, .v (slv (h.mem).length q7.1)), (12, .v (slv ((([] : List TEntry) ++ h.buf)).length q51.1)), (13, .v (slv 0 q23.1)), (15, .v (slv (h.iobuf).length ph.iobuf.1))], [GT.cells (α := THost) h ph, Zc THost, Zc THost]⟩) .nil (by kernel_rfl) ?_
        clear S; intro ac w β S hβ
        have hB2 := fun k (hk : k < 2) => (hβ k (Nat.lt_of_lt_of_le hk (Nat.le_of_ble_eq_true rfl))).trans (hB k hk)
        refine WD.stayK S (fun b h => ⟨(hb b h).1, (hb b h).2.1⟩) hB2 (bx_app rfl) ?_
        clear hβ
        exact WD.ofW hW (by kernel_rfl) (hK116 ac w q51 F52 q23 F24 q7 F8 _ _ _ (S.prune (keep := [1, 2, 3, 8, 12, 13, 15]) (m := 3) (by kernel_rfl)) o50 o22 o6 d129 d130 d131 hb hB2)
    have hK140 : ∀ (ac : Act) (w : World) (q51 : GT.Ptr (List TEntry)) (F52 : Bl) (q7 : GT.Ptr (List (List Int))) (F8 : Bl) (u : World) (N : Bl) (β : Nat → Nat) (S : St Try.prog Try.f49.ntmps w0 NoB u N β ⟨[(1, .p 0 0), (2, .p 1 0), (3, .p 2 0), (8, .v (slv (h.mem).length q7.1)), (12, .v (slv ((([] : List TEntry) ++ h.buf)).length q51.1)), (15, .v (slv (h.iobuf).length ph.iobuf.1))], [GT.cells (α := THost) h ph, Zc THost, Zc THost]⟩ ac w) (o50 : Ow w0 NoB u N F52 (([] : List TEntry) ++ h.buf) q51) (o6 : Ow w0 NoB u N F8 h.mem q7) (d141 : Disj F52 F8) (hb : ∀ b, N0 b → N b ∧ u.heap[b]? = u0.heap[b]?) (hB : ∀ k, k < 2 → β k = β0 k), W 4 (mkL 14 [0, 1, 2, 3, 4, 5, 6, 8, 9, 12]) ac w := by
      intro ac w q51 F52 q7 F8 u N β S o50 o6 d141 hb hB
      rw [hW]
      refine WD.one (i := 7) (by kernel_rfl) ?_
      refine id (S.bs0 (α := TEntry) (d := 13) (by kernel_rfl) ?_)
      clear S; intro ac w N q142 F143 S up o144 d145
      have hb146 := fun b h => (⟨(up b (hb b h).1).1, (up b (hb b h).1).2.trans (hb b h).2, d145 b (hb b h).1⟩ : _ ∧ _ ∧ _)
      refine WD.stayK S (fun b h => ⟨(hb146 b h).1, (hb146 b h).2.1⟩) hB (bx_app rfl) ?_
      have d147 : Disj F8 F143 := fun b x y => d145 b (o6.sub b x) y
      have d148 : Disj F52 F143 := fun b x y => d145 b (o50.sub b x) y
      replace o6 := o6.up up
      replace o50 := o50.up up
      clear up d145
      exact WD.ofW hW (by kernel_rfl) (hK116 ac w q51 F52 q142 F143 q7 F8 _ _ _ (S.prune (keep := [1, 2, 3, 8, 12, 13, 15]) (m := 3) (by kernel_rfl)) o50 o144 o6 d148 d141 (Disj.symm d147) hb146 hB)
    have hK149 : ∀ (ac : Act) (w : World) (q23 : GT.Ptr (List TEntry)) (F24 : Bl) (q7 : GT.Ptr (List (List Int))) (F8 : Bl) (q15 : GT.Ptr (List TEntry)) (F16 : Bl) (u : World) (N : Bl) (β : Nat → Nat) (S : St Try.prog Try.f49.ntmps w0 NoB u N β ⟨[(1, .p 0 0), (2, .p 1 0), (3, .p 2 0), (8, .v (slv (h.mem).length q7.1)), (9, .v (slv 0 q15.1)), (11, .v (slv (h.buf).length ph.buf.1)), (13, .v (slv 0 q23.1)), (15, .v (slv (h.iobuf).length ph.iobuf.1))], [GT.cells (α := THost) h ph, Zc THost, Zc THost]⟩ ac w) (o22 : Ow w0 NoB u N F24 ([] : List TEntry) q23) (o6 : Ow w0 NoB u N F8 h.mem q7) (o14 : Ow w0 NoB u N F16 ([] : List TEntry) q15) (d150 : Disj F24 F8) (d151 : Disj F24 F16) (d152 : Disj F8 F16) (hb : ∀ b, N0 b → N b ∧ u.heap[b]? = u0.heap[b]? ∧ ¬ F16 b ∧ ¬ F24 b) (hB : ∀ k, k < 2 → β k = β0 k), W 4 (mkL 14 [0, 1, 2, 3, 4, 5, 7, 8, 9, 12]) ac w := by
      intro ac w q23 F24 q7 F8 q15 F16 u N β S o22 o6 o14 d150 d151 d152 hb hB
      rw [hW]
      refine WD.one (i := 6) (by kernel_rfl) ?_
      have b157 : (h.buf).length ≤ 4194304 := LRd.le (RHost.buf (d := h) (S.arg hh))
      refine id (S.appFlat (α := TEntry) o14 ((RHost.buf (d := h) (S.arg hh))) (fun _ _ h => h) (by' := 32) (d := 12) (lx := 0) (ly := (h.buf).length) rfl rfl (by kernel_rfl) (show _ ≤ 4194304 by simp only [List.length_append, List.length_cons, List.length_nil]; omega) ?_)
      clear S; intro ac w N q153 F154 S up o155 d156
      have hb158 := fun b h => (⟨(up b (hb b h).1 (hb b h).2.2.1).1, (up b (hb b h).1 (hb b h).2.2.1).2.trans (hb b h).2.1, (hb b h).2.2.2⟩ : _ ∧ _ ∧ _)
      refine WD.stayK S (fun b h => ⟨(hb158 b h).1, (hb158 b h).2.1⟩) hB (bx_app rfl) ?_
      have d159 : Disj F8 F154 := d156 _ d152 o6.sub
      have d160 : Disj F24 F154 := d156 _ d151 o22.sub
      replace o6 := o6.upF d152 up
      replace o22 := o22.upF d151 up
      clear up d156
      exact WD.ofW hW (by kernel_rfl) (hK116 ac w q153 F154 q23 F24 q7 F8 _ _ _ (S.prune (keep := [1, 2, 3, 8, 12, 13, 15]) (m := 3) (by kernel_rfl)) o155 o22 o6 (Disj.symm d160) (Disj.symm d159) d150 hb158 hB)
    have hK161 : ∀ (ac : Act) (w : World) (q51 : GT.Ptr (List TEntry)) (F52 : Bl) (q7 : GT.Ptr (List (List Int))) (F8 : Bl) (u : World) (N : Bl) (β : Nat → Nat) (S : St Try.prog Try.f49.ntmps w0 NoB u N β ⟨[(1, .p 0 0), (2, .p 1 0), (8, .v (slv (h.mem).length q7.1)), (12, .v (slv ((([] : List TEntry) ++ h.buf)).length q51.1)), (15, .v (slv (h.iobuf).length ph.iobuf.1))], [GT.cells (α := THost) h ph, Zc THost]⟩ ac w) (o50 : Ow w0 NoB u N F52 (([] : List TEntry) ++ h.buf) q51) (o6 : Ow w0 NoB u N F8 h.mem q7) (d162 : Disj F52 F8) (hb : ∀ b, N0 b → N b ∧ u.heap[b]? = u0.heap[b]?) (hB : ∀ k, k < 2 → β k = β0 k), W 5 (mkL 14 [0, 1, 2, 3, 4, 5, 6, 8, 9]) ac w := by
      intro ac w q51 F52 q7 F8 u N β S o50 o6 d162 hb hB
      rw [hW]
      refine WD.many (rs := [7, 12]) (by kernel_rfl) rfl (List.forall_mem_cons.2 ⟨?_, List.forall_mem_cons.2 ⟨?_, List.forall_mem_nil _⟩⟩)
      · refine id (S.bs0 (α := TEntry) (d := 13) (by kernel_rfl) ?_)
        clear S; intro ac w N q163 F164 S up o165 d166
        have hb167 := fun b h => (⟨(up b (hb b h).1).1, (up b (hb b h).1).2.trans (hb b h).2, d166 b (hb b h).1⟩ : _ ∧ _ ∧ _)
        refine WD.stayK S (fun b h => ⟨(hb167 b h).1, (hb167 b h).2.1⟩) hB (fun _ _ h => h) ?_
        have d168 : Disj F8 F164 := fun b x y => d166 b (o6.sub b x) y
        have d169 : Disj F52 F164 := fun b x y => d166 b (o50.sub b x) y
        replace o6 := o6.up up
        replace o50 := o50.up up
        clear up d166
        exact WD.ofW hW (by kernel_rfl) (hK128 ac w q51 F52 q163 F164 q7 F8 _ _ _ (S.prune (keep := [1, 2, 8, 12, 13, 15]) (m := 2) (by kernel_rfl)) o50 o165 o6 d169 d162 (Disj.symm d168) hb167 hB)
      · refine S.stepq (i := 12) (keep := [1, 2, 3, 8, 12, 15]) (m := 3) (σ' := ⟨[(1, .p 0 0), (2, .p 1 0), (3, .p 2 0), (8, .v (slv (h.mem).length q7.1)), (12, .v (slv ((([] : List TEntry) ++ h.buf)).length q51.1)), (15, .v (slv (h.iobuf).length ph.iobuf.1))], [GT.cells (α := THost) h ph, Zc THost, Zc THost]⟩) .nil (by kernel_rfl) ?_
        clear S; intro ac w β S hβ
        have hB2 := fun k (hk : k < 2) => (hβ k (Nat.lt_of_lt_of_le hk (Nat.le_of_ble_eq_true rfl))).trans (hB k hk)
        refine WD.stayK S (fun b h => ⟨(hb b h).1, (hb b h).2⟩) hB2 (bx_app rfl) ?_
        clear hβ
        exact WD.ofW hW (by kernel_rfl) (hK140 ac w q51 F52 q7 F8 _ _ _ (S.prune (keep := [1, 2, 3, 8, 12, 15]) (m := 3) (by kernel_rfl)) o50 o6 d162 hb hB2)
    have hK170 : ∀ (ac : Act) (w : World) (q23 : GT.Ptr (List TEntry)) (F24 : Bl) (q7 : GT.Ptr (List (List Int))) (F8 : Bl) (q15 : GT.Ptr (List TEntry)) (F16 : Bl) (u : World) (N : Bl) (β : Nat → Nat) (S : St Try.prog Try.f49.ntmps w0 NoB u N β ⟨[(1, .p 0 0), (2, .p 1 0), (8, .v (slv (h.mem).length q7.1)), (9, .v (slv 0 q15.1)), (11, .v (slv (h.buf).length ph.buf.1)), (13, .v (slv 0 q23.1)), (15, .v (slv (h.iobuf).length ph.iobuf.1))], [GT.cells (α := THost) h ph, Zc THost]⟩ ac w) (o22 : Ow w0 NoB u N F24 ([] : List TEntry) q23) (o6 : Ow w0 NoB u N F8 h.mem q7) (o14 : Ow w0 NoB u N F16 ([] : List TEntry) q15) (d171 : Disj F24 F8) (d172 : Disj F24 F16) (d173 : Disj F8 F16) (hb : ∀ b, N0 b → N b ∧ u.heap[b]? = u0.heap[b]? ∧ ¬ F16 b ∧ ¬ F24 b) (hB : ∀ k, k < 2 → β k = β0 k), W 5 (mkL 14 [0, 1, 2, 3, 4, 5, 7, 8, 9]) ac w := by
      intro ac w q23 F24 q7 F8 q15 F16 u N β S o22 o6 o14 d171 d172 d173 hb hB
      rw [hW]
      refine WD.many (rs := [6, 12]) (by kernel_rfl) rfl (List.forall_mem_cons.2 ⟨?_, List.forall_mem_cons.2 ⟨?_, List.forall_mem_nil _⟩⟩)
      · have b178 : (h.buf).length ≤ 4194304 := LRd.le (RHost.buf (d := h) (S.arg hh))
        refine id (S.appFlat (α := TEntry) o14 ((RHost.buf (d := h) (S.arg hh))) (fun _ _ h => h) (by' := 32) (d := 12) (lx := 0) (ly := (h.buf).length) rfl rfl (by kernel_rfl) (show _ ≤ 4194304 by simp only [List.length_append, List.length_cons, List.length_nil]; omega) ?_)
        clear S; intro ac w N q174 F175 S up o176 d177
        have hb179 := fun b h => (⟨(up b (hb b h).1 (hb b h).2.2.1).1, (up b (hb b h).1 (hb b h).2.2.1).2.trans (hb b h).2.1, (hb b h).2.2.2⟩ : _ ∧ _ ∧ _)
        refine WD.stayK S (fun b h => ⟨(hb179 b h).1, (hb179 b h).2.1⟩) hB (fun _ _ h => h) ?_
        have d180 : Disj F8 F175 := d177 _ d173 o6.sub
        have d181 : Disj F24 F175 := d177 _ d172 o22.sub
        replace o6 := o6.upF d173 up
        replace o22 := o22.upF d172 up
        clear up d177
        exact WD.ofW hW (by kernel_rfl) (hK128 ac w q174 F175 q23 F24 q7 F8 _ _ _ (S.prune (keep := [1, 2, 8, 12, 13, 15]) (m := 2) (by kernel_rfl)) o176 o22 o6 (Disj.symm d181) (Disj.symm d180) d171 hb179 hB)
      · refine S.stepq (i := 12) (keep := [1, 2, 3, 8, 9, 11, 13, 15]) (m := 3) (σ' := ⟨[(1, .p 0 0), (2, .p 1 0), (3, .p 2 0), (8, .v (slv (h.mem).length q7.1)), (9, .v (slv 0 q15.1)), (11, .v (slv (h.buf).length ph.buf.1)), (13, .v (slv 0 q23.1)), (15, .v (slv (h.iobuf).length ph.iobuf.1))], [GT.cells (α := THost) h ph, Zc THost, Zc THost]⟩) .nil (by kernel_rfl) ?_
        clear S; intro ac w β S hβ
        have hB2 := fun k (hk : k < 2) => (hβ k (Nat.lt_of_lt_of_le hk (Nat.le_of_ble_eq_true rfl))).trans (hB k hk)
        refine WD.stayK S (fun b h => ⟨(hb b h).1, (hb b h).2.1⟩) hB2 (bx_app rfl) ?_
        clear hβ
        exact WD.ofW hW (by kernel_rfl) (hK149 ac w q23 F24 q7 F8 q15 F16 _ _ _ (S.prune (keep := [1, 2, 3, 8, 9, 11, 13, 15]) (m := 3) (by kernel_rfl)) o22 o6 o14 d171 d172 d173 hb hB2)
    have hK182 : ∀ (ac : Act) (w : World) (q7 : GT.Ptr (List (List Int))) (F8 : Bl) (q15 : GT.Ptr (List TEntry)) (F16 : Bl) (u : World) (N : Bl) (β : Nat → Nat) (S : St Try.prog Try.f49.ntmps w0 NoB u N β ⟨[(1, .p 0 0), (2, .p 1 0), (3, .p 2 0), (8, .v (slv (h.mem).length q7.1)), (9, .v (slv 0 q15.1)), (11, .v (slv (h.buf).length ph.buf.1)), (15, .v (slv (h.iobuf).length ph.iobuf.1))], [GT.cells (α := THost) h ph, Zc THost, Zc THost]⟩ ac w) (o6 : Ow w0 NoB u N F8 h.mem q7) (o14 : Ow w0 NoB u N F16 ([] : List TEntry) q15) (d183 : Disj F8 F16) (hb : ∀ b, N0 b → N b ∧ u.heap[b]? = u0.heap[b]? ∧ ¬ F16 b) (hB : ∀ k, k < 2 → β k = β0 k), W 5 (mkL 14 [0, 1, 2, 3, 4, 5, 8, 9, 12]) ac w := by
      intro ac w q7 F8 q15 F16 u N β S o6 o14 d183 hb hB
      rw [hW]
      refine WD.many (rs := [6, 7]) (by kernel_rfl) rfl (List.forall_mem_cons.2 ⟨?_, List.forall_mem_cons.2 ⟨?_, List.forall_mem_nil _⟩⟩)
      · have b188 : (h.buf).length ≤ 4194304 := LRd.le (RHost.buf (d := h) (S.arg hh))
        refine id (S.appFlat (α := TEntry) o14 ((RHost.buf (d := h) (S.arg hh))) (fun _ _ h => h) (by' := 32) (d := 12) (lx := 0) (ly := (h.buf).length) rfl rfl (by kernel_rfl) (show _ ≤ 4194304 by simp only [List.length_append, List.length_cons, List.length_nil]; omega) ?_)
        clear S; intro ac w N q184 F185 S up o186 d187
        have hb189 := fun b h => (⟨(up b (hb b h).1 (hb b h).2.2).1, (up b (hb b h).1 (hb b h).2.2).2.trans (hb b h).2.1⟩ : _ ∧ _)
        refine WD.stayK S (fun b h => ⟨(hb189 b h).1, (hb189 b h).2⟩) hB (bx_app rfl) ?_
        have d190 : Disj F8 F185 := d187 _ d183 o6.sub
        replace o6 := o6.upF d183 up
        clear up d187
        exact WD.ofW hW (by kernel_rfl) (hK140 ac w q184 F185 q7 F8 _ _ _ (S.prune (keep := [1, 2, 3, 8, 12, 15]) (m := 3) (by kernel_rfl)) o186 o6 (Disj.symm d190) hb189 hB)
      · refine id (S.bs0 (α := TEntry) (d := 13) (by kernel_rfl) ?_)
        clear S; intro ac w N q191 F192 S up o193 d194
        have hb195 := fun b h => (⟨(up b (hb b h).1).1, (up b (hb b h).1).2.trans (hb b h).2.1, (hb b h).2.2, d194 b (hb b h).1⟩ : _ ∧ _ ∧ _ ∧ _)
        refine WD.stayK S (fun b h => ⟨(hb195 b h).1, (hb195 b h).2.1⟩) hB (bx_app rfl) ?_
        have d196 : Disj F8 F192 := fun b x y => d194 b (o6.sub b x) y
        have d197 : Disj F16 F192 := fun b x y => d194 b (o14.sub b x) y
        replace o6 := o6.up up
        replace o14 := o14.up up
        clear up d194
        exact WD.ofW hW (by kernel_rfl) (hK149 ac w q191 F192 q7 F8 q15 F16 _ _ _ (S.prune (keep := [1, 2, 3, 8, 9, 11, 13, 15]) (m := 3) (by kernel_rfl)) o193 o6 o14 (Disj.symm d196) (Disj.symm d197) d183 hb195 hB)
    have hK198 : ∀ (ac : Act) (w : World) (q23 : GT.Ptr (List TEntry)) (F24 : Bl) (q7 : GT.Ptr (List (List Int))) (F8 : Bl) (u : World) (N : Bl) (β : Nat → Nat) (S : St Try.prog Try.f49.ntmps w0 NoB u N β ⟨[(1, .p 0 0), (2, .p 1 0), (3, .p 2 0), (8, .v (slv (h.mem).length q7.1)), (11, .v (slv (h.buf).length ph.buf.1)), (13, .v (slv 0 q23.1)), (15, .v (slv (h.iobuf).length ph.iobuf.1))], [GT.cells (α := THost) h ph, Zc THost, Zc THost]⟩ ac w) (o22 : Ow w0 NoB u N F24 ([] : List TEntry) q23) (o6 : Ow w0 NoB u N F8 h.mem q7) (d199 : Disj F24 F8) (hb : ∀ b, N0 b → N b ∧ u.heap[b]? = u0.heap[b]? ∧ ¬ F24 b) (hB : ∀ k, k < 2 → β k = β0 k), W 5 (mkL 14 [0, 1, 2, 4, 5, 7, 8, 9, 12]) ac w := by
      intro ac w q23 F24 q7 F8 u N β S o22 o6 d199 hb hB
      rw [hW]
      refine WD.one (i := 3) (by kernel_rfl) ?_
      refine id (S.bs0 (α := TEntry) (d := 9) (by kernel_rfl) ?_)
      clear S; intro ac w N q200 F201 S up o202 d203
      have hb204 := fun b h => (⟨(up b (hb b h).1).1, (up b (hb b h).1).2.trans (hb b h).2.1, d203 b (hb b h).1, (hb b h).2.2⟩ : _ ∧ _ ∧ _ ∧ _)
      refine WD.stayK S (fun b h => ⟨(hb204 b h).1, (hb204 b h).2.1⟩) hB (bx_app rfl) ?_
      have d205 : Disj F8 F201 := fun b x y => d203 b (o6.sub b x) y
      have d206 : Disj F24 F201 := fun b x y => d203 b (o22.sub b x) y
      replace o6 := o6.up up
      replace o22 := o22.up up
      clear up d203
      exact WD.ofW hW (by kernel_rfl) (hK149 ac w q23 F24 q7 F8 q200 F201 _ _ _ (S.prune (keep := [1, 2, 3, 8, 9, 11, 13, 15]) (m := 3) (by kernel_rfl)) o22 o6 o202 d199 d206 d205 hb204 hB)
    have hK207 : ∀ (ac : Act) (w : World) (q23 : GT.Ptr (List TEntry)) (F24 : Bl) (q15 : GT.Ptr (List TEntry)) (F16 : Bl) (u : World) (N : Bl) (β : Nat → Nat) (S : St Try.prog Try.f49.ntmps w0 NoB u N β ⟨[(1, .p 0 0), (2, .p 1 0), (3, .p 2 0), (7, .v (slv (h.mem).length ph.mem.1)), (9, .v (slv 0 q15.1)), (11, .v (slv (h.buf).length ph.buf.1)), (13, .v (slv 0 q23.1)), (15, .v (slv (h.iobuf).length ph.iobuf.1))], [GT.cells (α := THost) h ph, Zc THost, Zc THost]⟩ ac w) (o22 : Ow w0 NoB u N F24 ([] : List TEntry) q23) (o14 : Ow w0 NoB u N F16 ([] : List TEntry) q15) (d208 : Disj F24 F16) (hb : ∀ b, N0 b → N b ∧ u.heap[b]? = u0.heap[b]? ∧ ¬ F16 b ∧ ¬ F24 b) (hB : ∀ k, k < 2 → β k = β0 k), W 5 (mkL 14 [0, 1, 3, 4, 5, 7, 8, 9, 12]) ac w := by
      intro ac w q23 F24 q15 F16 u N β S o22 o14 d208 hb hB
      rw [hW]
      refine WD.one (i := 2) (by kernel_rfl) ?_
      refine id (S.call1 (r := h.mem) (d := 8) (c_impl_copyMem w h.mem ph.mem (S.rd (RHost.mem (d := h) (S.arg hh)))) (by kernel_rfl) rfl ?_)
      clear S; intro ac w N q209 F210 S up o211 d212
      have hb213 := fun b h => (⟨(up b (hb b h).1).1, (up b (hb b h).1).2.trans (hb b h).2.1, (hb b h).2.2.1, (hb b h).2.2.2⟩ : _ ∧ _ ∧ _ ∧ _)
      refine WD.stayK S (fun b h => ⟨(hb213 b h).1, (hb213 b h).2.1⟩) hB (bx_app rfl) ?_
      have d214 : Disj F16 F210 := fun b x y => d212 b (o14.sub b x) y
      have d215 : Disj F24 F210 := fun b x y => d212 b (o22.sub b x) y
      replace o14 := o14.up up
      replace o22 := o22.up up
      clear up d212
      exact WD.ofW hW (by kernel_rfl) (hK149 ac w q23 F24 q209 F210 q15 F16 _ _ _ (S.prune (keep := [1, 2, 3, 8, 9, 11, 13, 15]) (m := 3) (by kernel_rfl)) o22 o211 o14 d215 d208 (Disj.symm d214) hb213 hB)
    have hK216 : ∀ (ac : Act) (w : World) (q7 : GT.Ptr (List (List Int))) (F8 : Bl) (q15 : GT.Ptr (List TEntry)) (F16 : Bl) (u : World) (N : Bl) (β : Nat → Nat) (S : St Try.prog Try.f49.ntmps w0 NoB u N β ⟨[(1, .p 0 0), (2, .p 1 0), (8, .v (slv (h.mem).length q7.1)), (9, .v (slv 0 q15.1)), (11, .v (slv (h.buf).length ph.buf.1)), (15, .v (slv (h.iobuf).length ph.iobuf.1))], [GT.cells (α := THost) h ph, Zc THost]⟩ ac w) (o6 : Ow w0 NoB u N F8 h.mem q7) (o14 : Ow w0 NoB u N F16 ([] : List TEntry) q15) (d217 : Disj F8 F16) (hb : ∀ b, N0 b → N b ∧ u.heap[b]? = u0.heap[b]? ∧ ¬ F16 b) (hB : ∀ k, k < 2 → β k = β0 k), W 6 (mkL 14 [0, 1, 2, 3, 4, 5, 8, 9]) ac w := by
      intro ac w q7 F8 q15 F16 u N β S o6 o14 d217 hb hB
      rw [hW]
      refine WD.many (rs := [6, 7, 12]) (by kernel_rfl) rfl (List.forall_mem_cons.2 ⟨?_, List.forall_mem_cons.2 ⟨?_, List.forall_mem_cons.2 ⟨?_, List.forall_mem_nil _⟩⟩⟩)
      · have b222 : (h.buf).length ≤ 4194304 := LRd.le (RHost.buf (d := h) (S.arg hh))
        refine id (S.appFlat (α := TEntry) o14 ((RHost.buf (d := h) (S.arg hh))) (fun _ _ h => h) (by' := 32) (d := 12) (lx := 0) (ly := (h.buf).length) rfl rfl (by kernel_rfl) (show _ ≤ 4194304 by simp only [List.length_append, List.length_cons, List.length_nil]; omega) ?_)
        clear S; intro ac w N q218 F219 S up o220 d221
        have hb223 := fun b h => (⟨(up b (hb b h).1 (hb b h).2.2).1, (up b (hb b h).1 (hb b h).2.2).2.trans (hb b h).2.1⟩ : _ ∧ _)
        refine WD.stayK S (fun b h => ⟨(hb223 b h).1, (hb223 b h).2⟩) hB (fun _ _ h => h) ?_
        have d224 : Disj F8 F219 := d221 _ d217 o6.sub
        replace o6 := o6.upF d217 up
        clear up d221
        exact WD.ofW hW (by kernel_rfl) (hK161 ac w q218 F219 q7 F8 _ _ _ (S.prune (keep := [1, 2, 8, 12, 15]) (m := 2) (by kernel_rfl)) o220 o6 (Disj.symm d224) hb223 hB)
      · refine id (S.bs0 (α := TEntry) (d := 13) (by kernel_rfl) ?_)
        clear S; intro ac w N q225 F226 S up o227 d228
        have hb229 := fun b h => (⟨(up b (hb b h).1).1, (up b (hb b h).1).2.trans (hb b h).2.1, (hb b h).2.2, d228 b (hb b h).1⟩ : _ ∧ _ ∧ _ ∧ _)
        refine WD.stayK S (fun b h => ⟨(hb229 b h).1, (hb229 b h).2.1⟩) hB (fun _ _ h => h) ?_
        have d230 : Disj F8 F226 := fun b x y => d228 b (o6.sub b x) y
        have d231 : Disj F16 F226 := fun b x y => d228 b (o14.sub b x) y
        replace o6 := o6.up up
        replace o14 := o14.up up
        clear up d228
        exact WD.ofW hW (by kernel_rfl) (hK170 ac w q225 F226 q7 F8 q15 F16 _ _ _ (S.prune (keep := [1, 2, 8, 9, 11, 13, 15]) (m := 2) (by kernel_rfl)) o227 o6 o14 (Disj.symm d230) (Disj.symm d231) d217 hb229 hB)
      · refine S.stepq (i := 12) (keep := [1, 2, 3, 8, 9, 11, 15]) (m := 3) (σ' := ⟨[(1, .p 0 0), (2, .p 1 0), (3, .p 2 0), (8, .v (slv (h.mem).length q7.1)), (9, .v (slv 0 q15.1)), (11, .v (slv (h.buf).length ph.buf.1)), (15, .v (slv (h.iobuf).length ph.iobuf.1))], [GT.cells (α := THost) h ph, Zc THost, Zc THost]⟩) .nil (by kernel_rfl) ?_
        clear S; intro ac w β S hβ
        have hB2 := fun k (hk : k < 2) => (hβ k (Nat.lt_of_lt_of_le hk (Nat.le_of_ble_eq_true rfl))).trans (hB k hk)
        refine WD.stayK S (fun b h => ⟨(hb b h).1, (hb b h).2.1⟩) hB2 (bx_app rfl) ?_
        clear hβ
        exact WD.ofW hW (by kernel_rfl) (hK182 ac w q7 F8 q15 F16 _ _ _ (S.prune (keep := [1, 2, 3, 8, 9, 11, 15]) (m := 3) (by kernel_rfl)) o6 o14 d217 hb hB2)
    have hK232 : ∀ (ac : Act) (w : World) (q23 : GT.Ptr (List TEntry)) (F24 : Bl) (q7 : GT.Ptr (List (List Int))) (F8 : Bl) (u : World) (N : Bl) (β : Nat → Nat) (S : St Try.prog Try.f49.ntmps w0 NoB u N β ⟨[(1, .p 0 0), (2, .p 1 0), (8, .v (slv (h.mem).length q7.1)), (11, .v (slv (h.buf).length ph.buf.1)), (13, .v (slv 0 q23.1)), (15, .v (slv (h.iobuf).length ph.iobuf.1))], [GT.cells (α := THost) h ph, Zc THost]⟩ ac w) (o22 : Ow w0 NoB u N F24 ([] : List TEntry) q23) (o6 : Ow w0 NoB u N F8 h.mem q7) (d233 : Disj F24 F8) (hb : ∀ b, N0 b → N b ∧ u.heap[b]? = u0.heap[b]? ∧ ¬ F24 b) (hB : ∀ k, k < 2 → β k = β0 k), W 6 (mkL 14 [0, 1, 2, 4, 5, 7, 8, 9]) ac w := by
      intro ac w q23 F24 q7 F8 u N β S o22 o6 d233 hb hB
      rw [hW]
      refine WD.many (rs := [3, 12]) (by kernel_rfl) rfl (List.forall_mem_cons.2 ⟨?_, List.forall_mem_cons.2 ⟨?_, List.forall_mem_nil _⟩⟩)
      · refine id (S.bs0 (α := TEntry) (d := 9) (by kernel_rfl) ?_)
        clear S; intro ac w N q234 F235 S up o236 d237
        have hb238 := fun b h => (⟨(up b (hb b h).1).1, (up b (hb b h).1).2.trans (hb b h).2.1, d237 b (hb b h).1, (hb b h).2.2⟩ : _ ∧ _ ∧ _ ∧ _)
        refine WD.stayK S (fun b h => ⟨(hb238 b h).1, (hb238 b h).2.1⟩) hB (fun _ _ h => h) ?_
        have d239 : Disj F8 F235 := fun b x y => d237 b (o6.sub b x) y
        have d240 : Disj F24 F235 := fun b x y => d237 b (o22.sub b x) y
        replace o6 := o6.up up
        replace o22 := o22.up up
        clear up d237
        exact WD.ofW hW (by kernel_rfl) (hK170 ac w q23 F24 q7 F8 q234 F235 _ _ _ (S.prune (keep := [1, 2, 8, 9, 11, 13, 15]) (m := 2) (by kernel_rfl)) o22 o6 o236 d233 d240 d239 hb238 hB)
      · refine S.stepq (i := 12) (keep := [1, 2, 3, 8, 11, 13, 15]) (m := 3) (σ' := ⟨[(1, .p 0 0), (2, .p 1 0), (3, .p 2 0), (8, .v (slv (h.mem).length q7.1)), (11, .v (slv (h.buf).length ph.buf.1)), (13, .v (slv 0 q23.1)), (15, .v (slv (h.iobuf).length ph.iobuf.1))], [GT.cells (α := THost) h ph, Zc THost, Zc THost]⟩) .nil (by kernel_rfl) ?_
        clear S; intro ac w β S hβ
        have hB2 := fun k (hk : k < 2) => (hβ k (Nat.lt_of_lt_of_le hk (Nat.le_of_ble_eq_true rfl))).trans (hB k hk)
        refine WD.stayK S (fun b h => ⟨(hb b h).1, (hb b h).2.1⟩) hB2 (bx_app rfl) ?_
        clear hβ
        exact WD.ofW hW (by kernel_rfl) (hK198 ac w q23 F24 q7 F8 _ _ _ (S.prune (keep := [1, 2, 3, 8, 11, 13, 15]) (m := 3) (by kernel_rfl)) o22 o6 d233 hb hB2)
    have hK241 : ∀ (ac : Act) (w : World) (q7 : GT.Ptr (List (List Int))) (F8 : Bl) (u : World) (N : Bl) (β : Nat → Nat) (S : St Try.prog Try.f49.ntmps w0 NoB u N β ⟨[(1, .p 0 0), (2, .p 1 0), (3, .p 2 0), (8, .v (slv (h.mem).length q7.1)), (11, .v (slv (h.buf).length ph.buf.1)), (15, .v (slv (h.iobuf).length ph.iobuf.1))], [GT.cells (α := THost) h ph, Zc THost, Zc THost]⟩ ac w) (o6 : Ow w0 NoB u N F8 h.mem q7) (hb : ∀ b, N0 b → N b ∧ u.heap[b]? = u0.heap[b]?) (hB : ∀ k, k < 2 → β k = β0 k), W 6 (mkL 14 [0, 1, 2, 4, 5, 8, 9, 12]) ac w := by
      intro ac w q7 F8 u N β S o6 hb hB
      rw [hW]
      refine WD.many (rs := [3, 7]) (by kernel_rfl) rfl (List.forall_mem_cons.2 ⟨?_, List.forall_mem_cons.2 ⟨?_, List.forall_mem_nil _⟩⟩)
      · refine id (S.bs0 (α := TEntry) (d := 9) (by kernel_rfl) ?_)
        clear S; intro ac w N q242 F243 S up o244 d245
        have hb246 := fun b h => (⟨(up b (hb b h).1).1, (up b (hb b h).1).2.trans (hb b h).2, d245 b (hb b h).1⟩ : _ ∧ _ ∧ _)
        refine WD.stayK S (fun b h => ⟨(hb246 b h).1, (hb246 b h).2.1⟩) hB (bx_app rfl) ?_
        have d247 : Disj F8 F243 := fun b x y => d245 b (o6.sub b x) y
        replace o6 := o6.up up
        clear up d245
        exact WD.ofW hW (by kernel_rfl) (hK182 ac w q7 F8 q242 F243 _ _ _ (S.prune (keep := [1, 2, 3, 8, 9, 11, 15]) (m := 3) (by kernel_rfl)) o6 o244 d247 hb246 hB)
      · refine id (S.bs0 (α := TEntry) (d := 13) (by kernel_rfl) ?_)
        clear S; intro ac w N q248 F249 S up o250 d251
        have hb252 := fun b h => (⟨(up b (hb b h).1).1, (up b (hb b h).1).2.trans (hb b h).2, d251 b (hb b h).1⟩ : _ ∧ _ ∧ _)
        refine WD.stayK S (fun b h => ⟨(hb252 b h).1, (hb252 b h).2.1⟩) hB (bx_app rfl) ?_
        have d253 : Disj F8 F249 := fun b x y => d251 b (o6.sub b x) y
        replace o6 := o6.up up
        clear up d251
        exact WD.ofW hW (by kernel_rfl) (hK198 ac w q248 F249 q7 F8 _ _ _ (S.prune (keep := [1, 2, 3, 8, 11, 13, 15]) (m := 3) (by kernel_rfl)) o250 o6 (Disj.symm d253) hb252 hB)
    have hK254 : ∀ (ac : Act) (w : World) (q23 : GT.Ptr (List TEntry)) (F24 : Bl) (q15 : GT.Ptr (List TEntry)) (F16 : Bl) (u : World) (N : Bl) (β : Nat → Nat) (S : St Try.prog Try.f49.ntmps w0 NoB u N β ⟨[(1, .p 0 0), (2, .p 1 0), (7, .v (slv (h.mem).length ph.mem.1)), (9, .v (slv 0 q15.1)), (11, .v (slv (h.buf).length ph.buf.1)), (13, .v (slv 0 q23.1)), (15, .v (slv (h.iobuf).length ph.iobuf.1))], [GT.cells (α := THost) h ph, Zc THost]⟩ ac w) (o22 : Ow w0 NoB u N F24 ([] : List TEntry) q23) (o14 : Ow w0 NoB u N F16 ([] : List TEntry) q15) (d255 : Disj F24 F16) (hb : ∀ b, N0 b → N b ∧ u.heap[b]? = u0.heap[b]? ∧ ¬ F16 b ∧ ¬ F24 b) (hB : ∀ k, k < 2 → β k = β0 k), W 6 (mkL 14 [0, 1, 3, 4, 5, 7, 8, 9]) ac w := by
      intro ac w q23 F24 q15 F16 u N β S o22 o14 d255 hb hB
      rw [hW]
      refine WD.many (rs := [2, 12]) (by kernel_rfl) rfl (List.forall_mem_cons.2 ⟨?_, List.forall_mem_cons.2 ⟨?_, List.forall_mem_nil _⟩⟩)
      · refine id (S.call1 (r := h.mem) (d := 8) (c_impl_copyMem w h.mem ph.mem (S.rd (RHost.mem (d := h) (S.arg hh)))) (by kernel_rfl) rfl ?_)
        clear S; intro ac w N q256 F257 S up o258 d259
        have hb260 := fun b h => (⟨(up b (hb b h).1).1, (up b (hb b h).1).2.trans (hb b h).2.1, (hb b h).2.2.1, (hb b h).2.2.2⟩ : _ ∧ _ ∧ _ ∧ _)
        refine WD.stayK S (fun b h => ⟨(hb260 b h).1, (hb260 b h).2.1⟩) hB (fun _ _ h => h) ?_
        have d261 : Disj F16 F257 := fun b x y => d259 b (o14.sub b x) y
        have d262 : Disj F24 F257 := fun b x y => d259 b (o22.sub b x) y
        replace o14 := o14.up up
        replace o22 := o22.up up
        clear up d259
        exact WD.ofW hW (by kernel_rfl) (hK170 ac w q23 F24 q256 F257 q15 F16 _ _ _ (S.prune (keep := [1, 2, 8, 9, 11, 13, 15]) (m := 2) (by kernel_rfl)) o22 o258 o14 d262 d255 (Disj.symm d261) hb260 hB)
      · refine S.stepq (i := 12) (keep := [1, 2, 3, 7, 9, 11, 13, 15]) (m := 3) (σ' := ⟨[(1, .p 0 0), (2, .p 1 0), (3, .p 2 0), (7, .v (slv (h.mem).length ph.mem.1)), (9, .v (slv 0 q15.1)), (11, .v (slv (h.buf).length ph.buf.1)), (13, .v (slv 0 q23.1)), (15, .v (slv (h.iobuf).length ph.iobuf.1))], [GT.cells (α := THost) h ph, Zc THost, Zc THost]⟩) .nil (by kernel_rfl) ?_
        clear S; intro ac w β S hβ
        have hB2 := fun k (hk : k < 2) => (hβ k (Nat.lt_of_lt_of_le hk (Nat.le_of_ble_eq_true rfl))).trans (hB k hk)
        refine WD.stayK S (fun b h => ⟨(hb b h).1, (hb b h).2.1⟩) hB2 (bx_app rfl) ?_
        clear hβ
        exact WD.ofW hW (by kernel_rfl) (hK207 ac w q23 F24 q15 F16 _ _ _ (S.prune (keep := [1, 2, 3, 7, 9, 11, 13, 15]) (m := 3) (by kernel_rfl)) o22 o14 d255 hb hB2)
    have hK263 : ∀ (ac : Act) (w : World) (q15 : GT.Ptr (List TEntry)) (F16 : Bl) (u : World) (N : Bl) (β : Nat → Nat) (S : St Try.prog Try.f49.ntmps w0 NoB u N β ⟨[(1, .p 0 0), (2, .p 1 0), (3, .p 2 0), (7, .v (slv (h.mem).length ph.mem.1)), (9, .v (slv 0 q15.1)), (11, .v (slv (h.buf).length ph.buf.1)), (15, .v (slv (h.iobuf).length ph.iobuf.1))], [GT.cells (α := THost) h ph, Zc THost, Zc THost]⟩ ac w) (o14 : Ow w0 NoB u N F16 ([] : List TEntry) q15) (hb : ∀ b, N0 b → N b ∧ u.heap[b]? = u0.heap[b]? ∧ ¬ F16 b) (hB : ∀ k, k < 2 → β k = β0 k), W 6 (mkL 14 [0, 1, 3, 4, 5, 8, 9, 12]) ac w := by
      intro ac w q15 F16 u N β S o14 hb hB
      rw [hW]
      refine WD.many (rs := [2, 7]) (by kernel_rfl) rfl (List.forall_mem_cons.2 ⟨?_, List.forall_mem_cons.2 ⟨?_, List.forall_mem_nil _⟩⟩)
      · refine id (S.call1 (r := h.mem) (d := 8) (c_impl_copyMem w h.mem ph.mem (S.rd (RHost.mem (d := h) (S.arg hh)))) (by kernel_rfl) rfl ?_)
        clear S; intro ac w N q264 F265 S up o266 d267
        have hb268 := fun b h => (⟨(up b (hb b h).1).1, (up b (hb b h).1).2.trans (hb b h).2.1, (hb b h).2.2⟩ : _ ∧ _ ∧ _)
        refine WD.stayK S (fun b h => ⟨(hb268 b h).1, (hb268 b h).2.1⟩) hB (bx_app rfl) ?_
        have d269 : Disj F16 F265 := fun b x y => d267 b (o14.sub b x) y
        replace o14 := o14.up up
        clear up d267
        exact WD.ofW hW (by kernel_rfl) (hK182 ac w q264 F265 q15 F16 _ _ _ (S.prune (keep := [1, 2, 3, 8, 9, 11, 15]) (m := 3) (by kernel_rfl)) o266 o14 (Disj.symm d269) hb268 hB)
      · refine id (S.bs0 (α := TEntry) (d := 13) (by kernel_rfl) ?_)
        clear S; intro ac w N q270 F271 S up o272 d273
        have hb274 := fun b h => (⟨(up b (hb b h).1).1, (up b (hb b h).1).2.trans (hb b h).2.1, (hb b h).2.2, d273 b (hb b h).1⟩ : _ ∧ _ ∧ _ ∧ _)
        refine WD.stayK S (fun b h => ⟨(hb274 b h).1, (hb274 b h).2.1⟩) hB (bx_app rfl) ?_
        have d275 : Disj F16 F271 := fun b x y => d273 b (o14.sub b x) y
        replace o14 := o14.up up
        clear up d273
        exact WD.ofW hW (by kernel_rfl) (hK207 ac w q270 F271 q15 F16 _ _ _ (S.prune (keep := [1, 2, 3, 7, 9, 11, 13, 15]) (m := 3) (by kernel_rfl)) o272 o14 (Disj.symm d275) hb274 hB)
    have hK276 : ∀ (ac : Act) (w : World) (q23 : GT.Ptr (List TEntry)) (F24 : Bl) (u : World) (N : Bl) (β : Nat → Nat) (S : St Try.prog Try.f49.ntmps w0 NoB u N β ⟨[(1, .p 0 0), (2, .p 1 0), (3, .p 2 0), (7, .v (slv (h.mem).length ph.mem.1)), (11, .v (slv (h.buf).length ph.buf.1)), (13, .v (slv 0 q23.1)), (15, .v (slv (h.iobuf).length ph.iobuf.1))], [GT.cells (α := THost) h ph, Zc THost, Zc THost]⟩ ac w) (o22 : Ow w0 NoB u N F24 ([] : List TEntry) q23) (hb : ∀ b, N0 b → N b ∧ u.heap[b]? = u0.heap[b]? ∧ ¬ F24 b) (hB : ∀ k, k < 2 → β k = β0 k), W 6 (mkL 14 [0, 1, 4, 5, 7, 8, 9, 12]) ac w := by
      intro ac w q23 F24 u N β S o22 hb hB
      rw [hW]
      refine WD.many (rs := [2, 3]) (by kernel_rfl) rfl (List.forall_mem_cons.2 ⟨?_, List.forall_mem_cons.2 ⟨?_, List.forall_mem_nil _⟩⟩)
      · refine id (S.call1 (r := h.mem) (d := 8) (c_impl_copyMem w h.mem ph.mem (S.rd (RHost.mem (d := h) (S.arg hh)))) (by kernel_rfl) rfl ?_)
        clear S; intro ac w N q277 F278 S up o279 d280
        have hb281 := fun b h => (⟨(up b (hb b h).1).1, (up b (hb b h).1).2.trans (hb b h).2.1, (hb b h).2.2⟩ : _ ∧ _ ∧ _)
        refine WD.stayK S (fun b h => ⟨(hb281 b h).1, (hb281 b h).2.1⟩) hB (bx_app rfl) ?_
        have d282 : Disj F24 F278 := fun b x y => d280 b (o22.sub b x) y
        replace o22 := o22.up up
        clear up d280
        exact WD.ofW hW (by kernel_rfl) (hK198 ac w q23 F24 q277 F278 _ _ _ (S.prune (keep := [1, 2, 3, 8, 11, 13, 15]) (m := 3) (by kernel_rfl)) o22 o279 d282 hb281 hB)
      · refine id (S.bs0 (α := TEntry) (d := 9) (by kernel_rfl) ?_)
        clear S; intro ac w N q283 F284 S up o285 d286
        have hb287 := fun b h => (⟨(up b (hb b h).1).1, (up b (hb b h).1).2.trans (hb b h).2.1, d286 b (hb b h).1, (hb b h).2.2⟩ : _ ∧ _ ∧ _ ∧ _)
        refine WD.stayK S (fun b h => ⟨(hb287 b h).1, (hb287 b h).2.1⟩) hB (bx_app rfl) ?_
        have d288 : Disj F24 F284 := fun b x y => d286 b (o22.sub b x) y
        replace o22 := o22.up up
        clear up d286
        exact WD.ofW hW (by kernel_rfl) (hK207 ac w q23 F24 q283 F284 _ _ _ (S.prune (keep := [1, 2, 3, 7, 9, 11, 13, 15]) (m := 3) (by kernel_rfl)) o22 o285 d288 hb287 hB)
    have hK289 : ∀ (ac : Act) (w : World) (q7 : GT.Ptr (List (List Int))) (F8 : Bl) (u : World) (N : Bl) (β : Nat → Nat) (S : St Try.prog Try.f49.ntmps w0 NoB u N β ⟨[(1, .p 0 0), (2, .p 1 0), (8, .v (slv (h.mem).length q7.1)), (11, .v (slv (h.buf).length ph.buf.1)), (15, .v (slv (h.iobuf).length ph.iobuf.1))], [GT.cells (α := THost) h ph, Zc THost]⟩ ac w) (o6 : Ow w0 NoB u N F8 h.mem q7) (hb : ∀ b, N0 b → N b ∧ u.heap[b]? = u0.heap[b]?) (hB : ∀ k, k < 2 → β k = β0 k), W 7 (mkL 14 [0, 1, 2, 4, 5, 8, 9]) ac w := by
      intro ac w q7 F8 u N β S o6 hb hB
      rw [hW]
      refine WD.many (rs := [3, 7, 12]) (by kernel_rfl) rfl (List.forall_mem_cons.2 ⟨?_, List.forall_mem_cons.2 ⟨?_, List.forall_mem_cons.2 ⟨?_, List.forall_mem_nil _⟩⟩⟩)
      · refine id (S.bs0 (α := TEntry) (d := 9) (by kernel_rfl) ?_)
        clear S; intro ac w N q290 F291 S up o292 d293
        have hb294 := fun b h => (⟨(up b (hb b h).1).1, (up b (hb b h).1).2.trans (hb b h).2, d293 b (hb b h).1⟩ : _ ∧ _ ∧ _)
        refine WD.stayK S (fun b h => ⟨(hb294 b h).1, (hb294 b h).2.1⟩) hB (fun _ _ h => h) ?_
        have d295 : Disj F8 F291 := fun b x y => d293 b (o6.sub b x) y
        replace o6 := o6.up up
        clear up d293
        exact WD.ofW hW (by kernel_rfl) (hK216 ac w q7 F8 q290 F291 _ _ _ (S.prune (keep := [1, 2, 8, 9, 11, 15]) (m := 2) (by kernel_rfl)) o6 o292 d295 hb294 hB)
      · refine id (S.bs0 (α := TEntry) (d := 13) (by kernel_rfl) ?_)
        clear S; intro ac w N q296 F297 S up o298 d299
        have hb300 := fun b h => (⟨(up b (hb b h).1).1, (up b (hb b h).1).2.trans (hb b h).2, d299 b (hb b h).1⟩ : _ ∧ _ ∧ _)
        refine WD.stayK S (fun b h => ⟨(hb300 b h).1, (hb300 b h).2.1⟩) hB (fun _ _ h => h) ?_
        have d301 : Disj F8 F297 := fun b x y => d299 b (o6.sub b x) y
        replace o6 := o6.up up
        clear up d299
        exact WD.ofW hW (by kernel_rfl) (hK232 ac w q296 F297 q7 F8 _ _ _ (S.prune (keep := [1, 2, 8, 11, 13, 15]) (m := 2) (by kernel_rfl)) o298 o6 (Disj.symm d301) hb300 hB)
      · refine S.stepq (i := 12) (keep := [1, 2, 3, 8, 11, 15]) (m := 3) (σ' := ⟨[(1, .p 0 0), (2, .p 1 0), (3, .p 2 0), (8, .v (slv (h.mem).length q7.1)), (11, .v (slv (h.buf).length ph.buf.1)), (15, .v (slv (h.iobuf).length ph.iobuf.1))], [GT.cells (α := THost) h ph, Zc THost, Zc THost]⟩) .nil (by kernel_rfl) ?_
        clear S; intro ac w β S hβ
        have hB2 := fun k (hk : k < 2) => (hβ k (Nat.lt_of_lt_of_le hk (Nat.le_of_ble_eq_true rfl))).trans (hB k hk)
        refine WD.stayK S (fun b h => ⟨(hb b h).1, (hb b h).2⟩) hB2 (bx_app rfl) ?_
        clear hβ
        exact WD.ofW hW (by kernel_rfl) (hK241 ac w q7 F8 _ _ _ (S.prune (keep := [1, 2, 3, 8, 11, 15]) (m := 3) (by kernel_rfl)) o6 hb hB2)
    have hK302 : ∀ (ac : Act) (w : World) (q15 : GT.Ptr (List TEntry)) (F16 : Bl) (u : World) (N : Bl) (β : Nat → Nat) (S : St Try.prog Try.f49.ntmps w0 NoB u N β ⟨[(1, .p 0 0), (2, .p 1 0), (7, .v (slv (h.mem).length ph.mem.1)), (9, .v (slv 0 q15.1)), (11, .v (slv (h.buf).length ph.buf.1)), (15, .v (slv (h.iobuf).length ph.iobuf.1))], [GT.cells (α := THost) h ph, Zc THost]⟩ ac w) (o14 : Ow w0 NoB u N F16 ([] : List TEntry) q15) (hb : ∀ b, N0 b → N b ∧ u.heap[b]? = u0.heap[b]? ∧ ¬ F16 b) (hB : ∀ k, k < 2 → β k = β0 k), W 7 (mkL 14 [0, 1, 3, 4, 5, 8, 9]) ac w := by
      intro ac w q15 F16 u N β S o14 hb hB
      rw [hW]
      refine WD.many (rs := [2, 7, 12]) (by kernel_rfl) rfl (List.forall_mem_cons.2 ⟨?_, List.forall_mem_cons.2 ⟨?_, List.forall_mem_cons.2 ⟨?_, List.forall_mem_nil _⟩⟩⟩)
      · refine id (S.call1 (r := h.mem) (d := 8) (c_impl_copyMem w h.mem ph.mem (S.rd (RHost.mem (d := h) (S.arg hh)))) (by kernel_rfl) rfl ?_)
        clear S; intro ac w N q303 F304 S up o305 d306
        have hb307 := fun b h => (⟨(up b (hb b h).1).1, (up b (hb b h).1).2.trans (hb b h).2.1, (hb b h).2.2⟩ : _ ∧ _ ∧ _)
        refine WD.stayK S (fun b h => ⟨(hb307 b h).1, (hb307 b h).2.1⟩) hB (fun _ _ h => h) ?_
        have d308 : Disj F16 F304 := fun b x y => d306 b (o14.sub b x) y
        replace o14 := o14.up up
        clear up d306
        exact WD.ofW hW (by kernel_rfl) (hK216 ac w q303 F304 q15 F16 _ _ _ (S.prune (keep := [1, 2, 8, 9, 11, 15]) (m := 2) (by kernel_rfl)) o305 o14 (Disj.symm d308) hb307 hB)
      · refine id (S.bs0 (α := TEntry) (d := 13) (by kernel_rfl) ?_)
        clear S; intro ac w N q309 F310 S up o311 d312
        have hb313 := fun b h => (⟨(up b (hb b h).1).1, (up b (hb b h).1).2.trans (hb b h).2.1, (hb b h).2.2, d312 b (hb b h).1⟩ : _ ∧ _ ∧ _ ∧ _)
        refine WD.stayK S (fun b h => ⟨(hb313 b h).1, (hb313 b h).2.1⟩) hB (fun _ _ h => h) ?_
        have d314 : Disj F16 F310 := fun b x y => d312 b (o14.sub b x) y
        replace o14 := o14.up up
        clear up d312
        exact WD.ofW hW (by kernel_rfl) (hK254 ac w q309 F310 q15 F16 _ _ _ (S.prune (keep := [1, 2, 7, 9, 11, 13, 15]) (m := 2) (by kernel_rfl)) o311 o14 (Disj.symm d314) hb313 hB)
      · refine S.stepq (i := 12) (keep := [1, 2, 3, 7, 9, 11, 15]) (m := 3) (σ' := ⟨[(1, .p 0 0), (2, .p 1 0), (3, .p 2 0), (7, .v (slv (h.mem).length ph.mem.1)), (9, .v (slv 0 q15.1)), (11, .v (slv (h.buf).length ph.buf.1)), (15, .v (slv (h.iobuf).length ph.iobuf.1))], [GT.cells (α := THost) h ph, Zc THost, Zc THost]⟩) .nil (by kernel_rfl) ?_
        clear S; intro ac w β S hβ
        have hB2 := fun k (hk : k < 2) => (hβ k (Nat.lt_of_lt_of_le hk (Nat.le_of_ble_eq_true rfl))).trans (hB k hk)
        refine WD.stayK S (fun b h => ⟨(hb b h).1, (hb b h).2.1⟩) hB2 (bx_app rfl) ?_
        clear hβ
        exact WD.ofW hW (by kernel_rfl) (hK263 ac w q15 F16 _ _ _ (S.prune (keep := [1, 2, 3, 7, 9, 11, 15]) (m := 3) (by kernel_rfl)) o14 hb hB2)
    have hK315 : ∀ (ac : Act) (w : World) (q23 : GT.Ptr (List TEntry)) (F24 : Bl) (u : World) (N : Bl) (β : Nat → Nat) (S : St Try.prog Try.f49.ntmps w0 NoB u N β ⟨[(1, .p 0 0), (2, .p 1 0), (7, .v (slv (h.mem).length ph.mem.1)), (11, .v (slv (h.buf).length ph.buf.1)), (13, .v (slv 0 q23.1)), (15, .v (slv (h.iobuf).length ph.iobuf.1))], [GT.cells (α := THost) h ph, Zc THost]⟩ ac w) (o22 : Ow w0 NoB u N F24 ([] : List TEntry) q23) (hb : ∀ b, N0 b → N b ∧ u.heap[b]? = u0.heap[b]? ∧ ¬ F24 b) (hB : ∀ k, k < 2 → β k = β0 k), W 7 (mkL 14 [0, 1, 4, 5, 7, 8, 9]) ac w := by
      intro ac w q23 F24 u N β S o22 hb hB
      rw [hW]
      refine WD.many (rs := [2, 3, 12]) (by kernel_rfl) rfl (List.forall_mem_cons.2 ⟨?_, List.forall_mem_cons.2 ⟨?_, List.forall_mem_cons.2 ⟨?_, List.forall_mem_nil _⟩⟩⟩)
      · refine id (S.call1 (r := h.mem) (d := 8) (c_impl_copyMem w h.mem ph.mem (S.rd (RHost.mem (d := h) (S.arg hh)))) (by kernel_rfl) rfl ?_)
        clear S; intro ac w N q316 F317 S up o318 d319
        have hb320 := fun b h => (⟨(up b (hb b h).1).1, (up b (hb b h).1).2.trans (hb b h).2.1, (hb b h).2.2⟩ : _ ∧ _ ∧ _)
        refine WD.stayK S (fun b h => ⟨(hb320 b h).1, (hb320 b h).2.1⟩) hB (fun _ _ h => h) ?_
        have d321 : Disj F24 F317 := fun b x y => d319 b (o22.sub b x) y
        replace o22 := o22.up up
        clear up d319
        exact WD.ofW hW (by kernel_rfl) (hK232 ac w q23 F24 q316 F317 _ _ _ (S.prune (keep := [1, 2, 8, 11, 13, 15]) (m := 2) (by kernel_rfl)) o22 o318 d321 hb320 hB)
      · refine id (S.bs0 (α := TEntry) (d := 9) (by kernel_rfl) ?_)
        clear S; intro ac w N q322 F323 S up o324 d325
        have hb326 := fun b h => (⟨(up b (hb b h).1).1, (up b (hb b h).1).2.trans (hb b h).2.1, d325 b (hb b h).1, (hb b h).2.2⟩ : _ ∧ _ ∧ _ ∧ _)
        refine WD.stayK S (fun b h => ⟨(hb326 b h).1, (hb326 b h).2.1⟩) hB (fun _ _ h => h) ?_
        have d327 : Disj F24 F323 := fun b x y => d325 b (o22.sub b x) y
        replace o22 := o22.up up
        clear up d325
        exact WD.ofW hW (by kernel_rfl) (hK254 ac w q23 F24 q322 F323 _ _ _ (S.prune (keep := [1, 2, 7, 9, 11, 13, 15]) (m := 2) (by kernel_rfl)) o22 o324 d327 hb326 hB)
      · refine S.stepq (i := 12) (keep := [1, 2, 3, 7, 11, 13, 15]) (m := 3) (σ' := ⟨[(1, .p 0 0), (2, .p 1 0), (3, .p 2 0), (7, .v (slv (h.mem).length ph.mem.1)), (11, .v (slv (h.buf).length ph.buf.1)), (13, .v (slv 0 q23.1)), (15, .v (slv (h.iobuf).length ph.iobuf.1))], [GT.cells (α := THost) h ph, Zc THost, Zc THost]⟩) .nil (by kernel_rfl) ?_
        clear S; intro ac w β S hβ
        have hB2 := fun k (hk : k < 2) => (hβ k (Nat.lt_of_lt_of_le hk (Nat.le_of_ble_eq_true rfl))).trans (hB k hk)
        refine WD.stayK S (fun b h => ⟨(hb b h).1, (hb b h).2.1⟩) hB2 (bx_app rfl) ?_
        clear hβ
        exact WD.ofW hW (by kernel_rfl) (hK276 ac w q23 F24 _ _ _ (S.prune (keep := [1, 2, 3, 7, 11, 13, 15]) (m := 3) (by kernel_rfl)) o22 hb hB2)
    have hK328 : ∀ (ac : Act) (w : World)  (u : World) (N : Bl) (β : Nat → Nat) (S : St Try.prog Try.f49.ntmps w0 NoB u N β ⟨[(1, .p 0 0), (2, .p 1 0), (3, .p 2 0), (7, .v (slv (h.mem).length ph.mem.1)), (11, .v (slv (h.buf).length ph.buf.1)), (15, .v (slv (h.iobuf).length ph.iobuf.1))], [GT.cells (α := THost) h ph, Zc THost, Zc THost]⟩ ac w) (hb : ∀ b, N0 b → N b ∧ u.heap[b]? = u0.heap[b]?) (hB : ∀ k, k < 2 → β k = β0 k), W 7 (mkL 14 [0, 1, 4, 5, 8, 9, 12]) ac w := by
      intro ac w  u N β S hb hB
      rw [hW]
      refine WD.many (rs := [2, 3, 7]) (by kernel_rfl) rfl (List.forall_mem_cons.2 ⟨?_, List.forall_mem_cons.2 ⟨?_, List.forall_mem_cons.2 ⟨?_, List.forall_mem_nil _⟩⟩⟩)
      · refine id (S.call1 (r := h.mem) (d := 8) (c_impl_copyMem w h.mem ph.mem (S.rd (RHost.mem (d := h) (S.arg hh)))) (by kernel_rfl) rfl ?_)
        clear S; intro ac w N q329 F330 S up o331 d332
        have hb333 := fun b h => (⟨(up b (hb b h).1).1, (up b (hb b h).1).2.trans (hb b h).2⟩ : _ ∧ _)
        refine WD.stayK S (fun b h => ⟨(hb333 b h).1, (hb333 b h).2⟩) hB (bx_app rfl) ?_
        clear up d332
        exact WD.ofW hW (by kernel_rfl) (hK241 ac w q329 F330 _ _ _ (S.prune (keep := [1, 2, 3, 8, 11, 15]) (m := 3) (by kernel_rfl)) o331 hb333 hB)
      · refine id (S.bs0 (α := TEntry) (d := 9) (by kernel_rfl) ?_)
        clear S; intro ac w N q334 F335 S up o336 d337
        have hb338 := fun b h => (⟨(up b (hb b h).1).1, (up b (hb b h).1).2.trans (hb b h).2, d337 b (hb b h).1⟩ : _ ∧ _ ∧ _)
        refine WD.stayK S (fun b h => ⟨(hb338 b h).1, (hb338 b h).2.1⟩) hB (bx_app rfl) ?_
        clear up d337
        exact WD.ofW hW (by kernel_rfl) (hK263 ac w q334 F335 _ _ _ (S.prune (keep := [1, 2, 3, 7, 9, 11, 15]) (m := 3) (by kernel_rfl)) o336 hb338 hB)
      · refine id (S.bs0 (α := TEntry) (d := 13) (by kernel_rfl) ?_)
        clear S; intro ac w N q339 F340 S up o341 d342
        have hb343 := fun b h => (⟨(up b (hb b h).1).1, (up b (hb b h).1).2.trans (hb b h).2, d342 b (hb b h).1⟩ : _ ∧ _ ∧ _)
        refine WD.stayK S (fun b h => ⟨(hb343 b h).1, (hb343 b h).2.1⟩) hB (bx_app rfl) ?_
        clear up d342
        exact WD.ofW hW (by kernel_rfl) (hK276 ac w q339 F340 _ _ _ (S.prune (keep := [1, 2, 3, 7, 11, 13, 15]) (m := 3) (by kernel_rfl)) o341 hb343 hB)
    have hb : ∀ b, N0 b → N0 b ∧ u0.heap[b]? = u0.heap[b]? := fun b h => ⟨h, rfl⟩
    have hB : ∀ k, k < 2 → β0 k = β0 k := fun _ _ => rfl
    rw [hW]
    refine WD.many (rs := [2, 3, 7, 12]) (by kernel_rfl) rfl (List.forall_mem_cons.2 ⟨?_, List.forall_mem_cons.2 ⟨?_, List.forall_mem_cons.2 ⟨?_, List.forall_mem_cons.2 ⟨?_, List.forall_mem_nil _⟩⟩⟩⟩)
    · refine id (S.call1 (r := h.mem) (d := 8) (c_impl_copyMem w h.mem ph.mem (S.rd (RHost.mem (d := h) (S.arg hh)))) (by kernel_rfl) rfl ?_)
      clear S; intro ac w N q344 F345 S up o346 d347
      have hb348 := fun b h => (⟨(up b (hb b h).1).1, (up b (hb b h).1).2.trans (hb b h).2⟩ : _ ∧ _)
      refine WD.stayK S (fun b h => ⟨(hb348 b h).1, (hb348 b h).2⟩) hB (fun _ _ h => h) ?_
      clear up d347
      exact WD.ofW hW (by kernel_rfl) (hK289 ac w q344 F345 _ _ _ (S.prune (keep := [1, 2, 8, 11, 15]) (m := 2) (by kernel_rfl)) o346 hb348 hB)
    · refine id (S.bs0 (α := TEntry) (d := 9) (by kernel_rfl) ?_)
      clear S; intro ac w N q349 F350 S up o351 d352
      have hb353 := fun b h => (⟨(up b (hb b h).1).1, (up b (hb b h).1).2.trans (hb b h).2, d352 b (hb b h).1⟩ : _ ∧ _ ∧ _)
      refine WD.stayK S (fun b h => ⟨(hb353 b h).1, (hb353 b h).2.1⟩) hB (fun _ _ h => h) ?_
      clear up d352
      exact WD.ofW hW (by kernel_rfl) (hK302 ac w q349 F350 _ _ _ (S.prune (keep := [1, 2, 7, 9, 11, 15]) (m := 2) (by kernel_rfl)) o351 hb353 hB)
    · refine id (S.bs0 (α := TEntry) (d := 13) (by kernel_rfl) ?_)
      clear S; intro ac w N q354 F355 S up o356 d357
      have hb358 := fun b h => (⟨(up b (hb b h).1).1, (up b (hb b h).1).2.trans (hb b h).2, d357 b (hb b h).1⟩ : _ ∧ _ ∧ _)
      refine WD.stayK S (fun b h => ⟨(hb358 b h).1, (hb358 b h).2.1⟩) hB (fun _ _ h => h) ?_
      clear up d357
      exact WD.ofW hW (by kernel_rfl) (hK315 ac w q354 F355 _ _ _ (S.prune (keep := [1, 2, 7, 11, 13, 15]) (m := 2) (by kernel_rfl)) o356 hb358 hB)
    · refine S.stepq (i := 12) (keep := [1, 2, 3, 7, 11, 15]) (m := 3) (σ' := ⟨[(1, .p 0 0), (2, .p 1 0), (3, .p 2 0), (7, .v (slv (h.mem).length ph.mem.1)), (11, .v (slv (h.buf).length ph.buf.1)), (15, .v (slv (h.iobuf).length ph.iobuf.1))], [GT.cells (α := THost) h ph, Zc THost, Zc THost]⟩) .nil (by kernel_rfl) ?_
      clear S; intro ac w β S hβ
      have hB2 := fun k (hk : k < 2) => (hβ k (Nat.lt_of_lt_of_le hk (Nat.le_of_ble_eq_true rfl))).trans (hB k hk)
      refine WD.stayK S (fun b h => ⟨(hb b h).1, (hb b h).2⟩) hB2 (bx_app rfl) ?_
      clear hβ
      exact WD.ofW hW (by kernel_rfl) (hK328 ac w  _ _ _ (S.prune (keep := [1, 2, 3, 7, 11, 15]) (m := 3) (by kernel_rfl))  hb hB2)
  clear S
  rintro ac w ⟨q91, F92, q94, F95, q88, F89, u, N, β, S, o90, o93, o87, d359, d360, d361⟩
  refine id (nx_then ?_)
  refine wp_seq ?_
  refine wp_seq ?_
  refine RG.start ?_
  refine S.quiet (k := 4) (keep := [2, 3, 19, 20, 21]) (m := 3) (σ' := ⟨[(2, .p 1 0), (3, .p 2 0), (19, .v (slv (h.mons).length ph.mons.1)), (20, .v (I ((h.mons).length : Int))), (21, .v (I 0))], [GT.cells (α := THost) h ph, Zc THost, [slv (h.mem).length q88.1, slv (([] : List TMon)).length (GT.pdflt (α := List TMon)).1, slv ((([] : List TEntry) ++ h.buf)).length q91.1, slv ((([] : List TEntry) ++ h.iobuf)).length q94.1]]⟩) .nil (by kernel_rfl) ?_
  clear S; intro ac w β S
  refine RG.done rfl (nx_then ?_)
  refine wp_block ?_
  replace S := S.prune (keep := [2, 3, 19, 20, 21]) (m := 3) (σ' := ⟨[(2, .p 1 0), (3, .p 2 0), (19, .v (slv (h.mons).length ph.mons.1)), (20, .v (I ((h.mons).length : Int))), (21, .v (I 0))], [GT.cells (α := THost) h ph, Zc THost, [slv (h.mem).length q88.1, slv (([] : List TMon)).length (GT.pdflt (α := List TMon)).1, slv ((([] : List TEntry) ++ h.buf)).length q91.1, slv ((([] : List TEntry) ++ h.iobuf)).length q94.1]]⟩) (by kernel_rfl)
  have o365 := S.nilOw (α := TMon)
  refine wp_loop_down (fun mm ac w => ∃ (i : Nat) (acc : List TMon) (q362 : GT.Ptr (List TMon)) (F363 : Bl) (u : World) (N : Bl) (β : Nat → Nat), mm = h.mons.length - i ∧ (i ≤ h.mons.length) ∧ (acc = h.mons.take i) ∧ St Try.prog Try.f49.ntmps w0 NoB u N β ⟨[(2, .p 1 0), (3, .p 2 0), (19, .v (slv (h.mons).length ph.mons.1)), (20, .v (I ((h.mons).length : Int))), (21, .v (I (i : Int)))], [GT.cells (α := THost) h ph, Zc THost, [slv (h.mem).length q88.1, slv (acc).length q362.1, slv ((([] : List TEntry) ++ h.buf)).length q91.1, slv ((([] : List TEntry) ++ h.iobuf)).length q94.1]]⟩ ac w ∧ Ow w0 NoB u N F363 acc q362 ∧ Ow w0 NoB u N F89 h.mem q88 ∧ Ow w0 NoB u N F92 (([] : List TEntry) ++ h.buf) q91 ∧ Ow w0 NoB u N F95 (([] : List TEntry) ++ h.iobuf) q94 ∧ Disj F363 F89 ∧ Disj F363 F92 ∧ Disj F363 F95) _ ⟨0, ([] : List TMon), (GT.pdflt (α := List TMon)), NoB, _, _, _, rfl, (by first | omega | (simp; done) | (simp; omega)), (by rfl), S.cast (by kernel_rfl), o365, o87, o90, o93, (Disj.symm (fun b _ h => False.elim h)), (Disj.symm (fun b _ h => False.elim h)), (Disj.symm (fun b _ h => False.elim h))⟩ ?_
  clear S o365 o87 o90 o93
  rintro mm ac w ⟨i, acc, q362, F363, u, N, β, rfl, hi, hacc, S, o364, o87, o90, o93, d366, d367, d368⟩
  have hlacc : acc.length = i := by rw [hacc]; simp; omega
  refine wp_seq ?_
  refine RG.start ?_
  refine S.quiet (k := 1) (keep := [2, 3, 19, 20, 21, 22]) (m := 3) (σ' := ⟨[(2, .p 1 0), (3, .p 2 0), (19, .v (slv (h.mons).length ph.mons.1)), (20, .v (I ((h.mons).length : Int))), (21, .v (I (i : Int))), (22, .v (B (decide ((i : Int) < ((h.mons).length : Int)))))], [GT.cells (α := THost) h ph, Zc THost, [slv (h.mem).length q88.1, slv (acc).length q362.1, slv ((([] : List TEntry) ++ h.buf)).length q91.1, slv ((([] : List TEntry) ++ h.iobuf)).length q94.1]]⟩) .nil (by kernel_rfl) ?_
  clear S; intro ac w β S
  refine RG.done rfl (nx_then ?_)
  refine wp_seq ?_
  refine S.cond (e := (decide ((i : Int) < ((h.mons).length : Int)))) (by kernel_rfl) (fun h369 => ?_) (fun h369 => ?_)
  · have g370 : (i : Int) < ((h.mons).length : Int) := of_decide_eq_true h369
    refine wp_skip (nx_then ?_)
    refine wp_seq ?_
    refine wp_block ?_
    refine wp_seq ?_
    refine RG.start ?_
    refine S.quiet (k := 4) (keep := [2, 3, 5, 19, 20, 21]) (m := 4) (σ' := ⟨[(2, .p 1 0), (3, .p 2 0), (5, .p 3 0), (19, .v (slv (h.mons).length ph.mons.1)), (20, .v (I ((h.mons).length : Int))), (21, .v (I (i : Int)))], [GT.cells (α := THost) h ph, Zc THost, [slv (h.mem).length q88.1, slv (acc).length q362.1, slv ((([] : List TEntry) ++ h.buf)).length q91.1, slv ((([] : List TEntry) ++ h.iobuf)).length q94.1], GT.cells (α := TMon) (el h.mons i) (ph.mons.2 i)]⟩) (.cons (Q_idx (RHost.mons (d := h) (S.arg hh)) (l := (h.mons).length) (k := i) (i := (i : Int)) rfl rfl (by omega) Try.underlying36 (by kernel_rfl)) (.cons (Q_el (RHost.mons (d := h) (S.arg hh)) (t := 46) (k := i) (by omega) rfl (by kernel_rfl) (by kernel_rfl)) .nil)) (by kernel_rfl) ?_
    clear S; intro ac w β S
    refine RG.done rfl (nx_then ?_)
    refine S.draw0 (f := 8) 5 rfl rfl ?_
    clear S; intro w S
    refine S.hoist (i := 0) (path := [1, 0]) (keep := [2, 3, 5, 19, 20, 21, 25]) (m := 4) (σ' := ⟨[(2, .p 1 0), (3, .p 2 0), (5, .p 3 0), (19, .v (slv (h.mons).length ph.mons.1)), (20, .v (I ((h.mons).length : Int))), (21, .v (I (i : Int))), (25, .p 2 1)], [GT.cells (α := THost) h ph, Zc THost, [slv (h.mem).length q88.1, slv (acc).length q362.1, slv ((([] : List TEntry) ++ h.buf)).length q91.1, slv ((([] : List TEntry) ++ h.iobuf)).length q94.1], GT.cells (α := TMon) (el h.mons i) (ph.mons.2 i)]⟩) (by kernel_rfl) (by kernel_rfl) .nil (by kernel_rfl) ?_
    clear S; intro ac S
    refine S.hoist (i := 1) (path := [1]) (keep := [2, 3, 5, 19, 20, 21, 26]) (m := 4) (σ' := ⟨[(2, .p 1 0), (3, .p 2 0), (5, .p 3 0), (19, .v (slv (h.mons).length ph.mons.1)), (20, .v (I ((h.mons).length : Int))), (21, .v (I (i : Int))), (26, .v (slv (acc).length q362.1))], [GT.cells (α := THost) h ph, Zc THost, [slv (h.mem).length q88.1, slv (acc).length q362.1, slv ((([] : List TEntry) ++ h.buf)).length q91.1, slv ((([] : List TEntry) ++ h.iobuf)).length q94.1], GT.cells (α := TMon) (el h.mons i) (ph.mons.2 i)]⟩) (by kernel_rfl) (by kernel_rfl) .nil (by kernel_rfl) ?_
    clear S; intro ac S
    refine S.hoist (i := 2) (path := [3, 2]) (keep := [2, 3, 19, 20, 21, 26, 27]) (m := 4) (σ' := ⟨[(2, .p 1 0), (3, .p 2 0), (19, .v (slv (h.mons).length ph.mons.1)), (20, .v (I ((h.mons).length : Int))), (21, .v (I (i : Int))), (26, .v (slv (acc).length q362.1)), (27, .v (GT.val (α := TMon) (el h.mons i) (ph.mons.2 i)))], [GT.cells (α := THost) h ph, Zc THost, [slv (h.mem).length q88.1, slv (acc).length q362.1, slv ((([] : List TEntry) ++ h.buf)).length q91.1, slv ((([] : List TEntry) ++ h.iobuf)).length q94.1], GT.cells (α := TMon) (el h.mons i) (ph.mons.2 i)]⟩) (by kernel_rfl) (by kernel_rfl) .nil (by kernel_rfl) ?_
    clear S; intro ac S
    refine WD.one (i := 3) (by kernel_rfl) ?_
    refine id (S.call1 (r := (el h.mons i)) (d := 28) (c_impl_copyMon w (el h.mons i) (ph.mons.2 i) (S.rd (LRd.el (RHost.mons (d := h) (S.arg hh)) i (by omega)))) (by kernel_rfl) rfl ?_)
    clear S; intro ac w N q371 F372 S up o373 d374
    refine WD.next S up rfl ?_
    have d375 : Disj F363 F372 := fun b x y => d374 b (o364.sub b x) y
    have d376 : Disj F89 F372 := fun b x y => d374 b (o87.sub b x) y
    have d377 : Disj F92 F372 := fun b x y => d374 b (o90.sub b x) y
    have d378 : Disj F95 F372 := fun b x y => d374 b (o93.sub b x) y
    replace o364 := o364.up up
    replace o87 := o87.up up
    replace o90 := o90.up up
    replace o93 := o93.up up
    clear up d374
    have i394 : In64 (el h.mons i).pend := RMon.pend (d := (el h.mons i)) o373.rn
    have i395 : In64 (el h.mons i).traps := RMon.traps (d := (el h.mons i)) o373.rn
    have i399 : In64 (el h.mons i).owned := RMon.owned (d := (el h.mons i)) o373.rn
    obtain ⟨F379, F382, F385, F388, F391, F396, o380, o383, o386, o389, o392, o397, s381, s384, s387, s390, s393, s398, d400, d401, d402, d403, d404, d405, d406, d407, d408, d409, d410, d411, d412, d413, d414⟩ := sp_Mon o373
    refine WD.one (i := 4) (by kernel_rfl) ?_
    have o419 := ow_Mon (x := (el h.mons i)) (p := q371) o380 o383 o386 o389 o392 o397 d400 d401 d402 d403 d404 d405 d406 d407 d408 d409 d410 d411 d412 d413 d414 i394 i395 i399
    refine id (S.bs1 (α := TMon) (x := (el h.mons i)) (p := q371) o419.own o419.sub o419.young (d := 29) (by kernel_rfl) ?_)
    clear S; intro ac w N q415 F416 S up o417 d418
    refine WD.next S up rfl ?_
    have d420 : Disj F363 F416 := d418 _ (Disj.symm (Disj.or (Disj.part (Disj.symm d375) s381) (Disj.or (Disj.part (Disj.symm d375) s384) (Disj.or (Disj.part (Disj.symm d375) s387) (Disj.or (Disj.part (Disj.symm d375) s390) (Disj.or (Disj.part (Disj.symm d375) s393) (Disj.or (Disj.part (Disj.symm d375) s398) Disj.nob))))))) o364.sub
    have d421 : Disj F89 F416 := d418 _ (Disj.symm (Disj.or (Disj.part (Disj.symm d376) s381) (Disj.or (Disj.part (Disj.symm d376) s384) (Disj.or (Disj.part (Disj.symm d376) s387) (Disj.or (Disj.part (Disj.symm d376) s390) (Disj.or (Disj.part (Disj.symm d376) s393) (Disj.or (Disj.part (Disj.symm d376) s398) Disj.nob))))))) o87.sub
    have d422 : Disj F92 F416 := d418 _ (Disj.symm (Disj.or (Disj.part (Disj.symm d377) s381) (Disj.or (Disj.part (Disj.symm d377) s384) (Disj.or (Disj.part (Disj.symm d377) s387) (Disj.or (Disj.part (Disj.symm d377) s390) (Disj.or (Disj.part (Disj.symm d377) s393) (Disj.or (Disj.part (Disj.symm d377) s398) Disj.nob))))))) o90.sub
    have d423 : Disj F95 F416 := d418 _ (Disj.symm (Disj.or (Disj.part (Disj.symm d378) s381) (Disj.or (Disj.part (Disj.symm d378) s384) (Disj.or (Disj.part (Disj.symm d378) s387) (Disj.or (Disj.part (Disj.symm d378) s390) (Disj.or (Disj.part (Disj.symm d378) s393) (Disj.or (Disj.part (Disj.symm d378) s398) Disj.nob))))))) o93.sub
    replace o364 := o364.up up
    replace o87 := o87.up up
    replace o90 := o90.up up
    replace o93 := o93.up up
    clear up d418
    refine WD.one (i := 5) (by kernel_rfl) ?_
    refine id (S.appOwn (α := TMon) o364 o417 d420 (by' := 168) (d := 30) (lx := (acc).length) (ly := 1) rfl rfl (by kernel_rfl) (show _ ≤ 4194304 by simp only [List.length_append, List.length_cons, List.length_nil]; omega) ?_)
    clear S; intro ac w N q424 F425 S up o426 d427
    refine WD.last (by kernel_rfl) ?_
    have d428 : Disj F89 F425 := d427 _ (Disj.symm d366) d421 o87.sub
    have d429 : Disj F92 F425 := d427 _ (Disj.symm d367) d422 o90.sub
    have d430 : Disj F95 F425 := d427 _ (Disj.symm d368) d423 o93.sub
    replace o87 := o87.upF (Disj.symm d366) up
    replace o90 := o90.upF (Disj.symm d367) up
    replace o93 := o93.upF (Disj.symm d368) up
    clear up d427
    refine WD.one (i := 6) (by kernel_rfl) ?_
    refine S.stepq (i := 6) (keep := [2, 3, 19, 20, 21, 30, 31]) (m := 4) (σ' := ⟨[(2, .p 1 0), (3, .p 2 0), (19, .v (slv (h.mons).length ph.mons.1)), (20, .v (I ((h.mons).length : Int))), (21, .v (I (i : Int))), (30, .v (slv ((acc ++ [(el h.mons i)])).length q424.1)), (31, .p 2 1)], [GT.cells (α := THost) h ph, Zc THost, [slv (h.mem).length q88.1, slv (acc).length q362.1, slv ((([] : List TEntry) ++ h.buf)).length q91.1, slv ((([] : List TEntry) ++ h.iobuf)).length q94.1], GT.cells (α := TMon) (el h.mons i) (ph.mons.2 i)]⟩) .nil (by kernel_rfl) ?_
    clear S; intro ac w β S hβ
    refine WD.last (by kernel_rfl) ?_
    clear hβ
    refine WD.one (i := 7) (by kernel_rfl) ?_
    refine S.stepq (i := 7) (keep := [2, 3, 19, 20, 21]) (m := 4) (σ' := ⟨[(2, .p 1 0), (3, .p 2 0), (19, .v (slv (h.mons).length ph.mons.1)), (20, .v (I ((h.mons).length : Int))), (21, .v (I (i : Int)))], [GT.cells (α := THost) h ph, Zc THost, [slv (h.mem).length q88.1, slv ((acc ++ [(el h.mons i)])).length q424.1, slv ((([] : List TEntry) ++ h.buf)).length q91.1, slv ((([] : List TEntry) ++ h.iobuf)).length q94.1], GT.cells (α := TMon) (el h.mons i) (ph.mons.2 i)]⟩) .nil (by kernel_rfl) ?_
    clear S; intro ac w β S hβ
    refine WD.last (by kernel_rfl) ?_
    clear hβ
    refine WD.done (by kernel_rfl) ?_ _
    replace S := S.prune (keep := [2, 3, 19, 20, 21]) (m := 3) (σ' := ⟨[(2, .p 1 0), (3, .p 2 0), (19, .v (slv (h.mons).length ph.mons.1)), (20, .v (I ((h.mons).length : Int))), (21, .v (I (i : Int)))], [GT.cells (α := THost) h ph, Zc THost, [slv (h.mem).length q88.1, slv ((acc ++ [(el h.mons i)])).length q424.1, slv ((([] : List TEntry) ++ h.buf)).length q91.1, slv ((([] : List TEntry) ++ h.iobuf)).length q94.1]]⟩) (by kernel_rfl)
    refine id (nx_block (nx_then ?_))
    refine RG.start ?_
    refine S.quiet (k := 2) (keep := [2, 3, 19, 20, 21]) (m := 3) (σ' := ⟨[(2, .p 1 0), (3, .p 2 0), (19, .v (slv (h.mons).length ph.mons.1)), (20, .v (I ((h.mons).length : Int))), (21, .v (I ((i : Int) + 1)))], [GT.cells (α := THost) h ph, Zc THost, [slv (h.mem).length q88.1, slv ((acc ++ [(el h.mons i)])).length q424.1, slv ((([] : List TEntry) ++ h.buf)).length q91.1, slv ((([] : List TEntry) ++ h.iobuf)).length q94.1]]⟩) (.cons (Q_add (x := (i : Int)) (y := 1) ⟨by omega, by omega⟩) .nil) (by kernel_rfl) ?_
    clear S; intro ac w β S
    refine RG.done rfl (nx_then ?_)
    replace S := S.prune (keep := [2, 3, 19, 20, 21]) (m := 3) (σ' := ⟨[(2, .p 1 0), (3, .p 2 0), (19, .v (slv (h.mons).length ph.mons.1)), (20, .v (I ((h.mons).length : Int))), (21, .v (I ((i : Int) + 1)))], [GT.cells (α := THost) h ph, Zc THost, [slv (h.mem).length q88.1, slv ((acc ++ [(el h.mons i)])).length q424.1, slv ((([] : List TEntry) ++ h.buf)).length q91.1, slv ((([] : List TEntry) ++ h.iobuf)).length q94.1]]⟩) (by kernel_rfl)
    refine ⟨h.mons.length - (i + 1), by omega, i + 1, (acc ++ [(el h.mons i)]), q424, F425, _, _, _, rfl, ?_, ?_, S.cast (by kernel_rfl), o426, o87, o90, o93, (Disj.symm d428), (Disj.symm d429), (Disj.symm d430)⟩
    · clear S; first | omega | (simp [*]; done) | (simp [*]; omega)
    · clear S; (first | (rw [take_el (by omega), hacc]; done) | (rw [take_el (by omega), hacc]; simp; done))
  · have g431 : ¬ ((i : Int) < ((h.mons).length : Int)) := of_decide_eq_false h369
    refine wp_exit (ex_then (ex_then (ex_hit (nx_then ?_))))
    refine wp_seq ?_
    refine RG.start ?_
    refine S.quiet (k := 2) (keep := [2]) (m := 2) (σ' := ⟨[(2, .p 1 0)], [GT.cells (α := THost) h ph, [slv (h.mem).length q88.1, slv (acc).length q362.1, slv ((([] : List TEntry) ++ h.buf)).length q91.1, slv ((([] : List TEntry) ++ h.iobuf)).length q94.1]]⟩) .nil (by kernel_rfl) ?_
    clear S; intro ac w β S
    refine RG.done rfl (nx_then ?_)
    refine wp_ret ?_
    refine S.ret (vs := [GT.val (α := THost) (⟨h.mem, acc, (([] : List TEntry) ++ h.buf), (([] : List TEntry) ++ h.iobuf)⟩ : THost) (⟨q88, q362, q91, q94⟩ : PHost)]) (by kernel_rfl) ?_
    have o432 := ow_Host (x := (⟨h.mem, acc, (([] : List TEntry) ++ h.buf), (([] : List TEntry) ++ h.iobuf)⟩ : THost)) (p := (⟨q88, q362, q91, q94⟩ : PHost)) o87 o364 o90 o93 (Disj.symm d366) (Disj.symm d360) (Disj.symm d361) d367 d368 d359 
    exact ret1_of S (show h = (⟨h.mem, acc, (([] : List TEntry) ++ h.buf), (([] : List TEntry) ++ h.iobuf)⟩ : THost) by clear S; (rw [hacc, take_all (by omega)]; first | rfl | (simp; done))) rfl o432

set_option maxRecDepth 100000 in
theorem c_impl_has (w0 : World) (k : Int) (length : Int) (pre0 : -9223372036854775808 < length) : Calls Try.prog 50 [I k, I length].toArray w0 (fun e w' => e = .returned (B (f_within k 0 (length - 1))) ∧ Chg NoB w0 w') := by
  refine Calls.walk (args := [I k, I length]) NoB Try.func50 rfl rfl ?_
  intro ac β S
  refine wp_seq ?_
  refine RG.start ?_
  refine S.quiet (k := 1) (keep := [0, 1]) (m := 0) (σ' := ⟨[(0, .v (I k)), (1, .v (I length))], []⟩) .nil (by kernel_rfl) ?_
  clear S; intro ac w β S
  refine RG.done rfl (nx_then ?_)
  refine wp_seq ?_
  refine RG.start ?_
  refine S.quiet (k := 3) (keep := [0, 1, 7]) (m := 0) (σ' := ⟨[(0, .v (I k)), (1, .v (I length)), (7, .v (B (decide (k ≥ 0))))], []⟩) .nil (by kernel_rfl) ?_
  clear S; intro ac w β S
  rcases Bool.eq_false_or_eq_true (decide (k ≥ 0)) with h1 | h1 <;> rw [h1] at S
  · have g2 : k ≥ 0 := of_decide_eq_true h1
    refine S.quiet (k := 5) (keep := [4]) (m := 0) (σ' := ⟨[(4, .v (B (decide (k < length))))], []⟩) .nil (by kernel_rfl) ?_
    clear S; intro ac w β S
    refine RG.done rfl (nx_then ?_)
    refine wp_ret ?_
    refine S.ret (vs := [B (decide (k < length))]) (by kernel_rfl) ?_
    exact ⟨retB (show (decide (k < length)) = f_within k 0 (length - 1) by clear S; (rw [Bool.eq_iff_iff]; simp [f_within]; omega)), S.chg⟩
  · have g3 : ¬ (k ≥ 0) := of_decide_eq_false h1
    refine S.quiet (k := 5) (keep := [4]) (m := 0) (σ' := ⟨[(4, .v (B false))], []⟩) .nil (by kernel_rfl) ?_
    clear S; intro ac w β S
    refine RG.done rfl (nx_then ?_)
    refine wp_ret ?_
    refine S.ret (vs := [B false]) (by kernel_rfl) ?_
    exact ⟨retB (show false = f_within k 0 (length - 1) by clear S; (rw [Bool.eq_iff_iff]; simp [f_within]; omega)), S.chg⟩

set_option maxRecDepth 100000 in
theorem c_impl_WithMon (w0 : World) (h : THost) (ph : PHost) (hh : GT.rd KK (Lt w0.heap.size) w0 h ph) (m : Int) (x : TMon) (px : PMon) (hx : GT.rd KK (Lt w0.heap.size) w0 x px) : Calls Try.prog 12 [GT.val (α := THost) h ph, I m, GT.val (α := TMon) x px].toArray w0 (Ret1 NoB w0 (f_withMon h m x : THost)) := by
  refine Calls.walk (args := [GT.val (α := THost) h ph, I m, GT.val (α := TMon) x px]) NoB Try.func12 rfl rfl ?_
  intro ac β S
  have hleh_mem : h.mem.length ≤ 4194304 := LRd.le (RHost.mem (d := h) hh)
  have hleh_mons : h.mons.length ≤ 4194304 := LRd.le (RHost.mons (d := h) hh)
  have hleh_buf : h.buf.length ≤ 4194304 := LRd.le (RHost.buf (d := h) hh)
  have hleh_iobuf : h.iobuf.length ≤ 4194304 := LRd.le (RHost.iobuf (d := h) hh)
  have hlex_outer : x.outer.length ≤ 4194304 := LRd.le (RMon.outer (d := x) hx)
  have hlex_out : x.out.length ≤ 4194304 := LRd.le (RMon.out (d := x) hx)
  have hlex_dirty : x.dirty.length ≤ 4194304 := LRd.le (RMon.dirty (d := x) hx)
  have hlex_guests : x.guests.length ≤ 4194304 := LRd.le (RMon.guests (d := x) hx)
  have hlex_outs : x.outs.length ≤ 4194304 := LRd.le (RMon.outs (d := x) hx)
  have hlex_tables : x.tables.length ≤ 4194304 := LRd.le (RMon.tables (d := x) hx)
  refine wp_seq ?_
  refine RG.start ?_
  refine S.quiet (k := 3) (keep := [1, 3, 5, 6]) (m := 3) (σ' := ⟨[(1, .v (I m)), (3, .p 0 0), (5, .p 1 0), (6, .p 2 0)], [GT.cells (α := THost) h ph, GT.cells (α := TMon) x px, Zc THost]⟩) .nil (by kernel_rfl) ?_
  clear S; intro ac w β S
  refine RG.done rfl (nx_then ?_)
  refine wp_seq ?_
  refine RG.start ?_
  refine S.quiet (k := 1) (keep := [1, 3, 5, 6, 8]) (m := 3) (σ' := ⟨[(1, .v (I m)), (3, .p 0 0), (5, .p 1 0), (6, .p 2 0), (8, .v (GT.val (α := THost) h ph))], [GT.cells (α := THost) h ph, GT.cells (α := TMon) x px, Zc THost]⟩) .nil (by kernel_rfl) ?_
  clear S; intro ac w β S
  refine RG.op rfl (S.call1 (r := h) (d := 9) (c_impl_copyHost w h ph (S.rd (S.arg hh))) (by kernel_rfl) rfl ?_)
  clear S; intro ac w N q1 F2 S up o3 d4
  clear up d4
  obtain ⟨F5, F8, F11, F14, o6, o9, o12, o15, s7, s10, s13, s16, d17, d18, d19, d20, d21, d22⟩ := sp_Host o3
  refine S.quiet (k := 2) (keep := [1, 3, 5, 6, 7]) (m := 4) (σ' := ⟨[(1, .v (I m)), (3, .p 0 0), (5, .p 1 0), (6, .p 2 0), (7, .p 3 0)], [GT.cells (α := THost) h ph, GT.cells (α := TMon) x px, Zc THost, [slv (h.mem).length q1.mem.1, slv (h.mons).length q1.mons.1, slv (h.buf).length q1.buf.1, slv (h.iobuf).length q1.iobuf.1]]⟩) .nil (by kernel_rfl) ?_
  clear S; intro ac w β S
  refine RG.done rfl (nx_then ?_)
  refine wp_seq ?_
  refine wp_seq ?_
  refine RG.start ?_
  refine S.quiet (k := 5) (keep := [1, 5, 6, 7, 14]) (m := 4) (σ' := ⟨[(1, .v (I m)), (5, .p 1 0), (6, .p 2 0), (7, .p 3 0), (14, .v (B (f_within m 0 (((h.mons).length : Int) - 1))))], [GT.cells (α := THost) h ph, GT.cells (α := TMon) x px, Zc THost, [slv (h.mem).length q1.mem.1, slv (h.mons).length q1.mons.1, slv (h.buf).length q1.buf.1, slv (h.iobuf).length q1.iobuf.1]]⟩) (.cons (Q_call fun w hw => c_impl_has w m ((h.mons).length : Int) (by omega)) .nil) (by kernel_rfl) ?_
  clear S; intro ac w β S
  refine RG.done rfl (nx_then ?_)
  refine S.cond (e := (f_within m 0 (((h.mons).length : Int) - 1))) (by kernel_rfl) (fun h23 => ?_) (fun h23 => ?_)
  · have g24 := within_t h23
    refine S.draw0 (f := 7) 6 rfl rfl ?_
    clear S; intro w S
    refine S.hoist (i := 0) (path := [0]) (keep := [1, 5, 6, 7, 15]) (m := 4) (σ' := ⟨[(1, .v (I m)), (5, .p 1 0), (6, .p 2 0), (7, .p 3 0), (15, .p 3 1)], [GT.cells (α := THost) h ph, GT.cells (α := TMon) x px, Zc THost, [slv (h.mem).length q1.mem.1, slv (h.mons).length q1.mons.1, slv (h.buf).length q1.buf.1, slv (h.iobuf).length q1.iobuf.1]]⟩) (by kernel_rfl) (by kernel_rfl) .nil (by kernel_rfl) ?_
    clear S; intro ac S
    refine S.hoist (i := 1) (path := [1]) (keep := [1, 5, 6, 7, 16]) (m := 4) (σ' := ⟨[(1, .v (I m)), (5, .p 1 0), (6, .p 2 0), (7, .p 3 0), (16, .v (slv (h.mons).length q1.mons.1))], [GT.cells (α := THost) h ph, GT.cells (α := TMon) x px, Zc THost, [slv (h.mem).length q1.mem.1, slv (h.mons).length q1.mons.1, slv (h.buf).length q1.buf.1, slv (h.iobuf).length q1.iobuf.1]]⟩) (by kernel_rfl) (by kernel_rfl) .nil (by kernel_rfl) ?_
    clear S; intro ac S
    refine S.hoist (i := 2) (path := [2]) (keep := [5, 6, 7, 16, 17]) (m := 4) (σ' := ⟨[(5, .p 1 0), (6, .p 2 0), (7, .p 3 0), (16, .v (slv (h.mons).length q1.mons.1)), (17, .v (I m))], [GT.cells (α := THost) h ph, GT.cells (α := TMon) x px, Zc THost, [slv (h.mem).length q1.mem.1, slv (h.mons).length q1.mons.1, slv (h.buf).length q1.buf.1, slv (h.iobuf).length q1.iobuf.1]]⟩) (by kernel_rfl) (by kernel_rfl) .nil (by kernel_rfl) ?_
    clear S; intro ac S
    refine S.hoist (i := 3) (path := [3]) (keep := [6, 7, 16, 17, 18]) (m := 4) (σ' := ⟨[(6, .p 2 0), (7, .p 3 0), (16, .v (slv (h.mons).length q1.mons.1)), (17, .v (I m)), (18, .v (GT.val (α := TMon) x px))], [GT.cells (α := THost) h ph, GT.cells (α := TMon) x px, Zc THost, [slv (h.mem).length q1.mem.1, slv (h.mons).length q1.mons.1, slv (h.buf).length q1.buf.1, slv (h.iobuf).length q1.iobuf.1]]⟩) (by kernel_rfl) (by kernel_rfl) .nil (by kernel_rfl) ?_
    clear S; intro ac S
    refine WD.one (i := 4) (by kernel_rfl) ?_
    refine id (S.call1 (r := x) (d := 19) (c_impl_copyMon w x px (S.rd (S.arg hx))) (by kernel_rfl) rfl ?_)
    clear S; intro ac w N q25 F26 S up o27 d28
    refine WD.next S up rfl ?_
    have d29 : Disj F5 F26 := fun b x y => d28 b (o6.sub b x) y
    have d30 : Disj F8 F26 := fun b x y => d28 b (o9.sub b x) y
    have d31 : Disj F11 F26 := fun b x y => d28 b (o12.sub b x) y
    have d32 : Disj F14 F26 := fun b x y => d28 b (o15.sub b x) y
    replace o6 := o6.up up
    replace o9 := o9.up up
    replace o12 := o12.up up
    replace o15 := o15.up up
    clear up d28
    have i48 : In64 x.pend := RMon.pend (d := x) o27.rn
    have i49 : In64 x.traps := RMon.traps (d := x) o27.rn
    have i53 : In64 x.owned := RMon.owned (d := x) o27.rn
    obtain ⟨F33, F36, F39, F42, F45, F50, o34, o37, o40, o43, o46, o51, s35, s38, s41, s44, s47, s52, d54, d55, d56, d57, d58, d59, d60, d61, d62, d63, d64, d65, d66, d67, d68⟩ := sp_Mon o27
    refine S.hoist (i := 5) (path := [5]) (keep := [6, 7, 19, 20]) (m := 4) (σ' := ⟨[(6, .p 2 0), (7, .p 3 0), (19, .v (GT.val (α := TMon) x q25)), (20, .v (pt q1.mons.1.b (q1.mons.1.off + ((m).toNat) * 9)))], [GT.cells (α := THost) h ph, GT.cells (α := TMon) x px, Zc THost, [slv (h.mem).length q1.mem.1, slv (h.mons).length q1.mons.1, slv (h.buf).length q1.buf.1, slv (h.iobuf).length q1.iobuf.1]]⟩) (by kernel_rfl) (by kernel_rfl) (.cons (Q_idx o9.rn (l := (h.mons).length) (k := (m).toNat) (i := m) rfl (by omega) (by omega) Try.underlying36 (by kernel_rfl)) .nil) (by kernel_rfl) ?_
    clear S; intro ac S
    refine WD.one (i := 6) (by kernel_rfl) ?_
    have o73 := ow_Mon (x := x) (p := q25) o34 o37 o40 o43 o46 o51 d54 d55 d56 d57 d58 d59 d60 d61 d62 d63 d64 d65 d66 d67 d68 i48 i49 i53
    refine id (S.setEl (α := TMon) o9 (t := 46) (v := GT.val (α := TMon) x q25) (k := (m).toNat) (j := 0) (off := q1.mons.1.off + ((m).toNat) * 9) (y := x) (q := q25) (Fy := (uniB [F33, F36, F39, F42, F45, F50])) (by kernel_rfl) (by kernel_rfl) (by omega) (by kernel_rfl) (by kernel_rfl) (Nat.le_of_ble_eq_true (by kernel_rfl)) (by kernel_rfl) (fun _ _ _ => ⟨(uniB [F33, F36, F39, F42, F45, F50]), o73.own, fun _ h => .inr h⟩) (Disj.symm (Disj.or (Disj.part (Disj.symm d30) s35) (Disj.or (Disj.part (Disj.symm d30) s38) (Disj.or (Disj.part (Disj.symm d30) s41) (Disj.or (Disj.part (Disj.symm d30) s44) (Disj.or (Disj.part (Disj.symm d30) s47) (Disj.or (Disj.part (Disj.symm d30) s52) Disj.nob))))))) o73.sub o73.young ?_)
    clear S; intro w N F70 q71 S up o69 d72 s74
    refine WD.last (by kernel_rfl) ?_
    have d75 : Disj F5 F70 := d72 _ d17 (Disj.symm (Disj.or (Disj.part (Disj.symm d29) s35) (Disj.or (Disj.part (Disj.symm d29) s38) (Disj.or (Disj.part (Disj.symm d29) s41) (Disj.or (Disj.part (Disj.symm d29) s44) (Disj.or (Disj.part (Disj.symm d29) s47) (Disj.or (Disj.part (Disj.symm d29) s52) Disj.nob))))))) o6.sub
    have d76 : Disj F11 F70 := d72 _ (Disj.symm d20) (Disj.symm (Disj.or (Disj.part (Disj.symm d31) s35) (Disj.or (Disj.part (Disj.symm d31) s38) (Disj.or (Disj.part (Disj.symm d31) s41) (Disj.or (Disj.part (Disj.symm d31) s44) (Disj.or (Disj.part (Disj.symm d31) s47) (Disj.or (Disj.part (Disj.symm d31) s52) Disj.nob))))))) o12.sub
    have d77 : Disj F14 F70 := d72 _ (Disj.symm d21) (Disj.symm (Disj.or (Disj.part (Disj.symm d32) s35) (Disj.or (Disj.part (Disj.symm d32) s38) (Disj.or (Disj.part (Disj.symm d32) s41) (Disj.or (Disj.part (Disj.symm d32) s44) (Disj.or (Disj.part (Disj.symm d32) s47) (Disj.or (Disj.part (Disj.symm d32) s52) Disj.nob))))))) o15.sub
    replace o6 := o6.upF d17 up
    replace o12 := o12.upF (Disj.symm d20) up
    replace o15 := o15.upF (Disj.symm d21) up
    clear up d72 o9
    have l78 : (h.mons.set ((m).toNat) x).length = (h.mons).length := List.length_set
    replace S := S.prune (keep := [6, 7, 19, 20]) (m := 4) (σ' := ⟨[(6, .p 2 0), (7, .p 3 0), (19, .v (GT.val (α := TMon) x q25)), (20, .v (pt q1.mons.1.b (q1.mons.1.off + ((m).toNat) * 9)))], [GT.cells (α := THost) h ph, GT.cells (α := TMon) x px, Zc THost, [slv (h.mem).length q1.mem.1, slv (h.mons).length q1.mons.1, slv (h.buf).length q1.buf.1, slv (h.iobuf).length q1.iobuf.1]]⟩) (by kernel_rfl)
    replace S := S.cast (σ' := ⟨[(6, .p 2 0), (7, .p 3 0), (19, .v (GT.val (α := TMon) x q25)), (20, .v (pt q1.mons.1.b (q1.mons.1.off + ((m).toNat) * 9)))], [GT.cells (α := THost) h ph, GT.cells (α := TMon) x px, Zc THost, [slv (h.mem).length q1.mem.1, slv ((h.mons.set ((m).toNat) x)).length q1.mons.1, slv (h.buf).length q1.buf.1, slv (h.iobuf).length q1.iobuf.1]]⟩) (by rw [show ((h.mons.set ((m).toNat) x)).length = (h.mons).length by omega])
    refine WD.done (by kernel_rfl) ?_ _
    replace S := S.prune (keep := [6, 7]) (m := 4) (σ' := ⟨[(6, .p 2 0), (7, .p 3 0)], [GT.cells (α := THost) h ph, GT.cells (α := TMon) x px, Zc THost, [slv (h.mem).length q1.mem.1, slv ((h.mons.set ((m).toNat) x)).length q1.mons.1, slv (h.buf).length q1.buf.1, slv (h.iobuf).length q1.iobuf.1]]⟩) (by kernel_rfl)
    refine id (nx_then ?_)
    refine wp_seq ?_
    refine RG.start ?_
    refine S.quiet (k := 2) (keep := [6]) (m := 3) (σ' := ⟨[(6, .p 2 0)], [GT.cells (α := THost) h ph, GT.cells (α := TMon) x px, [slv (h.mem).length q1.mem.1, slv ((h.mons.set ((m).toNat) x)).length q1.mons.1, slv (h.buf).length q1.buf.1, slv (h.iobuf).length q1.iobuf.1]]⟩) .nil (by kernel_rfl) ?_
    clear S; intro ac w β S
    refine RG.done rfl (nx_then ?_)
    refine wp_ret ?_
    refine S.ret (vs := [GT.val (α := THost) (⟨h.mem, (h.mons.set ((m).toNat) x), h.buf, h.iobuf⟩ : THost) (⟨q1.mem, (q1.mons.1, q71), q1.buf, q1.iobuf⟩ : PHost)]) (by kernel_rfl) ?_
    have o79 := ow_Host (x := (⟨h.mem, (h.mons.set ((m).toNat) x), h.buf, h.iobuf⟩ : THost)) (p := (⟨q1.mem, (q1.mons.1, q71), q1.buf, q1.iobuf⟩ : PHost)) o6 o69 o12 o15 d75 d18 d19 (Disj.symm d76) (Disj.symm d77) d22 
    exact ret1_of S (show f_withMon h m x = (⟨h.mem, (h.mons.set ((m).toNat) x), h.buf, h.iobuf⟩ : THost) by clear S; (first | (unfold f_withMon; rw [if_pos (by omega)]; done) | (unfold f_withMon; rw [if_pos (by omega)]; first | rfl | (simp; done)) | (unfold f_withMon; rw [if_neg (by omega)]; done) | (unfold f_withMon; rw [if_neg (by omega)]; first | rfl | (simp; done)))) rfl o79
  · have g80 := within_f h23
    refine wp_skip (nx_then ?_)
    refine wp_seq ?_
    refine RG.start ?_
    refine S.quiet (k := 2) (keep := [6]) (m := 3) (σ' := ⟨[(6, .p 2 0)], [GT.cells (α := THost) h ph, GT.cells (α := TMon) x px, [slv (h.mem).length q1.mem.1, slv (h.mons).length q1.mons.1, slv (h.buf).length q1.buf.1, slv (h.iobuf).length q1.iobuf.1]]⟩) .nil (by kernel_rfl) ?_
    clear S; intro ac w β S
    refine RG.done rfl (nx_then ?_)
    refine wp_ret ?_
    refine S.ret (vs := [GT.val (α := THost) h q1]) (by kernel_rfl) ?_
    have o81 := ow_Host (x := h) (p := q1) o6 o9 o12 o15 d17 d18 d19 d20 d21 d22 
    exact ret1_of S (show f_withMon h m x = h by clear S; (first | (unfold f_withMon; rw [if_pos (by omega)]; done) | (unfold f_withMon; rw [if_pos (by omega)]; first | rfl | (simp; done)) | (unfold f_withMon; rw [if_neg (by omega)]; done) | (unfold f_withMon; rw [if_neg (by omega)]; first | rfl | (simp; done)))) rfl o81

set_option maxRecDepth 100000 in
theorem c_laws_eqIntS (w0 : World) (a : List Int) (pa : LP Int) (ha : GT.rd KK (Lt w0.heap.size) w0 a pa) (b : List Int) (pb : LP Int) (hb : GT.rd KK (Lt w0.heap.size) w0 b pb) : Calls Try.prog 58 [slv (a).length pa.1, slv (b).length pb.1].toArray w0 (fun e w' => e = .returned (B (decide (a = b))) ∧ Chg NoB w0 w') := by
  refine Calls.walk (args := [slv (a).length pa.1, slv (b).length pb.1]) NoB Try.func58 rfl rfl ?_
  intro ac β S
  have hlea : a.length ≤ 4194304 := LRd.le ha
  have hleb : b.length ≤ 4194304 := LRd.le hb
  refine wp_seq ?_
  refine RG.start ?_
  refine S.quiet (k := 1) (keep := [0, 1]) (m := 0) (σ' := ⟨[(0, .v (slv (a).length pa.1)), (1, .v (slv (b).length pb.1))], []⟩) .nil (by kernel_rfl) ?_
  clear S; intro ac w β S
  refine RG.done rfl (nx_then ?_)
  refine wp_seq ?_
  refine wp_seq ?_
  refine RG.start ?_
  refine S.quiet (k := 5) (keep := [0, 1, 10]) (m := 0) (σ' := ⟨[(0, .v (slv (a).length pa.1)), (1, .v (slv (b).length pb.1)), (10, .v (B (((a).length : Int) != ((b).length : Int))))], []⟩) .nil (by kernel_rfl) ?_
  clear S; intro ac w β S
  refine RG.done rfl (nx_then ?_)
  refine S.cond (e := (((a).length : Int) != ((b).length : Int))) (by kernel_rfl) (fun h1 => ?_) (fun h1 => ?_)
  · have g2 : ¬ (((a).length : Int) = ((b).length : Int)) := bne_iff_ne.1 h1
    refine wp_seq ?_
    refine RG.start ?_
    refine S.quiet (k := 1) (keep := [4]) (m := 0) (σ' := ⟨[(4, .v (B false))], []⟩) .nil (by kernel_rfl) ?_
    clear S; intro ac w β S
    refine RG.done rfl (nx_then ?_)
    refine wp_ret (rt_then ?_)
    refine S.ret (vs := [B false]) (by kernel_rfl) ?_
    exact ⟨retB (show false = decide (a = b) by clear S; first | (simp; intro e; subst e; simp_all; done) | (simp; rw [take_all (by omega), take_all (by omega)] at he; exact he) | (simp; exact take_ne (by simp_all))), S.chg⟩
  · have g3 : ((a).length : Int) = ((b).length : Int) := ne_f h1
    refine wp_skip (nx_then ?_)
    refine wp_seq ?_
    refine wp_seq ?_
    refine RG.start ?_
    refine S.quiet (k := 1) (keep := [0, 1, 5]) (m := 0) (σ' := ⟨[(0, .v (slv (a).length pa.1)), (1, .v (slv (b).length pb.1)), (5, .v (I 0))], []⟩) .nil (by kernel_rfl) ?_
    clear S; intro ac w β S
    refine RG.done rfl (nx_then ?_)
    refine wp_block ?_
    replace S := S.prune (keep := [0, 1, 5]) (m := 0) (σ' := ⟨[(0, .v (slv (a).length pa.1)), (1, .v (slv (b).length pb.1)), (5, .v (I 0))], []⟩) (by kernel_rfl)
    refine wp_loop_down (fun mm ac w => ∃ (k : Nat)  (u : World) (N : Bl) (β : Nat → Nat), mm = a.length - k ∧ (k ≤ a.length) ∧ (a.length = b.length) ∧ (a.take k = b.take k) ∧ St Try.prog Try.f58.ntmps w0 NoB u N β ⟨[(0, .v (slv (a).length pa.1)), (1, .v (slv (b).length pb.1)), (5, .v (I (k : Int)))], []⟩ ac w) _ ⟨0, _, _, _, rfl, (by first | omega | (simp; done) | (simp; omega)), (by first | omega | (simp; done) | (simp; omega)), (by simp), S.cast (by kernel_rfl)⟩ ?_
    clear S
    rintro mm ac w ⟨k, u, N, β, rfl, hk, hab, he, S⟩
    refine wp_seq ?_
    refine wp_seq ?_
    refine RG.start ?_
    refine S.quiet (k := 4) (keep := [0, 1, 5, 14]) (m := 0) (σ' := ⟨[(0, .v (slv (a).length pa.1)), (1, .v (slv (b).length pb.1)), (5, .v (I (k : Int))), (14, .v (B (decide ((k : Int) < ((a).length : Int)))))], []⟩) .nil (by kernel_rfl) ?_
    clear S; intro ac w β S
    refine RG.done rfl (nx_then ?_)
    refine S.cond (e := (decide ((k : Int) < ((a).length : Int)))) (by kernel_rfl) (fun h4 => ?_) (fun h4 => ?_)
    · have g5 : (k : Int) < ((a).length : Int) := of_decide_eq_true h4
      refine wp_skip (nx_then ?_)
      refine wp_seq ?_
      refine wp_block ?_
      refine wp_seq ?_
      refine S.drawn (keep := [0, 1, 5, 25]) (m := 0) (σ' := ⟨[(0, .v (slv (a).length pa.1)), (1, .v (slv (b).length pb.1)), (5, .v (I (k : Int))), (25, .v (B ((el a k) != (el b k))))], []⟩) (.cons (Q_idx (S.arg ha) (l := (a).length) (k := k) (i := (k : Int)) rfl rfl (by omega) Try.underlying30 (by kernel_rfl)) (.cons (Q_el1 (S.arg ha) (t := 3) (k := k) (by omega) rfl (by kernel_rfl)) (.cons (Q_idx (S.arg hb) (l := (b).length) (k := k) (i := (k : Int)) rfl rfl (by omega) Try.underlying30 (by kernel_rfl)) (.cons (Q_el1 (S.arg hb) (t := 3) (k := k) (by omega) rfl (by kernel_rfl)) .nil)))) rfl (by kernel_rfl) (by kernel_rfl) ?_
      clear S; intro ac w S
      refine id (nx_then ?_)
      refine S.cond (e := ((el a k) != (el b k))) (by kernel_rfl) (fun h6 => ?_) (fun h6 => ?_)
      · have g7 : ¬ ((el a k) = (el b k)) := bne_iff_ne.1 h6
        refine wp_seq ?_
        refine RG.start ?_
        refine S.quiet (k := 1) (keep := [4]) (m := 0) (σ' := ⟨[(4, .v (B false))], []⟩) .nil (by kernel_rfl) ?_
        clear S; intro ac w β S
        refine RG.done rfl (nx_then ?_)
        refine wp_ret (rt_block (rt_then (rt_then (rt_block (rt_then ?_)))))
        refine S.ret (vs := [B false]) (by kernel_rfl) ?_
        exact ⟨retB (show false = decide (a = b) by clear S; first | (simp; intro e; subst e; simp_all; done) | (simp; rw [take_all (by omega), take_all (by omega)] at he; exact he) | (simp; exact take_ne (by simp_all))), S.chg⟩
      · have g8 : (el a k) = (el b k) := ne_f h6
        refine wp_skip (nx_block (nx_then ?_))
        refine RG.start ?_
        refine S.quiet (k := 3) (keep := [0, 1, 5]) (m := 0) (σ' := ⟨[(0, .v (slv (a).length pa.1)), (1, .v (slv (b).length pb.1)), (5, .v (I ((k : Int) + 1)))], []⟩) (.cons (Q_add (x := (k : Int)) (y := 1) ⟨by omega, by omega⟩) .nil) (by kernel_rfl) ?_
        clear S; intro ac w β S
        refine RG.done rfl (nx_then ?_)
        replace S := S.prune (keep := [0, 1, 5]) (m := 0) (σ' := ⟨[(0, .v (slv (a).length pa.1)), (1, .v (slv (b).length pb.1)), (5, .v (I ((k : Int) + 1)))], []⟩) (by kernel_rfl)
        refine ⟨a.length - (k + 1), by omega, k + 1, _, _, _, rfl, ?_, ?_, ?_, S.cast (by kernel_rfl)⟩
        · clear S; first | omega | (simp [*]; done) | (simp [*]; omega)
        · clear S; first | omega | (simp [*]; done) | (simp [*]; omega)
        · clear S; exact take_eq_step (by omega) (by omega) he (by simp_all)
    · have g9 : ¬ ((k : Int) < ((a).length : Int)) := of_decide_eq_false h4
      refine wp_exit (ex_then (ex_then (ex_hit (nx_then ?_))))
      refine wp_seq ?_
      refine RG.start ?_
      refine S.quiet (k := 1) (keep := [4]) (m := 0) (σ' := ⟨[(4, .v (B true))], []⟩) .nil (by kernel_rfl) ?_
      clear S; intro ac w β S
      refine RG.done rfl (nx_then ?_)
      refine wp_ret ?_
      refine S.ret (vs := [B true]) (by kernel_rfl) ?_
      exact ⟨retB (show true = decide (a = b) by clear S; first | (simp; intro e; subst e; simp_all; done) | (simp; rw [take_all (by omega), take_all (by omega)] at he; exact he) | (simp; exact take_ne (by simp_all))), S.chg⟩

set_option maxRecDepth 100000 in
theorem c_laws_eqIntSS (w0 : World) (a : List (List Int)) (pa : LP (List Int)) (ha : GT.rd KK (Lt w0.heap.size) w0 a pa) (b : List (List Int)) (pb : LP (List Int)) (hb : GT.rd KK (Lt w0.heap.size) w0 b pb) : Calls Try.prog 52 [slv (a).length pa.1, slv (b).length pb.1].toArray w0 (fun e w' => e = .returned (B (decide (a = b))) ∧ Chg NoB w0 w') := by
  refine Calls.walk (args := [slv (a).length pa.1, slv (b).length pb.1]) NoB Try.func52 rfl rfl ?_
  intro ac β S
  have hlea : a.length ≤ 4194304 := LRd.le ha
  have hleb : b.length ≤ 4194304 := LRd.le hb
  refine wp_seq ?_
  refine RG.start ?_
  refine S.quiet (k := 1) (keep := [0, 1]) (m := 0) (σ' := ⟨[(0, .v (slv (a).length pa.1)), (1, .v (slv (b).length pb.1))], []⟩) .nil (by kernel_rfl) ?_
  clear S; intro ac w β S
  refine RG.done rfl (nx_then ?_)
  refine wp_seq ?_
  refine wp_seq ?_
  refine RG.start ?_
  refine S.quiet (k := 5) (keep := [0, 1, 10]) (m := 0) (σ' := ⟨[(0, .v (slv (a).length pa.1)), (1, .v (slv (b).length pb.1)), (10, .v (B (((a).length : Int) != ((b).length : Int))))], []⟩) .nil (by kernel_rfl) ?_
  clear S; intro ac w β S
  refine RG.done rfl (nx_then ?_)
  refine S.cond (e := (((a).length : Int) != ((b).length : Int))) (by kernel_rfl) (fun h1 => ?_) (fun h1 => ?_)
  · have g2 : ¬ (((a).length : Int) = ((b).length : Int)) := bne_iff_ne.1 h1
    refine wp_seq ?_
    refine RG.start ?_
    refine S.quiet (k := 1) (keep := [4]) (m := 0) (σ' := ⟨[(4, .v (B false))], []⟩) .nil (by kernel_rfl) ?_
    clear S; intro ac w β S
    refine RG.done rfl (nx_then ?_)
    refine wp_ret (rt_then ?_)
    refine S.ret (vs := [B false]) (by kernel_rfl) ?_
    exact ⟨retB (show false = decide (a = b) by clear S; first | (simp; intro e; subst e; simp_all; done) | (simp; rw [take_all (by omega), take_all (by omega)] at he; exact he) | (simp; exact take_ne (by simp_all))), S.chg⟩
  · have g3 : ((a).length : Int) = ((b).length : Int) := ne_f h1
    refine wp_skip (nx_then ?_)
    refine wp_seq ?_
    refine wp_seq ?_
    refine RG.start ?_
    refine S.quiet (k := 1) (keep := [0, 1, 5]) (m := 0) (σ' := ⟨[(0, .v (slv (a).length pa.1)), (1, .v (slv (b).length pb.1)), (5, .v (I 0))], []⟩) .nil (by kernel_rfl) ?_
    clear S; intro ac w β S
    refine RG.done rfl (nx_then ?_)
    refine wp_block ?_
    replace S := S.prune (keep := [0, 1, 5]) (m := 0) (σ' := ⟨[(0, .v (slv (a).length pa.1)), (1, .v (slv (b).length pb.1)), (5, .v (I 0))], []⟩) (by kernel_rfl)
    refine wp_loop_down (fun mm ac w => ∃ (k : Nat)  (u : World) (N : Bl) (β : Nat → Nat), mm = a.length - k ∧ (k ≤ a.length) ∧ (a.length = b.length) ∧ (a.take k = b.take k) ∧ St Try.prog Try.f52.ntmps w0 NoB u N β ⟨[(0, .v (slv (a).length pa.1)), (1, .v (slv (b).length pb.1)), (5, .v (I (k : Int)))], []⟩ ac w) _ ⟨0, _, _, _, rfl, (by first | omega | (simp; done) | (simp; omega)), (by first | omega | (simp; done) | (simp; omega)), (by simp), S.cast (by kernel_rfl)⟩ ?_
    clear S
    rintro mm ac w ⟨k, u, N, β, rfl, hk, hab, he, S⟩
    refine wp_seq ?_
    refine wp_seq ?_
    refine RG.start ?_
    refine S.quiet (k := 4) (keep := [0, 1, 5, 14]) (m := 0) (σ' := ⟨[(0, .v (slv (a).length pa.1)), (1, .v (slv (b).length pb.1)), (5, .v (I (k : Int))), (14, .v (B (decide ((k : Int) < ((a).length : Int)))))], []⟩) .nil (by kernel_rfl) ?_
    clear S; intro ac w β S
    refine RG.done rfl (nx_then ?_)
    refine S.cond (e := (decide ((k : Int) < ((a).length : Int)))) (by kernel_rfl) (fun h4 => ?_) (fun h4 => ?_)
    · have g5 : (k : Int) < ((a).length : Int) := of_decide_eq_true h4
      refine wp_skip (nx_then ?_)
      refine wp_seq ?_
      refine wp_block ?_
      refine wp_seq ?_
      refine S.drawn (keep := [0, 1, 5, 26]) (m := 0) (σ' := ⟨[(0, .v (slv (a).length pa.1)), (1, .v (slv (b).length pb.1)), (5, .v (I (k : Int))), (26, .v (B (!(decide ((el a k) = (el b k))))))], []⟩) (.cons (Q_idx (S.arg ha) (l := (a).length) (k := k) (i := (k : Int)) rfl rfl (by omega) Try.underlying22 (by kernel_rfl)) (.cons (Q_el1 (S.arg ha) (t := 30) (k := k) (by omega) rfl (by kernel_rfl)) (.cons (Q_idx (S.arg hb) (l := (b).length) (k := k) (i := (k : Int)) rfl rfl (by omega) Try.underlying22 (by kernel_rfl)) (.cons (Q_el1 (S.arg hb) (t := 30) (k := k) (by omega) rfl (by kernel_rfl)) (.cons (Q_call fun w hw => c_laws_eqIntS w (el a k) (pa.2 k) (rd_of (LRd.el (S.arg ha) k (by omega)) hw) (el b k) (pb.2 k) (rd_of (LRd.el (S.arg hb) k (by omega)) hw)) .nil))))) rfl (by kernel_rfl) (by kernel_rfl) ?_
      clear S; intro ac w S
      refine id (nx_then ?_)
      refine S.cond (e := (!(decide ((el a k) = (el b k))))) (by kernel_rfl) (fun h6 => ?_) (fun h6 => ?_)
      · have h7 : (decide ((el a k) = (el b k))) = false := not_t h6
        have g8 := of_decide_eq_false h7
        refine wp_seq ?_
        refine RG.start ?_
        refine S.quiet (k := 1) (keep := [4]) (m := 0) (σ' := ⟨[(4, .v (B false))], []⟩) .nil (by kernel_rfl) ?_
        clear S; intro ac w β S
        refine RG.done rfl (nx_then ?_)
        refine wp_ret (rt_block (rt_then (rt_then (rt_block (rt_then ?_)))))
        refine S.ret (vs := [B false]) (by kernel_rfl) ?_
        exact ⟨retB (show false = decide (a = b) by clear S; first | (simp; intro e; subst e; simp_all; done) | (simp; rw [take_all (by omega), take_all (by omega)] at he; exact he) | (simp; exact take_ne (by simp_all))), S.chg⟩
      · have h9 : (decide ((el a k) = (el b k))) = true := not_f h6
        have g10 := of_decide_eq_true h9
        refine wp_skip (nx_block (nx_then ?_))
        refine RG.start ?_
        refine S.quiet (k := 3) (keep := [0, 1, 5]) (m := 0) (σ' := ⟨[(0, .v (slv (a).length pa.1)), (1, .v (slv (b).length pb.1)), (5, .v (I ((k : Int) + 1)))], []⟩) (.cons (Q_add (x := (k : Int)) (y := 1) ⟨by omega, by omega⟩) .nil) (by kernel_rfl) ?_
        clear S; intro ac w β S
        refine RG.done rfl (nx_then ?_)
        replace S := S.prune (keep := [0, 1, 5]) (m := 0) (σ' := ⟨[(0, .v (slv (a).length pa.1)), (1, .v (slv (b).length pb.1)), (5, .v (I ((k : Int) + 1)))], []⟩) (by kernel_rfl)
        refine ⟨a.length - (k + 1), by omega, k + 1, _, _, _, rfl, ?_, ?_, ?_, S.cast (by kernel_rfl)⟩
        · clear S; first | omega | (simp [*]; done) | (simp [*]; omega)
        · clear S; first | omega | (simp [*]; done) | (simp [*]; omega)
        · clear S; exact take_eq_step (by omega) (by omega) he (by simp_all)
    · have g11 : ¬ ((k : Int) < ((a).length : Int)) := of_decide_eq_false h4
      refine wp_exit (ex_then (ex_then (ex_hit (nx_then ?_))))
      refine wp_seq ?_
      refine RG.start ?_
      refine S.quiet (k := 1) (keep := [4]) (m := 0) (σ' := ⟨[(4, .v (B true))], []⟩) .nil (by kernel_rfl) ?_
      clear S; intro ac w β S
      refine RG.done rfl (nx_then ?_)
      refine wp_ret ?_
      refine S.ret (vs := [B true]) (by kernel_rfl) ?_
      exact ⟨retB (show true = decide (a = b) by clear S; first | (simp; intro e; subst e; simp_all; done) | (simp; rw [take_all (by omega), take_all (by omega)] at he; exact he) | (simp; exact take_ne (by simp_all))), S.chg⟩

set_option maxRecDepth 100000 in
theorem c_laws_eqSlot (w0 : World) (a : TSlot) (b : TSlot) : Calls Try.prog 94 [GT.val (α := TSlot) a (), GT.val (α := TSlot) b ()].toArray w0 (fun e w' => e = .returned (B (decide (a = b))) ∧ Chg NoB w0 w') := by
  refine Calls.walk (args := [GT.val (α := TSlot) a (), GT.val (α := TSlot) b ()]) NoB Try.func94 rfl rfl ?_
  intro ac β S
  refine wp_seq ?_
  refine RG.start ?_
  refine S.quiet (k := 3) (keep := [2, 3]) (m := 2) (σ' := ⟨[(2, .p 0 0), (3, .p 1 0)], [GT.cells (α := TSlot) a (), GT.cells (α := TSlot) b ()]⟩) .nil (by kernel_rfl) ?_
  clear S; intro ac w β S
  refine RG.done rfl (nx_then ?_)
  refine wp_seq ?_
  refine wp_seq ?_
  refine RG.start ?_
  refine S.quiet (k := 5) (keep := [2, 3, 9]) (m := 2) (σ' := ⟨[(2, .p 0 0), (3, .p 1 0), (9, .v (B (a.page != b.page)))], [GT.cells (α := TSlot) a (), GT.cells (α := TSlot) b ()]⟩) .nil (by kernel_rfl) ?_
  clear S; intro ac w β S
  refine RG.done rfl (nx_then ?_)
  refine S.cond (e := (a.page != b.page)) (by kernel_rfl) (fun h1 => ?_) (fun h1 => ?_)
  · have g2 : ¬ (a.page = b.page) := bne_iff_ne.1 h1
    refine wp_seq ?_
    refine RG.start ?_
    refine S.quiet (k := 1) (keep := [4]) (m := 0) (σ' := ⟨[(4, .v (B false))], []⟩) .nil (by kernel_rfl) ?_
    clear S; intro ac w β S
    refine RG.done rfl (nx_then ?_)
    refine wp_ret (rt_then ?_)
    refine S.ret (vs := [B false]) (by kernel_rfl) ?_
    exact ⟨retB (show false = decide (a = b) by clear S; first | (simp [TSlot.ext_iff, *]; done) | (simp_all [TSlot.ext_iff]; done)), S.chg⟩
  · have g3 : a.page = b.page := ne_f h1
    refine wp_skip (nx_then ?_)
    refine wp_seq ?_
    refine wp_seq ?_
    refine RG.start ?_
    refine S.quiet (k := 5) (keep := [14]) (m := 0) (σ' := ⟨[(14, .v (B (a.rights != b.rights)))], []⟩) .nil (by kernel_rfl) ?_
    clear S; intro ac w β S
    refine RG.done rfl (nx_then ?_)
    refine S.cond (e := (a.rights != b.rights)) (by kernel_rfl) (fun h4 => ?_) (fun h4 => ?_)
    · have g5 : ¬ (a.rights = b.rights) := bne_iff_ne.1 h4
      refine wp_seq ?_
      refine RG.start ?_
      refine S.quiet (k := 1) (keep := [4]) (m := 0) (σ' := ⟨[(4, .v (B false))], []⟩) .nil (by kernel_rfl) ?_
      clear S; intro ac w β S
      refine RG.done rfl (nx_then ?_)
      refine wp_ret (rt_then ?_)
      refine S.ret (vs := [B false]) (by kernel_rfl) ?_
      exact ⟨retB (show false = decide (a = b) by clear S; first | (simp [TSlot.ext_iff, *]; done) | (simp_all [TSlot.ext_iff]; done)), S.chg⟩
    · have g6 : a.rights = b.rights := ne_f h4
      refine wp_skip (nx_then ?_)
      refine wp_seq ?_
      refine RG.start ?_
      refine S.quiet (k := 1) (keep := [4]) (m := 0) (σ' := ⟨[(4, .v (B true))], []⟩) .nil (by kernel_rfl) ?_
      clear S; intro ac w β S
      refine RG.done rfl (nx_then ?_)
      refine wp_ret ?_
      refine S.ret (vs := [B true]) (by kernel_rfl) ?_
      exact ⟨retB (show true = decide (a = b) by clear S; first | (simp [TSlot.ext_iff, *]; done) | (simp_all [TSlot.ext_iff]; done)), S.chg⟩

set_option maxRecDepth 100000 in
theorem c_laws_eqSlotS (w0 : World) (a : List TSlot) (pa : LP TSlot) (ha : GT.rd KK (Lt w0.heap.size) w0 a pa) (b : List TSlot) (pb : LP TSlot) (hb : GT.rd KK (Lt w0.heap.size) w0 b pb) : Calls Try.prog 55 [slv (a).length pa.1, slv (b).length pb.1].toArray w0 (fun e w' => e = .returned (B (decide (a = b))) ∧ Chg NoB w0 w') := by
  refine Calls.walk (args := [slv (a).length pa.1, slv (b).length pb.1]) NoB Try.func55 rfl rfl ?_
  intro ac β S
  have hlea : a.length ≤ 4194304 := LRd.le ha
  have hleb : b.length ≤ 4194304 := LRd.le hb
  refine wp_seq ?_
  refine RG.start ?_
  refine S.quiet (k := 1) (keep := [0, 1]) (m := 0) (σ' := ⟨[(0, .v (slv (a).length pa.1)), (1, .v (slv (b).length pb.1))], []⟩) .nil (by kernel_rfl) ?_
  clear S; intro ac w β S
  refine RG.done rfl (nx_then ?_)
  refine wp_seq ?_
  refine wp_seq ?_
  refine RG.start ?_
  refine S.quiet (k := 5) (keep := [0, 1, 10]) (m := 0) (σ' := ⟨[(0, .v (slv (a).length pa.1)), (1, .v (slv (b).length pb.1)), (10, .v (B (((a).length : Int) != ((b).length : Int))))], []⟩) .nil (by kernel_rfl) ?_
  clear S; intro ac w β S
  refine RG.done rfl (nx_then ?_)
  refine S.cond (e := (((a).length : Int) != ((b).length : Int))) (by kernel_rfl) (fun h1 => ?_) (fun h1 => ?_)
  · have g2 : ¬ (((a).length : Int) = ((b).length : Int)) := bne_iff_ne.1 h1
    refine wp_seq ?_
    refine RG.start ?_
    refine S.quiet (k := 1) (keep := [4]) (m := 0) (σ' := ⟨[(4, .v (B false))], []⟩) .nil (by kernel_rfl) ?_
    clear S; intro ac w β S
    refine RG.done rfl (nx_then ?_)
    refine wp_ret (rt_then ?_)
    refine S.ret (vs := [B false]) (by kernel_rfl) ?_
    exact ⟨retB (show false = decide (a = b) by clear S; first | (simp; intro e; subst e; simp_all; done) | (simp; rw [take_all (by omega), take_all (by omega)] at he; exact he) | (simp; exact take_ne (by simp_all))), S.chg⟩
  · have g3 : ((a).length : Int) = ((b).length : Int) := ne_f h1
    refine wp_skip (nx_then ?_)
    refine wp_seq ?_
    refine wp_seq ?_
    refine RG.start ?_
    refine S.quiet (k := 1) (keep := [0, 1, 5]) (m := 0) (σ' := ⟨[(0, .v (slv (a).length pa.1)), (1, .v (slv (b).length pb.1)), (5, .v (I 0))], []⟩) .nil (by kernel_rfl) ?_
    clear S; intro ac w β S
    refine RG.done rfl (nx_then ?_)
    refine wp_block ?_
    replace S := S.prune (keep := [0, 1, 5]) (m := 0) (σ' := ⟨[(0, .v (slv (a).length pa.1)), (1, .v (slv (b).length pb.1)), (5, .v (I 0))], []⟩) (by kernel_rfl)
    refine wp_loop_down (fun mm ac w => ∃ (k : Nat)  (u : World) (N : Bl) (β : Nat → Nat), mm = a.length - k ∧ (k ≤ a.length) ∧ (a.length = b.length) ∧ (a.take k = b.take k) ∧ St Try.prog Try.f55.ntmps w0 NoB u N β ⟨[(0, .v (slv (a).length pa.1)), (1, .v (slv (b).length pb.1)), (5, .v (I (k : Int)))], []⟩ ac w) _ ⟨0, _, _, _, rfl, (by first | omega | (simp; done) | (simp; omega)), (by first | omega | (simp; done) | (simp; omega)), (by simp), S.cast (by kernel_rfl)⟩ ?_
    clear S
    rintro mm ac w ⟨k, u, N, β, rfl, hk, hab, he, S⟩
    refine wp_seq ?_
    refine wp_seq ?_
    refine RG.start ?_
    refine S.quiet (k := 4) (keep := [0, 1, 5, 14]) (m := 0) (σ' := ⟨[(0, .v (slv (a).length pa.1)), (1, .v (slv (b).length pb.1)), (5, .v (I (k : Int))), (14, .v (B (decide ((k : Int) < ((a).length : Int)))))], []⟩) .nil (by kernel_rfl) ?_
    clear S; intro ac w β S
    refine RG.done rfl (nx_then ?_)
    refine S.cond (e := (decide ((k : Int) < ((a).length : Int)))) (by kernel_rfl) (fun h4 => ?_) (fun h4 => ?_)
    · have g5 : (k : Int) < ((a).length : Int) := of_decide_eq_true h4
      refine wp_skip (nx_then ?_)
      refine wp_seq ?_
      refine wp_block ?_
      refine wp_seq ?_
      refine S.drawn (keep := [0, 1, 5, 26]) (m := 0) (σ' := ⟨[(0, .v (slv (a).length pa.1)), (1, .v (slv (b).length pb.1)), (5, .v (I (k : Int))), (26, .v (B (!(decide ((el a k) = (el b k))))))], []⟩) (.cons (Q_idx (S.arg ha) (l := (a).length) (k := k) (i := (k : Int)) rfl rfl (by omega) Try.underlying42 (by kernel_rfl)) (.cons (Q_el (S.arg ha) (t := 120) (k := k) (by omega) rfl (by kernel_rfl) (by kernel_rfl)) (.cons (Q_idx (S.arg hb) (l := (b).length) (k := k) (i := (k : Int)) rfl rfl (by omega) Try.underlying42 (by kernel_rfl)) (.cons (Q_el (S.arg hb) (t := 120) (k := k) (by omega) rfl (by kernel_rfl) (by kernel_rfl)) (.cons (Q_call fun w hw => c_laws_eqSlot w (el a k) (el b k)) .nil))))) rfl (by kernel_rfl) (by kernel_rfl) ?_
      clear S; intro ac w S
      refine id (nx_then ?_)
      refine S.cond (e := (!(decide ((el a k) = (el b k))))) (by kernel_rfl) (fun h6 => ?_) (fun h6 => ?_)
      · have h7 : (decide ((el a k) = (el b k))) = false := not_t h6
        have g8 := of_decide_eq_false h7
        refine wp_seq ?_
        refine RG.start ?_
        refine S.quiet (k := 1) (keep := [4]) (m := 0) (σ' := ⟨[(4, .v (B false))], []⟩) .nil (by kernel_rfl) ?_
        clear S; intro ac w β S
        refine RG.done rfl (nx_then ?_)
        refine wp_ret (rt_block (rt_then (rt_then (rt_block (rt_then ?_)))))
        refine S.ret (vs := [B false]) (by kernel_rfl) ?_
        exact ⟨retB (show false = decide (a = b) by clear S; first | (simp; intro e; subst e; simp_all; done) | (simp; rw [take_all (by omega), take_all (by omega)] at he; exact he) | (simp; exact take_ne (by simp_all))), S.chg⟩
      · have h9 : (decide ((el a k) = (el b k))) = true := not_f h6
        have g10 := of_decide_eq_true h9
        refine wp_skip (nx_block (nx_then ?_))
        refine RG.start ?_
        refine S.quiet (k := 3) (keep := [0, 1, 5]) (m := 0) (σ' := ⟨[(0, .v (slv (a).length pa.1)), (1, .v (slv (b).length pb.1)), (5, .v (I ((k : Int) + 1)))], []⟩) (.cons (Q_add (x := (k : Int)) (y := 1) ⟨by omega, by omega⟩) .nil) (by kernel_rfl) ?_
        clear S; intro ac w β S
        refine RG.done rfl (nx_then ?_)
        replace S := S.prune (keep := [0, 1, 5]) (m := 0) (σ' := ⟨[(0, .v (slv (a).length pa.1)), (1, .v (slv (b).length pb.1)), (5, .v (I ((k : Int) + 1)))], []⟩) (by kernel_rfl)
        refine ⟨a.length - (k + 1), by omega, k + 1, _, _, _, rfl, ?_, ?_, ?_, S.cast (by kernel_rfl)⟩
        · clear S; first | omega | (simp [*]; done) | (simp [*]; omega)
        · clear S; first | omega | (simp [*]; done) | (simp [*]; omega)
        · clear S; exact take_eq_step (by omega) (by omega) he (by simp_all)
    · have g11 : ¬ ((k : Int) < ((a).length : Int)) := of_decide_eq_false h4
      refine wp_exit (ex_then (ex_then (ex_hit (nx_then ?_))))
      refine wp_seq ?_
      refine RG.start ?_
      refine S.quiet (k := 1) (keep := [4]) (m := 0) (σ' := ⟨[(4, .v (B true))], []⟩) .nil (by kernel_rfl) ?_
      clear S; intro ac w β S
      refine RG.done rfl (nx_then ?_)
      refine wp_ret ?_
      refine S.ret (vs := [B true]) (by kernel_rfl) ?_
      exact ⟨retB (show true = decide (a = b) by clear S; first | (simp; intro e; subst e; simp_all; done) | (simp; rw [take_all (by omega), take_all (by omega)] at he; exact he) | (simp; exact take_ne (by simp_all))), S.chg⟩

set_option maxRecDepth 100000 in
theorem c_laws_eqBoolS (w0 : World) (a : List Bool) (pa : LP Bool) (ha : GT.rd KK (Lt w0.heap.size) w0 a pa) (b : List Bool) (pb : LP Bool) (hb : GT.rd KK (Lt w0.heap.size) w0 b pb) : Calls Try.prog 56 [slv (a).length pa.1, slv (b).length pb.1].toArray w0 (fun e w' => e = .returned (B (decide (a = b))) ∧ Chg NoB w0 w') := by
  refine Calls.walk (args := [slv (a).length pa.1, slv (b).length pb.1]) NoB Try.func56 rfl rfl ?_
  intro ac β S
  have hlea : a.length ≤ 4194304 := LRd.le ha
  have hleb : b.length ≤ 4194304 := LRd.le hb
  refine wp_seq ?_
  refine RG.start ?_
  refine S.quiet (k := 1) (keep := [0, 1]) (m := 0) (σ' := ⟨[(0, .v (slv (a).length pa.1)), (1, .v (slv (b).length pb.1))], []⟩) .nil (by kernel_rfl) ?_
  clear S; intro ac w β S
  refine RG.done rfl (nx_then ?_)
  refine wp_seq ?_
  refine wp_seq ?_
  refine RG.start ?_
  refine S.quiet (k := 5) (keep := [0, 1, 10]) (m := 0) (σ' := ⟨[(0, .v (slv (a).length pa.1)), (1, .v (slv (b).length pb.1)), (10, .v (B (((a).length : Int) != ((b).length : Int))))], []⟩) .nil (by kernel_rfl) ?_
  clear S; intro ac w β S
  refine RG.done rfl (nx_then ?_)
  refine S.cond (e := (((a).length : Int) != ((b).length : Int))) (by kernel_rfl) (fun h1 => ?_) (fun h1 => ?_)
  · have g2 : ¬ (((a).length : Int) = ((b).length : Int)) := bne_iff_ne.1 h1
    refine wp_seq ?_
    refine RG.start ?_
    refine S.quiet (k := 1) (keep := [4]) (m := 0) (σ' := ⟨[(4, .v (B false))], []⟩) .nil (by kernel_rfl) ?_
    clear S; intro ac w β S
    refine RG.done rfl (nx_then ?_)
    refine wp_ret (rt_then ?_)
    refine S.ret (vs := [B false]) (by kernel_rfl) ?_
    exact ⟨retB (show false = decide (a = b) by clear S; first | (simp; intro e; subst e; simp_all; done) | (simp; rw [take_all (by omega), take_all (by omega)] at he; exact he) | (simp; exact take_ne (by simp_all))), S.chg⟩
  · have g3 : ((a).length : Int) = ((b).length : Int) := ne_f h1
    refine wp_skip (nx_then ?_)
    refine wp_seq ?_
    refine wp_seq ?_
    refine RG.start ?_
    refine S.quiet (k := 1) (keep := [0, 1, 5]) (m := 0) (σ' := ⟨[(0, .v (slv (a).length pa.1)), (1, .v (slv (b).length pb.1)), (5, .v (I 0))], []⟩) .nil (by kernel_rfl) ?_
    clear S; intro ac w β S
    refine RG.done rfl (nx_then ?_)
    refine wp_block ?_
    replace S := S.prune (keep := [0, 1, 5]) (m := 0) (σ' := ⟨[(0, .v (slv (a).length pa.1)), (1, .v (slv (b).length pb.1)), (5, .v (I 0))], []⟩) (by kernel_rfl)
    refine wp_loop_down (fun mm ac w => ∃ (k : Nat)  (u : World) (N : Bl) (β : Nat → Nat), mm = a.length - k ∧ (k ≤ a.length) ∧ (a.length = b.length) ∧ (a.take k = b.take k) ∧ St Try.prog Try.f56.ntmps w0 NoB u N β ⟨[(0, .v (slv (a).length pa.1)), (1, .v (slv (b).length pb.1)), (5, .v (I (k : Int)))], []⟩ ac w) _ ⟨0, _, _, _, rfl, (by first | omega | (simp; done) | (simp; omega)), (by first | omega | (simp; done) | (simp; omega)), (by simp), S.cast (by kernel_rfl)⟩ ?_
    clear S
    rintro mm ac w ⟨k, u, N, β, rfl, hk, hab, he, S⟩
    refine wp_seq ?_
    refine wp_seq ?_
    refine RG.start ?_
    refine S.quiet (k := 4) (keep := [0, 1, 5, 14]) (m := 0) (σ' := ⟨[(0, .v (slv (a).length pa.1)), (1, .v (slv (b).length pb.1)), (5, .v (I (k : Int))), (14, .v (B (decide ((k : Int) < ((a).length : Int)))))], []⟩) .nil (by kernel_rfl) ?_
    clear S; intro ac w β S
    refine RG.done rfl (nx_then ?_)
    refine S.cond (e := (decide ((k : Int) < ((a).length : Int)))) (by kernel_rfl) (fun h4 => ?_) (fun h4 => ?_)
    · have g5 : (k : Int) < ((a).length : Int) := of_decide_eq_true h4
      refine wp_skip (nx_then ?_)
      refine wp_seq ?_
      refine wp_block ?_
      refine wp_seq ?_
      refine S.drawn (keep := [0, 1, 5, 25]) (m := 0) (σ' := ⟨[(0, .v (slv (a).length pa.1)), (1, .v (slv (b).length pb.1)), (5, .v (I (k : Int))), (25, .v (B (!((el a k) == (el b k)))))], []⟩) (.cons (Q_idx (S.arg ha) (l := (a).length) (k := k) (i := (k : Int)) rfl rfl (by omega) Try.underlying28 (by kernel_rfl)) (.cons (Q_el1 (S.arg ha) (t := 4) (k := k) (by omega) rfl (by kernel_rfl)) (.cons (Q_idx (S.arg hb) (l := (b).length) (k := k) (i := (k : Int)) rfl rfl (by omega) Try.underlying28 (by kernel_rfl)) (.cons (Q_el1 (S.arg hb) (t := 4) (k := k) (by omega) rfl (by kernel_rfl)) .nil)))) rfl (by kernel_rfl) (by kernel_rfl) ?_
      clear S; intro ac w S
      refine id (nx_then ?_)
      refine S.cond (e := (!((el a k) == (el b k)))) (by kernel_rfl) (fun h6 => ?_) (fun h6 => ?_)
      · have h7 : ((el a k) == (el b k)) = false := not_t h6
        have g8 : ¬ ((el a k) = (el b k)) := ne_of_beq_false h7
        refine wp_seq ?_
        refine RG.start ?_
        refine S.quiet (k := 1) (keep := [4]) (m := 0) (σ' := ⟨[(4, .v (B false))], []⟩) .nil (by kernel_rfl) ?_
        clear S; intro ac w β S
        refine RG.done rfl (nx_then ?_)
        refine wp_ret (rt_block (rt_then (rt_then (rt_block (rt_then ?_)))))
        refine S.ret (vs := [B false]) (by kernel_rfl) ?_
        exact ⟨retB (show false = decide (a = b) by clear S; first | (simp; intro e; subst e; simp_all; done) | (simp; rw [take_all (by omega), take_all (by omega)] at he; exact he) | (simp; exact take_ne (by simp_all))), S.chg⟩
      · have h9 : ((el a k) == (el b k)) = true := not_f h6
        have g10 : (el a k) = (el b k) := eq_of_beq h9
        refine wp_skip (nx_block (nx_then ?_))
        refine RG.start ?_
        refine S.quiet (k := 3) (keep := [0, 1, 5]) (m := 0) (σ' := ⟨[(0, .v (slv (a).length pa.1)), (1, .v (slv (b).length pb.1)), (5, .v (I ((k : Int) + 1)))], []⟩) (.cons (Q_add (x := (k : Int)) (y := 1) ⟨by omega, by omega⟩) .nil) (by kernel_rfl) ?_
        clear S; intro ac w β S
        refine RG.done rfl (nx_then ?_)
        replace S := S.prune (keep := [0, 1, 5]) (m := 0) (σ' := ⟨[(0, .v (slv (a).length pa.1)), (1, .v (slv (b).length pb.1)), (5, .v (I ((k : Int) + 1)))], []⟩) (by kernel_rfl)
        refine ⟨a.length - (k + 1), by omega, k + 1, _, _, _, rfl, ?_, ?_, ?_, S.cast (by kernel_rfl)⟩
        · clear S; first | omega | (simp [*]; done) | (simp [*]; omega)
        · clear S; first | omega | (simp [*]; done) | (simp [*]; omega)
        · clear S; exact take_eq_step (by omega) (by omega) he (by simp_all)
    · have g11 : ¬ ((k : Int) < ((a).length : Int)) := of_decide_eq_false h4
      refine wp_exit (ex_then (ex_then (ex_hit (nx_then ?_))))
      refine wp_seq ?_
      refine RG.start ?_
      refine S.quiet (k := 1) (keep := [4]) (m := 0) (σ' := ⟨[(4, .v (B true))], []⟩) .nil (by kernel_rfl) ?_
      clear S; intro ac w β S
      refine RG.done rfl (nx_then ?_)
      refine wp_ret ?_
      refine S.ret (vs := [B true]) (by kernel_rfl) ?_
      exact ⟨retB (show true = decide (a = b) by clear S; first | (simp; intro e; subst e; simp_all; done) | (simp; rw [take_all (by omega), take_all (by omega)] at he; exact he) | (simp; exact take_ne (by simp_all))), S.chg⟩

set_option maxRecDepth 100000 in
theorem c_laws_eqIns (w0 : World) (a : TIns) (b : TIns) : Calls Try.prog 122 [GT.val (α := TIns) a (), GT.val (α := TIns) b ()].toArray w0 (fun e w' => e = .returned (B (decide (a = b))) ∧ Chg NoB w0 w') := by
  refine Calls.walk (args := [GT.val (α := TIns) a (), GT.val (α := TIns) b ()]) NoB Try.func122 rfl rfl ?_
  intro ac β S
  refine wp_seq ?_
  refine RG.start ?_
  refine S.quiet (k := 3) (keep := [2, 3]) (m := 2) (σ' := ⟨[(2, .p 0 0), (3, .p 1 0)], [GT.cells (α := TIns) a (), GT.cells (α := TIns) b ()]⟩) .nil (by kernel_rfl) ?_
  clear S; intro ac w β S
  refine RG.done rfl (nx_then ?_)
  refine wp_seq ?_
  refine wp_seq ?_
  refine RG.start ?_
  refine S.quiet (k := 5) (keep := [2, 3, 9]) (m := 2) (σ' := ⟨[(2, .p 0 0), (3, .p 1 0), (9, .v (B (a.opc != b.opc)))], [GT.cells (α := TIns) a (), GT.cells (α := TIns) b ()]⟩) .nil (by kernel_rfl) ?_
  clear S; intro ac w β S
  refine RG.done rfl (nx_then ?_)
  refine S.cond (e := (a.opc != b.opc)) (by kernel_rfl) (fun h1 => ?_) (fun h1 => ?_)
  · have g2 : ¬ (a.opc = b.opc) := bne_iff_ne.1 h1
    refine wp_seq ?_
    refine RG.start ?_
    refine S.quiet (k := 1) (keep := [4]) (m := 0) (σ' := ⟨[(4, .v (B false))], []⟩) .nil (by kernel_rfl) ?_
    clear S; intro ac w β S
    refine RG.done rfl (nx_then ?_)
    refine wp_ret (rt_then ?_)
    refine S.ret (vs := [B false]) (by kernel_rfl) ?_
    exact ⟨retB (show false = decide (a = b) by clear S; first | (simp [TIns.ext_iff, *]; done) | (simp_all [TIns.ext_iff]; done)), S.chg⟩
  · have g3 : a.opc = b.opc := ne_f h1
    refine wp_skip (nx_then ?_)
    refine wp_seq ?_
    refine wp_seq ?_
    refine RG.start ?_
    refine S.quiet (k := 5) (keep := [14]) (m := 0) (σ' := ⟨[(14, .v (B (a.x != b.x)))], []⟩) .nil (by kernel_rfl) ?_
    clear S; intro ac w β S
    refine RG.done rfl (nx_then ?_)
    refine S.cond (e := (a.x != b.x)) (by kernel_rfl) (fun h4 => ?_) (fun h4 => ?_)
    · have g5 : ¬ (a.x = b.x) := bne_iff_ne.1 h4
      refine wp_seq ?_
      refine RG.start ?_
      refine S.quiet (k := 1) (keep := [4]) (m := 0) (σ' := ⟨[(4, .v (B false))], []⟩) .nil (by kernel_rfl) ?_
      clear S; intro ac w β S
      refine RG.done rfl (nx_then ?_)
      refine wp_ret (rt_then ?_)
      refine S.ret (vs := [B false]) (by kernel_rfl) ?_
      exact ⟨retB (show false = decide (a = b) by clear S; first | (simp [TIns.ext_iff, *]; done) | (simp_all [TIns.ext_iff]; done)), S.chg⟩
    · have g6 : a.x = b.x := ne_f h4
      refine wp_skip (nx_then ?_)
      refine wp_seq ?_
      refine RG.start ?_
      refine S.quiet (k := 1) (keep := [4]) (m := 0) (σ' := ⟨[(4, .v (B true))], []⟩) .nil (by kernel_rfl) ?_
      clear S; intro ac w β S
      refine RG.done rfl (nx_then ?_)
      refine wp_ret ?_
      refine S.ret (vs := [B true]) (by kernel_rfl) ?_
      exact ⟨retB (show true = decide (a = b) by clear S; first | (simp [TIns.ext_iff, *]; done) | (simp_all [TIns.ext_iff]; done)), S.chg⟩

set_option maxRecDepth 100000 in
theorem c_laws_eqInsS (w0 : World) (a : List TIns) (pa : LP TIns) (ha : GT.rd KK (Lt w0.heap.size) w0 a pa) (b : List TIns) (pb : LP TIns) (hb : GT.rd KK (Lt w0.heap.size) w0 b pb) : Calls Try.prog 114 [slv (a).length pa.1, slv (b).length pb.1].toArray w0 (fun e w' => e = .returned (B (decide (a = b))) ∧ Chg NoB w0 w') := by
  refine Calls.walk (args := [slv (a).length pa.1, slv (b).length pb.1]) NoB Try.func114 rfl rfl ?_
  intro ac β S
  have hlea : a.length ≤ 4194304 := LRd.le ha
  have hleb : b.length ≤ 4194304 := LRd.le hb
  refine wp_seq ?_
  refine RG.start ?_
  refine S.quiet (k := 1) (keep := [0, 1]) (m := 0) (σ' := ⟨[(0, .v (slv (a).length pa.1)), (1, .v (slv (b).length pb.1))], []⟩) .nil (by kernel_rfl) ?_
  clear S; intro ac w β S
  refine RG.done rfl (nx_then ?_)
  refine wp_seq ?_
  refine wp_seq ?_
  refine RG.start ?_
  refine S.quiet (k := 5) (keep := [0, 1, 10]) (m := 0) (σ' := ⟨[(0, .v (slv (a).length pa.1)), (1, .v (slv (b).length pb.1)), (10, .v (B (((a).length : Int) != ((b).length : Int))))], []⟩) .nil (by kernel_rfl) ?_
  clear S; intro ac w β S
  refine RG.done rfl (nx_then ?_)
  refine S.cond (e := (((a).length : Int) != ((b).length : Int))) (by kernel_rfl) (fun h1 => ?_) (fun h1 => ?_)
  · have g2 : ¬ (((a).length : Int) = ((b).length : Int)) := bne_iff_ne.1 h1
    refine wp_seq ?_
    refine RG.start ?_
    refine S.quiet (k := 1) (keep := [4]) (m := 0) (σ' := ⟨[(4, .v (B false))], []⟩) .nil (by kernel_rfl) ?_
    clear S; intro ac w β S
    refine RG.done rfl (nx_then ?_)
    refine wp_ret (rt_then ?_)
    refine S.ret (vs := [B false]) (by kernel_rfl) ?_
    exact ⟨retB (show false = decide (a = b) by clear S; first | (simp; intro e; subst e; simp_all; done) | (simp; rw [take_all (by omega), take_all (by omega)] at he; exact he) | (simp; exact take_ne (by simp_all))), S.chg⟩
  · have g3 : ((a).length : Int) = ((b).length : Int) := ne_f h1
    refine wp_skip (nx_then ?_)
    refine wp_seq ?_
    refine wp_seq ?_
    refine RG.start ?_
    refine S.quiet (k := 1) (keep := [0, 1, 5]) (m := 0) (σ' := ⟨[(0, .v (slv (a).length pa.1)), (1, .v (slv (b).length pb.1)), (5, .v (I 0))], []⟩) .nil (by kernel_rfl) ?_
    clear S; intro ac w β S
    refine RG.done rfl (nx_then ?_)
    refine wp_block ?_
    replace S := S.prune (keep := [0, 1, 5]) (m := 0) (σ' := ⟨[(0, .v (slv (a).length pa.1)), (1, .v (slv (b).length pb.1)), (5, .v (I 0))], []⟩) (by kernel_rfl)
    refine wp_loop_down (fun mm ac w => ∃ (k : Nat)  (u : World) (N : Bl) (β : Nat → Nat), mm = a.length - k ∧ (k ≤ a.length) ∧ (a.length = b.length) ∧ (a.take k = b.take k) ∧ St Try.prog Try.f114.ntmps w0 NoB u N β ⟨[(0, .v (slv (a).length pa.1)), (1, .v (slv (b).length pb.1)), (5, .v (I (k : Int)))], []⟩ ac w) _ ⟨0, _, _, _, rfl, (by first | omega | (simp; done) | (simp; omega)), (by first | omega | (simp; done) | (simp; omega)), (by simp), S.cast (by kernel_rfl)⟩ ?_
    clear S
    rintro mm ac w ⟨k, u, N, β, rfl, hk, hab, he, S⟩
    refine wp_seq ?_
    refine wp_seq ?_
    refine RG.start ?_
    refine S.quiet (k := 4) (keep := [0, 1, 5, 14]) (m := 0) (σ' := ⟨[(0, .v (slv (a).length pa.1)), (1, .v (slv (b).length pb.1)), (5, .v (I (k : Int))), (14, .v (B (decide ((k : Int) < ((a).length : Int)))))], []⟩) .nil (by kernel_rfl) ?_
    clear S; intro ac w β S
    refine RG.done rfl (nx_then ?_)
    refine S.cond (e := (decide ((k : Int) < ((a).length : Int)))) (by kernel_rfl) (fun h4 => ?_) (fun h4 => ?_)
    · have g5 : (k : Int) < ((a).length : Int) := of_decide_eq_true h4
      refine wp_skip (nx_then ?_)
      refine wp_seq ?_
      refine wp_block ?_
      refine wp_seq ?_
      refine S.drawn (keep := [0, 1, 5, 26]) (m := 0) (σ' := ⟨[(0, .v (slv (a).length pa.1)), (1, .v (slv (b).length pb.1)), (5, .v (I (k : Int))), (26, .v (B (!(decide ((el a k) = (el b k))))))], []⟩) (.cons (Q_idx (S.arg ha) (l := (a).length) (k := k) (i := (k : Int)) rfl rfl (by omega) Try.underlying123 (by kernel_rfl)) (.cons (Q_el (S.arg ha) (t := 148) (k := k) (by omega) rfl (by kernel_rfl) (by kernel_rfl)) (.cons (Q_idx (S.arg hb) (l := (b).length) (k := k) (i := (k : Int)) rfl rfl (by omega) Try.underlying123 (by kernel_rfl)) (.cons (Q_el (S.arg hb) (t := 148) (k := k) (by omega) rfl (by kernel_rfl) (by kernel_rfl)) (.cons (Q_call fun w hw => c_laws_eqIns w (el a k) (el b k)) .nil))))) rfl (by kernel_rfl) (by kernel_rfl) ?_
      clear S; intro ac w S
      refine id (nx_then ?_)
      refine S.cond (e := (!(decide ((el a k) = (el b k))))) (by kernel_rfl) (fun h6 => ?_) (fun h6 => ?_)
      · have h7 : (decide ((el a k) = (el b k))) = false := not_t h6
        have g8 := of_decide_eq_false h7
        refine wp_seq ?_
        refine RG.start ?_
        refine S.quiet (k := 1) (keep := [4]) (m := 0) (σ' := ⟨[(4, .v (B false))], []⟩) .nil (by kernel_rfl) ?_
        clear S; intro ac w β S
        refine RG.done rfl (nx_then ?_)
        refine wp_ret (rt_block (rt_then (rt_then (rt_block (rt_then ?_)))))
        refine S.ret (vs := [B false]) (by kernel_rfl) ?_
        exact ⟨retB (show false = decide (a = b) by clear S; first | (simp; intro e; subst e; simp_all; done) | (simp; rw [take_all (by omega), take_all (by omega)] at he; exact he) | (simp; exact take_ne (by simp_all))), S.chg⟩
      · have h9 : (decide ((el a k) = (el b k))) = true := not_f h6
        have g10 := of_decide_eq_true h9
        refine wp_skip (nx_block (nx_then ?_))
        refine RG.start ?_
        refine S.quiet (k := 3) (keep := [0, 1, 5]) (m := 0) (σ' := ⟨[(0, .v (slv (a).length pa.1)), (1, .v (slv (b).length pb.1)), (5, .v (I ((k : Int) + 1)))], []⟩) (.cons (Q_add (x := (k : Int)) (y := 1) ⟨by omega, by omega⟩) .nil) (by kernel_rfl) ?_
        clear S; intro ac w β S
        refine RG.done rfl (nx_then ?_)
        replace S := S.prune (keep := [0, 1, 5]) (m := 0) (σ' := ⟨[(0, .v (slv (a).length pa.1)), (1, .v (slv (b).length pb.1)), (5, .v (I ((k : Int) + 1)))], []⟩) (by kernel_rfl)
        refine ⟨a.length - (k + 1), by omega, k + 1, _, _, _, rfl, ?_, ?_, ?_, S.cast (by kernel_rfl)⟩
        · clear S; first | omega | (simp [*]; done) | (simp [*]; omega)
        · clear S; first | omega | (simp [*]; done) | (simp [*]; omega)
        · clear S; exact take_eq_step (by omega) (by omega) he (by simp_all)
    · have g11 : ¬ ((k : Int) < ((a).length : Int)) := of_decide_eq_false h4
      refine wp_exit (ex_then (ex_then (ex_hit (nx_then ?_))))
      refine wp_seq ?_
      refine RG.start ?_
      refine S.quiet (k := 1) (keep := [4]) (m := 0) (σ' := ⟨[(4, .v (B true))], []⟩) .nil (by kernel_rfl) ?_
      clear S; intro ac w β S
      refine RG.done rfl (nx_then ?_)
      refine wp_ret ?_
      refine S.ret (vs := [B true]) (by kernel_rfl) ?_
      exact ⟨retB (show true = decide (a = b) by clear S; first | (simp; intro e; subst e; simp_all; done) | (simp; rw [take_all (by omega), take_all (by omega)] at he; exact he) | (simp; exact take_ne (by simp_all))), S.chg⟩

set_option maxRecDepth 100000 in
theorem c_laws_eqCtl (w0 : World) (a : TCtl) (b : TCtl) : Calls Try.prog 115 [GT.val (α := TCtl) a (), GT.val (α := TCtl) b ()].toArray w0 (fun e w' => e = .returned (B (decide (a = b))) ∧ Chg NoB w0 w') := by
  refine Calls.walk (args := [GT.val (α := TCtl) a (), GT.val (α := TCtl) b ()]) NoB Try.func115 rfl rfl ?_
  intro ac β S
  refine wp_seq ?_
  refine RG.start ?_
  refine S.quiet (k := 3) (keep := [2, 3]) (m := 2) (σ' := ⟨[(2, .p 0 0), (3, .p 1 0)], [GT.cells (α := TCtl) a (), GT.cells (α := TCtl) b ()]⟩) .nil (by kernel_rfl) ?_
  clear S; intro ac w β S
  refine RG.done rfl (nx_then ?_)
  refine wp_seq ?_
  refine wp_seq ?_
  refine RG.start ?_
  refine S.quiet (k := 5) (keep := [2, 3, 9]) (m := 2) (σ' := ⟨[(2, .p 0 0), (3, .p 1 0), (9, .v (B (a.traps != b.traps)))], [GT.cells (α := TCtl) a (), GT.cells (α := TCtl) b ()]⟩) .nil (by kernel_rfl) ?_
  clear S; intro ac w β S
  refine RG.done rfl (nx_then ?_)
  refine S.cond (e := (a.traps != b.traps)) (by kernel_rfl) (fun h1 => ?_) (fun h1 => ?_)
  · have g2 : ¬ (a.traps = b.traps) := bne_iff_ne.1 h1
    refine wp_seq ?_
    refine RG.start ?_
    refine S.quiet (k := 1) (keep := [4]) (m := 0) (σ' := ⟨[(4, .v (B false))], []⟩) .nil (by kernel_rfl) ?_
    clear S; intro ac w β S
    refine RG.done rfl (nx_then ?_)
    refine wp_ret (rt_then ?_)
    refine S.ret (vs := [B false]) (by kernel_rfl) ?_
    exact ⟨retB (show false = decide (a = b) by clear S; first | (simp [TCtl.ext_iff, *]; done) | (simp_all [TCtl.ext_iff]; done)), S.chg⟩
  · have g3 : a.traps = b.traps := ne_f h1
    refine wp_skip (nx_then ?_)
    refine wp_seq ?_
    refine wp_seq ?_
    refine RG.start ?_
    refine S.quiet (k := 5) (keep := [2, 3, 14]) (m := 2) (σ' := ⟨[(2, .p 0 0), (3, .p 1 0), (14, .v (B (a.post != b.post)))], [GT.cells (α := TCtl) a (), GT.cells (α := TCtl) b ()]⟩) .nil (by kernel_rfl) ?_
    clear S; intro ac w β S
    refine RG.done rfl (nx_then ?_)
    refine S.cond (e := (a.post != b.post)) (by kernel_rfl) (fun h4 => ?_) (fun h4 => ?_)
    · have g5 : ¬ (a.post = b.post) := bne_iff_ne.1 h4
      refine wp_seq ?_
      refine RG.start ?_
      refine S.quiet (k := 1) (keep := [4]) (m := 0) (σ' := ⟨[(4, .v (B false))], []⟩) .nil (by kernel_rfl) ?_
      clear S; intro ac w β S
      refine RG.done rfl (nx_then ?_)
      refine wp_ret (rt_then ?_)
      refine S.ret (vs := [B false]) (by kernel_rfl) ?_
      exact ⟨retB (show false = decide (a = b) by clear S; first | (simp [TCtl.ext_iff, *]; done) | (simp_all [TCtl.ext_iff]; done)), S.chg⟩
    · have g6 : a.post = b.post := ne_f h4
      refine wp_skip (nx_then ?_)
      refine wp_seq ?_
      refine wp_seq ?_
      refine RG.start ?_
      refine S.quiet (k := 5) (keep := [19]) (m := 0) (σ' := ⟨[(19, .v (B (!(a.opn == b.opn))))], []⟩) .nil (by kernel_rfl) ?_
      clear S; intro ac w β S
      refine RG.done rfl (nx_then ?_)
      refine S.cond (e := (!(a.opn == b.opn))) (by kernel_rfl) (fun h7 => ?_) (fun h7 => ?_)
      · have h8 : (a.opn == b.opn) = false := not_t h7
        have g9 : ¬ (a.opn = b.opn) := ne_of_beq_false h8
        refine wp_seq ?_
        refine RG.start ?_
        refine S.quiet (k := 1) (keep := [4]) (m := 0) (σ' := ⟨[(4, .v (B false))], []⟩) .nil (by kernel_rfl) ?_
        clear S; intro ac w β S
        refine RG.done rfl (nx_then ?_)
        refine wp_ret (rt_then ?_)
        refine S.ret (vs := [B false]) (by kernel_rfl) ?_
        exact ⟨retB (show false = decide (a = b) by clear S; first | (simp [TCtl.ext_iff, *]; done) | (simp_all [TCtl.ext_iff]; done)), S.chg⟩
      · have h10 : (a.opn == b.opn) = true := not_f h7
        have g11 : a.opn = b.opn := eq_of_beq h10
        refine wp_skip (nx_then ?_)
        refine wp_seq ?_
        refine RG.start ?_
        refine S.quiet (k := 1) (keep := [4]) (m := 0) (σ' := ⟨[(4, .v (B true))], []⟩) .nil (by kernel_rfl) ?_
        clear S; intro ac w β S
        refine RG.done rfl (nx_then ?_)
        refine wp_ret ?_
        refine S.ret (vs := [B true]) (by kernel_rfl) ?_
        exact ⟨retB (show true = decide (a = b) by clear S; first | (simp [TCtl.ext_iff, *]; done) | (simp_all [TCtl.ext_iff]; done)), S.chg⟩

set_option maxRecDepth 100000 in
theorem c_laws_eqExit (w0 : World) (a : TExit) (b : TExit) : Calls Try.prog 116 [GT.val (α := TExit) a (), GT.val (α := TExit) b ()].toArray w0 (fun e w' => e = .returned (B (decide (a = b))) ∧ Chg NoB w0 w') := by
  refine Calls.walk (args := [GT.val (α := TExit) a (), GT.val (α := TExit) b ()]) NoB Try.func116 rfl rfl ?_
  intro ac β S
  refine wp_seq ?_
  refine RG.start ?_
  refine S.quiet (k := 3) (keep := [2, 3]) (m := 2) (σ' := ⟨[(2, .p 0 0), (3, .p 1 0)], [GT.cells (α := TExit) a (), GT.cells (α := TExit) b ()]⟩) .nil (by kernel_rfl) ?_
  clear S; intro ac w β S
  refine RG.done rfl (nx_then ?_)
  refine wp_seq ?_
  refine wp_seq ?_
  refine RG.start ?_
  refine S.quiet (k := 5) (keep := [2, 3, 9]) (m := 2) (σ' := ⟨[(2, .p 0 0), (3, .p 1 0), (9, .v (B (a.kind != b.kind)))], [GT.cells (α := TExit) a (), GT.cells (α := TExit) b ()]⟩) .nil (by kernel_rfl) ?_
  clear S; intro ac w β S
  refine RG.done rfl (nx_then ?_)
  refine S.cond (e := (a.kind != b.kind)) (by kernel_rfl) (fun h1 => ?_) (fun h1 => ?_)
  · have g2 : ¬ (a.kind = b.kind) := bne_iff_ne.1 h1
    refine wp_seq ?_
    refine RG.start ?_
    refine S.quiet (k := 1) (keep := [4]) (m := 0) (σ' := ⟨[(4, .v (B false))], []⟩) .nil (by kernel_rfl) ?_
    clear S; intro ac w β S
    refine RG.done rfl (nx_then ?_)
    refine wp_ret (rt_then ?_)
    refine S.ret (vs := [B false]) (by kernel_rfl) ?_
    exact ⟨retB (show false = decide (a = b) by clear S; first | (simp [TExit.ext_iff, *]; done) | (simp_all [TExit.ext_iff]; done)), S.chg⟩
  · have g3 : a.kind = b.kind := ne_f h1
    refine wp_skip (nx_then ?_)
    refine wp_seq ?_
    refine wp_seq ?_
    refine RG.start ?_
    refine S.quiet (k := 5) (keep := [2, 3, 14]) (m := 2) (σ' := ⟨[(2, .p 0 0), (3, .p 1 0), (14, .v (B (a.page != b.page)))], [GT.cells (α := TExit) a (), GT.cells (α := TExit) b ()]⟩) .nil (by kernel_rfl) ?_
    clear S; intro ac w β S
    refine RG.done rfl (nx_then ?_)
    refine S.cond (e := (a.page != b.page)) (by kernel_rfl) (fun h4 => ?_) (fun h4 => ?_)
    · have g5 : ¬ (a.page = b.page) := bne_iff_ne.1 h4
      refine wp_seq ?_
      refine RG.start ?_
      refine S.quiet (k := 1) (keep := [4]) (m := 0) (σ' := ⟨[(4, .v (B false))], []⟩) .nil (by kernel_rfl) ?_
      clear S; intro ac w β S
      refine RG.done rfl (nx_then ?_)
      refine wp_ret (rt_then ?_)
      refine S.ret (vs := [B false]) (by kernel_rfl) ?_
      exact ⟨retB (show false = decide (a = b) by clear S; first | (simp [TExit.ext_iff, *]; done) | (simp_all [TExit.ext_iff]; done)), S.chg⟩
    · have g6 : a.page = b.page := ne_f h4
      refine wp_skip (nx_then ?_)
      refine wp_seq ?_
      refine wp_seq ?_
      refine RG.start ?_
      refine S.quiet (k := 5) (keep := [2, 3, 19]) (m := 2) (σ' := ⟨[(2, .p 0 0), (3, .p 1 0), (19, .v (B (!(a.wr == b.wr))))], [GT.cells (α := TExit) a (), GT.cells (α := TExit) b ()]⟩) .nil (by kernel_rfl) ?_
      clear S; intro ac w β S
      refine RG.done rfl (nx_then ?_)
      refine S.cond (e := (!(a.wr == b.wr))) (by kernel_rfl) (fun h7 => ?_) (fun h7 => ?_)
      · have h8 : (a.wr == b.wr) = false := not_t h7
        have g9 : ¬ (a.wr = b.wr) := ne_of_beq_false h8
        refine wp_seq ?_
        refine RG.start ?_
        refine S.quiet (k := 1) (keep := [4]) (m := 0) (σ' := ⟨[(4, .v (B false))], []⟩) .nil (by kernel_rfl) ?_
        clear S; intro ac w β S
        refine RG.done rfl (nx_then ?_)
        refine wp_ret (rt_then ?_)
        refine S.ret (vs := [B false]) (by kernel_rfl) ?_
        exact ⟨retB (show false = decide (a = b) by clear S; first | (simp [TExit.ext_iff, *]; done) | (simp_all [TExit.ext_iff]; done)), S.chg⟩
      · have h10 : (a.wr == b.wr) = true := not_f h7
        have g11 : a.wr = b.wr := eq_of_beq h10
        refine wp_skip (nx_then ?_)
        refine wp_seq ?_
        refine wp_seq ?_
        refine RG.start ?_
        refine S.quiet (k := 5) (keep := [24]) (m := 0) (σ' := ⟨[(24, .v (B (a.n != b.n)))], []⟩) .nil (by kernel_rfl) ?_
        clear S; intro ac w β S
        refine RG.done rfl (nx_then ?_)
        refine S.cond (e := (a.n != b.n)) (by kernel_rfl) (fun h12 => ?_) (fun h12 => ?_)
        · have g13 : ¬ (a.n = b.n) := bne_iff_ne.1 h12
          refine wp_seq ?_
          refine RG.start ?_
          refine S.quiet (k := 1) (keep := [4]) (m := 0) (σ' := ⟨[(4, .v (B false))], []⟩) .nil (by kernel_rfl) ?_
          clear S; intro ac w β S
          refine RG.done rfl (nx_then ?_)
          refine wp_ret (rt_then ?_)
          refine S.ret (vs := [B false]) (by kernel_rfl) ?_
          exact ⟨retB (show false = decide (a = b) by clear S; first | (simp [TExit.ext_iff, *]; done) | (simp_all [TExit.ext_iff]; done)), S.chg⟩
        · have g14 : a.n = b.n := ne_f h12
          refine wp_skip (nx_then ?_)
          refine wp_seq ?_
          refine RG.start ?_
          refine S.quiet (k := 1) (keep := [4]) (m := 0) (σ' := ⟨[(4, .v (B true))], []⟩) .nil (by kernel_rfl) ?_
          clear S; intro ac w β S
          refine RG.done rfl (nx_then ?_)
          refine wp_ret ?_
          refine S.ret (vs := [B true]) (by kernel_rfl) ?_
          exact ⟨retB (show true = decide (a = b) by clear S; first | (simp [TExit.ext_iff, *]; done) | (simp_all [TExit.ext_iff]; done)), S.chg⟩

set_option maxRecDepth 100000 in
theorem c_laws_eqGuest (w0 : World) (a : TGuest) (pa : PGuest) (ha : GT.rd KK (Lt w0.heap.size) w0 a pa) (b : TGuest) (pb : PGuest) (hb : GT.rd KK (Lt w0.heap.size) w0 b pb) : Calls Try.prog 95 [GT.val (α := TGuest) a pa, GT.val (α := TGuest) b pb].toArray w0 (fun e w' => e = .returned (B (decide (a = b))) ∧ Chg NoB w0 w') := by
  refine Calls.walk (args := [GT.val (α := TGuest) a pa, GT.val (α := TGuest) b pb]) NoB Try.func95 rfl rfl ?_
  intro ac β S
  have hlea_prog : a.prog.length ≤ 4194304 := LRd.le (RGuest.prog (d := a) ha)
  have hlea_written : a.written.length ≤ 4194304 := LRd.le (RGuest.written (d := a) ha)
  have hlea_live : a.live.length ≤ 4194304 := LRd.le (RGuest.live (d := a) ha)
  have hlea_seen : a.seen.length ≤ 4194304 := LRd.le (RGuest.seen (d := a) ha)
  have hleb_prog : b.prog.length ≤ 4194304 := LRd.le (RGuest.prog (d := b) hb)
  have hleb_written : b.written.length ≤ 4194304 := LRd.le (RGuest.written (d := b) hb)
  have hleb_live : b.live.length ≤ 4194304 := LRd.le (RGuest.live (d := b) hb)
  have hleb_seen : b.seen.length ≤ 4194304 := LRd.le (RGuest.seen (d := b) hb)
  refine wp_seq ?_
  refine RG.start ?_
  refine S.quiet (k := 3) (keep := [2, 3]) (m := 2) (σ' := ⟨[(2, .p 0 0), (3, .p 1 0)], [GT.cells (α := TGuest) a pa, GT.cells (α := TGuest) b pb]⟩) .nil (by kernel_rfl) ?_
  clear S; intro ac w β S
  refine RG.done rfl (nx_then ?_)
  refine wp_seq ?_
  refine wp_seq ?_
  refine RG.start ?_
  refine S.quiet (k := 6) (keep := [2, 3, 10]) (m := 2) (σ' := ⟨[(2, .p 0 0), (3, .p 1 0), (10, .v (B (!(decide (a.prog = b.prog)))))], [GT.cells (α := TGuest) a pa, GT.cells (α := TGuest) b pb]⟩) (.cons (Q_call fun w hw => c_laws_eqInsS w a.prog pa.prog (rd_of (RGuest.prog (d := a) (S.arg ha)) hw) b.prog pb.prog (rd_of (RGuest.prog (d := b) (S.arg hb)) hw)) .nil) (by kernel_rfl) ?_
  clear S; intro ac w β S
  refine RG.done rfl (nx_then ?_)
  refine S.cond (e := (!(decide (a.prog = b.prog)))) (by kernel_rfl) (fun h1 => ?_) (fun h1 => ?_)
  · have h2 : (decide (a.prog = b.prog)) = false := not_t h1
    have g3 := of_decide_eq_false h2
    refine wp_seq ?_
    refine RG.start ?_
    refine S.quiet (k := 1) (keep := [4]) (m := 0) (σ' := ⟨[(4, .v (B false))], []⟩) .nil (by kernel_rfl) ?_
    clear S; intro ac w β S
    refine RG.done rfl (nx_then ?_)
    refine wp_ret (rt_then ?_)
    refine S.ret (vs := [B false]) (by kernel_rfl) ?_
    exact ⟨retB (show false = decide (a = b) by clear S; first | (simp [TGuest.ext_iff, *]; done) | (simp_all [TGuest.ext_iff]; done)), S.chg⟩
  · have h4 : (decide (a.prog = b.prog)) = true := not_f h1
    have g5 := of_decide_eq_true h4
    refine wp_skip (nx_then ?_)
    refine wp_seq ?_
    refine wp_seq ?_
    refine RG.start ?_
    refine S.quiet (k := 5) (keep := [2, 3, 15]) (m := 2) (σ' := ⟨[(2, .p 0 0), (3, .p 1 0), (15, .v (B (a.acc != b.acc)))], [GT.cells (α := TGuest) a pa, GT.cells (α := TGuest) b pb]⟩) .nil (by kernel_rfl) ?_
    clear S; intro ac w β S
    refine RG.done rfl (nx_then ?_)
    refine S.cond (e := (a.acc != b.acc)) (by kernel_rfl) (fun h6 => ?_) (fun h6 => ?_)
    · have g7 : ¬ (a.acc = b.acc) := bne_iff_ne.1 h6
      refine wp_seq ?_
      refine RG.start ?_
      refine S.quiet (k := 1) (keep := [4]) (m := 0) (σ' := ⟨[(4, .v (B false))], []⟩) .nil (by kernel_rfl) ?_
      clear S; intro ac w β S
      refine RG.done rfl (nx_then ?_)
      refine wp_ret (rt_then ?_)
      refine S.ret (vs := [B false]) (by kernel_rfl) ?_
      exact ⟨retB (show false = decide (a = b) by clear S; first | (simp [TGuest.ext_iff, *]; done) | (simp_all [TGuest.ext_iff]; done)), S.chg⟩
    · have g8 : a.acc = b.acc := ne_f h6
      refine wp_skip (nx_then ?_)
      refine wp_seq ?_
      refine wp_seq ?_
      refine RG.start ?_
      refine S.quiet (k := 5) (keep := [2, 3, 20]) (m := 2) (σ' := ⟨[(2, .p 0 0), (3, .p 1 0), (20, .v (B (a.pc != b.pc)))], [GT.cells (α := TGuest) a pa, GT.cells (α := TGuest) b pb]⟩) .nil (by kernel_rfl) ?_
      clear S; intro ac w β S
      refine RG.done rfl (nx_then ?_)
      refine S.cond (e := (a.pc != b.pc)) (by kernel_rfl) (fun h9 => ?_) (fun h9 => ?_)
      · have g10 : ¬ (a.pc = b.pc) := bne_iff_ne.1 h9
        refine wp_seq ?_
        refine RG.start ?_
        refine S.quiet (k := 1) (keep := [4]) (m := 0) (σ' := ⟨[(4, .v (B false))], []⟩) .nil (by kernel_rfl) ?_
        clear S; intro ac w β S
        refine RG.done rfl (nx_then ?_)
        refine wp_ret (rt_then ?_)
        refine S.ret (vs := [B false]) (by kernel_rfl) ?_
        exact ⟨retB (show false = decide (a = b) by clear S; first | (simp [TGuest.ext_iff, *]; done) | (simp_all [TGuest.ext_iff]; done)), S.chg⟩
      · have g11 : a.pc = b.pc := ne_f h9
        refine wp_skip (nx_then ?_)
        refine wp_seq ?_
        refine wp_seq ?_
        refine RG.start ?_
        refine S.quiet (k := 6) (keep := [2, 3, 26]) (m := 2) (σ' := ⟨[(2, .p 0 0), (3, .p 1 0), (26, .v (B (!(decide (a.written = b.written)))))], [GT.cells (α := TGuest) a pa, GT.cells (α := TGuest) b pb]⟩) (.cons (Q_call fun w hw => c_laws_eqSlotS w a.written pa.written (rd_of (RGuest.written (d := a) (S.arg ha)) hw) b.written pb.written (rd_of (RGuest.written (d := b) (S.arg hb)) hw)) .nil) (by kernel_rfl) ?_
        clear S; intro ac w β S
        refine RG.done rfl (nx_then ?_)
        refine S.cond (e := (!(decide (a.written = b.written)))) (by kernel_rfl) (fun h12 => ?_) (fun h12 => ?_)
        · have h13 : (decide (a.written = b.written)) = false := not_t h12
          have g14 := of_decide_eq_false h13
          refine wp_seq ?_
          refine RG.start ?_
          refine S.quiet (k := 1) (keep := [4]) (m := 0) (σ' := ⟨[(4, .v (B false))], []⟩) .nil (by kernel_rfl) ?_
          clear S; intro ac w β S
          refine RG.done rfl (nx_then ?_)
          refine wp_ret (rt_then ?_)
          refine S.ret (vs := [B false]) (by kernel_rfl) ?_
          exact ⟨retB (show false = decide (a = b) by clear S; first | (simp [TGuest.ext_iff, *]; done) | (simp_all [TGuest.ext_iff]; done)), S.chg⟩
        · have h15 : (decide (a.written = b.written)) = true := not_f h12
          have g16 := of_decide_eq_true h15
          refine wp_skip (nx_then ?_)
          refine wp_seq ?_
          refine wp_seq ?_
          refine RG.start ?_
          refine S.quiet (k := 6) (keep := [2, 3, 32]) (m := 2) (σ' := ⟨[(2, .p 0 0), (3, .p 1 0), (32, .v (B (!(decide (a.live = b.live)))))], [GT.cells (α := TGuest) a pa, GT.cells (α := TGuest) b pb]⟩) (.cons (Q_call fun w hw => c_laws_eqSlotS w a.live pa.live (rd_of (RGuest.live (d := a) (S.arg ha)) hw) b.live pb.live (rd_of (RGuest.live (d := b) (S.arg hb)) hw)) .nil) (by kernel_rfl) ?_
          clear S; intro ac w β S
          refine RG.done rfl (nx_then ?_)
          refine S.cond (e := (!(decide (a.live = b.live)))) (by kernel_rfl) (fun h17 => ?_) (fun h17 => ?_)
          · have h18 : (decide (a.live = b.live)) = false := not_t h17
            have g19 := of_decide_eq_false h18
            refine wp_seq ?_
            refine RG.start ?_
            refine S.quiet (k := 1) (keep := [4]) (m := 0) (σ' := ⟨[(4, .v (B false))], []⟩) .nil (by kernel_rfl) ?_
            clear S; intro ac w β S
            refine RG.done rfl (nx_then ?_)
            refine wp_ret (rt_then ?_)
            refine S.ret (vs := [B false]) (by kernel_rfl) ?_
            exact ⟨retB (show false = decide (a = b) by clear S; first | (simp [TGuest.ext_iff, *]; done) | (simp_all [TGuest.ext_iff]; done)), S.chg⟩
          · have h20 : (decide (a.live = b.live)) = true := not_f h17
            have g21 := of_decide_eq_true h20
            refine wp_skip (nx_then ?_)
            refine wp_seq ?_
            refine wp_seq ?_
            refine RG.start ?_
            refine S.quiet (k := 6) (keep := [2, 3, 38]) (m := 2) (σ' := ⟨[(2, .p 0 0), (3, .p 1 0), (38, .v (B (!(decide (a.ctl = b.ctl)))))], [GT.cells (α := TGuest) a pa, GT.cells (α := TGuest) b pb]⟩) (.cons (Q_call fun w hw => c_laws_eqCtl w a.ctl b.ctl) .nil) (by kernel_rfl) ?_
            clear S; intro ac w β S
            refine RG.done rfl (nx_then ?_)
            refine S.cond (e := (!(decide (a.ctl = b.ctl)))) (by kernel_rfl) (fun h22 => ?_) (fun h22 => ?_)
            · have h23 : (decide (a.ctl = b.ctl)) = false := not_t h22
              have g24 := of_decide_eq_false h23
              refine wp_seq ?_
              refine RG.start ?_
              refine S.quiet (k := 1) (keep := [4]) (m := 0) (σ' := ⟨[(4, .v (B false))], []⟩) .nil (by kernel_rfl) ?_
              clear S; intro ac w β S
              refine RG.done rfl (nx_then ?_)
              refine wp_ret (rt_then ?_)
              refine S.ret (vs := [B false]) (by kernel_rfl) ?_
              exact ⟨retB (show false = decide (a = b) by clear S; first | (simp [TGuest.ext_iff, *]; done) | (simp_all [TGuest.ext_iff]; done)), S.chg⟩
            · have h25 : (decide (a.ctl = b.ctl)) = true := not_f h22
              have g26 := of_decide_eq_true h25
              refine wp_skip (nx_then ?_)
              refine wp_seq ?_
              refine wp_seq ?_
              refine RG.start ?_
              refine S.quiet (k := 5) (keep := [2, 3, 43]) (m := 2) (σ' := ⟨[(2, .p 0 0), (3, .p 1 0), (43, .v (B (a.pend != b.pend)))], [GT.cells (α := TGuest) a pa, GT.cells (α := TGuest) b pb]⟩) .nil (by kernel_rfl) ?_
              clear S; intro ac w β S
              refine RG.done rfl (nx_then ?_)
              refine S.cond (e := (a.pend != b.pend)) (by kernel_rfl) (fun h27 => ?_) (fun h27 => ?_)
              · have g28 : ¬ (a.pend = b.pend) := bne_iff_ne.1 h27
                refine wp_seq ?_
                refine RG.start ?_
                refine S.quiet (k := 1) (keep := [4]) (m := 0) (σ' := ⟨[(4, .v (B false))], []⟩) .nil (by kernel_rfl) ?_
                clear S; intro ac w β S
                refine RG.done rfl (nx_then ?_)
                refine wp_ret (rt_then ?_)
                refine S.ret (vs := [B false]) (by kernel_rfl) ?_
                exact ⟨retB (show false = decide (a = b) by clear S; first | (simp [TGuest.ext_iff, *]; done) | (simp_all [TGuest.ext_iff]; done)), S.chg⟩
              · have g29 : a.pend = b.pend := ne_f h27
                refine wp_skip (nx_then ?_)
                refine wp_seq ?_
                refine wp_seq ?_
                refine RG.start ?_
                refine S.quiet (k := 6) (keep := [2, 3, 49]) (m := 2) (σ' := ⟨[(2, .p 0 0), (3, .p 1 0), (49, .v (B (!(decide (a.exit = b.exit)))))], [GT.cells (α := TGuest) a pa, GT.cells (α := TGuest) b pb]⟩) (.cons (Q_call fun w hw => c_laws_eqExit w a.exit b.exit) .nil) (by kernel_rfl) ?_
                clear S; intro ac w β S
                refine RG.done rfl (nx_then ?_)
                refine S.cond (e := (!(decide (a.exit = b.exit)))) (by kernel_rfl) (fun h30 => ?_) (fun h30 => ?_)
                · have h31 : (decide (a.exit = b.exit)) = false := not_t h30
                  have g32 := of_decide_eq_false h31
                  refine wp_seq ?_
                  refine RG.start ?_
                  refine S.quiet (k := 1) (keep := [4]) (m := 0) (σ' := ⟨[(4, .v (B false))], []⟩) .nil (by kernel_rfl) ?_
                  clear S; intro ac w β S
                  refine RG.done rfl (nx_then ?_)
                  refine wp_ret (rt_then ?_)
                  refine S.ret (vs := [B false]) (by kernel_rfl) ?_
                  exact ⟨retB (show false = decide (a = b) by clear S; first | (simp [TGuest.ext_iff, *]; done) | (simp_all [TGuest.ext_iff]; done)), S.chg⟩
                · have h33 : (decide (a.exit = b.exit)) = true := not_f h30
                  have g34 := of_decide_eq_true h33
                  refine wp_skip (nx_then ?_)
                  refine wp_seq ?_
                  refine wp_seq ?_
                  refine RG.start ?_
                  refine S.quiet (k := 5) (keep := [2, 3, 54]) (m := 2) (σ' := ⟨[(2, .p 0 0), (3, .p 1 0), (54, .v (B (!(a.halted == b.halted))))], [GT.cells (α := TGuest) a pa, GT.cells (α := TGuest) b pb]⟩) .nil (by kernel_rfl) ?_
                  clear S; intro ac w β S
                  refine RG.done rfl (nx_then ?_)
                  refine S.cond (e := (!(a.halted == b.halted))) (by kernel_rfl) (fun h35 => ?_) (fun h35 => ?_)
                  · have h36 : (a.halted == b.halted) = false := not_t h35
                    have g37 : ¬ (a.halted = b.halted) := ne_of_beq_false h36
                    refine wp_seq ?_
                    refine RG.start ?_
                    refine S.quiet (k := 1) (keep := [4]) (m := 0) (σ' := ⟨[(4, .v (B false))], []⟩) .nil (by kernel_rfl) ?_
                    clear S; intro ac w β S
                    refine RG.done rfl (nx_then ?_)
                    refine wp_ret (rt_then ?_)
                    refine S.ret (vs := [B false]) (by kernel_rfl) ?_
                    exact ⟨retB (show false = decide (a = b) by clear S; first | (simp [TGuest.ext_iff, *]; done) | (simp_all [TGuest.ext_iff]; done)), S.chg⟩
                  · have h38 : (a.halted == b.halted) = true := not_f h35
                    have g39 : a.halted = b.halted := eq_of_beq h38
                    refine wp_skip (nx_then ?_)
                    refine wp_seq ?_
                    refine wp_seq ?_
                    refine RG.start ?_
                    refine S.quiet (k := 6) (keep := [60]) (m := 0) (σ' := ⟨[(60, .v (B (!(decide (a.seen = b.seen)))))], []⟩) (.cons (Q_call fun w hw => c_laws_eqIntS w a.seen pa.seen (rd_of (RGuest.seen (d := a) (S.arg ha)) hw) b.seen pb.seen (rd_of (RGuest.seen (d := b) (S.arg hb)) hw)) .nil) (by kernel_rfl) ?_
                    clear S; intro ac w β S
                    refine RG.done rfl (nx_then ?_)
                    refine S.cond (e := (!(decide (a.seen = b.seen)))) (by kernel_rfl) (fun h40 => ?_) (fun h40 => ?_)
                    · have h41 : (decide (a.seen = b.seen)) = false := not_t h40
                      have g42 := of_decide_eq_false h41
                      refine wp_seq ?_
                      refine RG.start ?_
                      refine S.quiet (k := 1) (keep := [4]) (m := 0) (σ' := ⟨[(4, .v (B false))], []⟩) .nil (by kernel_rfl) ?_
                      clear S; intro ac w β S
                      refine RG.done rfl (nx_then ?_)
                      refine wp_ret (rt_then ?_)
                      refine S.ret (vs := [B false]) (by kernel_rfl) ?_
                      exact ⟨retB (show false = decide (a = b) by clear S; first | (simp [TGuest.ext_iff, *]; done) | (simp_all [TGuest.ext_iff]; done)), S.chg⟩
                    · have h43 : (decide (a.seen = b.seen)) = true := not_f h40
                      have g44 := of_decide_eq_true h43
                      refine wp_skip (nx_then ?_)
                      refine wp_seq ?_
                      refine RG.start ?_
                      refine S.quiet (k := 1) (keep := [4]) (m := 0) (σ' := ⟨[(4, .v (B true))], []⟩) .nil (by kernel_rfl) ?_
                      clear S; intro ac w β S
                      refine RG.done rfl (nx_then ?_)
                      refine wp_ret ?_
                      refine S.ret (vs := [B true]) (by kernel_rfl) ?_
                      exact ⟨retB (show true = decide (a = b) by clear S; first | (simp [TGuest.ext_iff, *]; done) | (simp_all [TGuest.ext_iff]; done)), S.chg⟩

set_option maxRecDepth 100000 in
theorem c_laws_eqGuestS (w0 : World) (a : List TGuest) (pa : LP TGuest) (ha : GT.rd KK (Lt w0.heap.size) w0 a pa) (b : List TGuest) (pb : LP TGuest) (hb : GT.rd KK (Lt w0.heap.size) w0 b pb) : Calls Try.prog 57 [slv (a).length pa.1, slv (b).length pb.1].toArray w0 (fun e w' => e = .returned (B (decide (a = b))) ∧ Chg NoB w0 w') := by
  refine Calls.walk (args := [slv (a).length pa.1, slv (b).length pb.1]) NoB Try.func57 rfl rfl ?_
  intro ac β S
  have hlea : a.length ≤ 4194304 := LRd.le ha
  have hleb : b.length ≤ 4194304 := LRd.le hb
  refine wp_seq ?_
  refine RG.start ?_
  refine S.quiet (k := 1) (keep := [0, 1]) (m := 0) (σ' := ⟨[(0, .v (slv (a).length pa.1)), (1, .v (slv (b).length pb.1))], []⟩) .nil (by kernel_rfl) ?_
  clear S; intro ac w β S
  refine RG.done rfl (nx_then ?_)
  refine wp_seq ?_
  refine wp_seq ?_
  refine RG.start ?_
  refine S.quiet (k := 5) (keep := [0, 1, 10]) (m := 0) (σ' := ⟨[(0, .v (slv (a).length pa.1)), (1, .v (slv (b).length pb.1)), (10, .v (B (((a).length : Int) != ((b).length : Int))))], []⟩) .nil (by kernel_rfl) ?_
  clear S; intro ac w β S
  refine RG.done rfl (nx_then ?_)
  refine S.cond (e := (((a).length : Int) != ((b).length : Int))) (by kernel_rfl) (fun h1 => ?_) (fun h1 => ?_)
  · have g2 : ¬ (((a).length : Int) = ((b).length : Int)) := bne_iff_ne.1 h1
    refine wp_seq ?_
    refine RG.start ?_
    refine S.quiet (k := 1) (keep := [4]) (m := 0) (σ' := ⟨[(4, .v (B false))], []⟩) .nil (by kernel_rfl) ?_
    clear S; intro ac w β S
    refine RG.done rfl (nx_then ?_)
    refine wp_ret (rt_then ?_)
    refine S.ret (vs := [B false]) (by kernel_rfl) ?_
    exact ⟨retB (show false = decide (a = b) by clear S; first | (simp; intro e; subst e; simp_all; done) | (simp; rw [take_all (by omega), take_all (by omega)] at he; exact he) | (simp; exact take_ne (by simp_all))), S.chg⟩
  · have g3 : ((a).length : Int) = ((b).length : Int) := ne_f h1
    refine wp_skip (nx_then ?_)
    refine wp_seq ?_
    refine wp_seq ?_
    refine RG.start ?_
    refine S.quiet (k := 1) (keep := [0, 1, 5]) (m := 0) (σ' := ⟨[(0, .v (slv (a).length pa.1)), (1, .v (slv (b).length pb.1)), (5, .v (I 0))], []⟩) .nil (by kernel_rfl) ?_
    clear S; intro ac w β S
    refine RG.done rfl (nx_then ?_)
    refine wp_block ?_
    replace S := S.prune (keep := [0, 1, 5]) (m := 0) (σ' := ⟨[(0, .v (slv (a).length pa.1)), (1, .v (slv (b).length pb.1)), (5, .v (I 0))], []⟩) (by kernel_rfl)
    refine wp_loop_down (fun mm ac w => ∃ (k : Nat)  (u : World) (N : Bl) (β : Nat → Nat), mm = a.length - k ∧ (k ≤ a.length) ∧ (a.length = b.length) ∧ (a.take k = b.take k) ∧ St Try.prog Try.f57.ntmps w0 NoB u N β ⟨[(0, .v (slv (a).length pa.1)), (1, .v (slv (b).length pb.1)), (5, .v (I (k : Int)))], []⟩ ac w) _ ⟨0, _, _, _, rfl, (by first | omega | (simp; done) | (simp; omega)), (by first | omega | (simp; done) | (simp; omega)), (by simp), S.cast (by kernel_rfl)⟩ ?_
    clear S
    rintro mm ac w ⟨k, u, N, β, rfl, hk, hab, he, S⟩
    refine wp_seq ?_
    refine wp_seq ?_
    refine RG.start ?_
    refine S.quiet (k := 4) (keep := [0, 1, 5, 14]) (m := 0) (σ' := ⟨[(0, .v (slv (a).length pa.1)), (1, .v (slv (b).length pb.1)), (5, .v (I (k : Int))), (14, .v (B (decide ((k : Int) < ((a).length : Int)))))], []⟩) .nil (by kernel_rfl) ?_
    clear S; intro ac w β S
    refine RG.done rfl (nx_then ?_)
    refine S.cond (e := (decide ((k : Int) < ((a).length : Int)))) (by kernel_rfl) (fun h4 => ?_) (fun h4 => ?_)
    · have g5 : (k : Int) < ((a).length : Int) := of_decide_eq_true h4
      refine wp_skip (nx_then ?_)
      refine wp_seq ?_
      refine wp_block ?_
      refine wp_seq ?_
      refine S.drawn (keep := [0, 1, 5, 26]) (m := 0) (σ' := ⟨[(0, .v (slv (a).length pa.1)), (1, .v (slv (b).length pb.1)), (5, .v (I (k : Int))), (26, .v (B (!(decide ((el a k) = (el b k))))))], []⟩) (.cons (Q_idx (S.arg ha) (l := (a).length) (k := k) (i := (k : Int)) rfl rfl (by omega) Try.underlying43 (by kernel_rfl)) (.cons (Q_el (S.arg ha) (t := 127) (k := k) (by omega) rfl (by kernel_rfl) (by kernel_rfl)) (.cons (Q_idx (S.arg hb) (l := (b).length) (k := k) (i := (k : Int)) rfl rfl (by omega) Try.underlying43 (by kernel_rfl)) (.cons (Q_el (S.arg hb) (t := 127) (k := k) (by omega) rfl (by kernel_rfl) (by kernel_rfl)) (.cons (Q_call fun w hw => c_laws_eqGuest w (el a k) (pa.2 k) (rd_of (LRd.el (S.arg ha) k (by omega)) hw) (el b k) (pb.2 k) (rd_of (LRd.el (S.arg hb) k (by omega)) hw)) .nil))))) rfl (by kernel_rfl) (by kernel_rfl) ?_
      clear S; intro ac w S
      refine id (nx_then ?_)
      refine S.cond (e := (!(decide ((el a k) = (el b k))))) (by kernel_rfl) (fun h6 => ?_) (fun h6 => ?_)
      · have h7 : (decide ((el a k) = (el b k))) = false := not_t h6
        have g8 := of_decide_eq_false h7
        refine wp_seq ?_
        refine RG.start ?_
        refine S.quiet (k := 1) (keep := [4]) (m := 0) (σ' := ⟨[(4, .v (B false))], []⟩) .nil (by kernel_rfl) ?_
        clear S; intro ac w β S
        refine RG.done rfl (nx_then ?_)
        refine wp_ret (rt_block (rt_then (rt_then (rt_block (rt_then ?_)))))
        refine S.ret (vs := [B false]) (by kernel_rfl) ?_
        exact ⟨retB (show false = decide (a = b) by clear S; first | (simp; intro e; subst e; simp_all; done) | (simp; rw [take_all (by omega), take_all (by omega)] at he; exact he) | (simp; exact take_ne (by simp_all))), S.chg⟩
      · have h9 : (decide ((el a k) = (el b k))) = true := not_f h6
        have g10 := of_decide_eq_true h9
        refine wp_skip (nx_block (nx_then ?_))
        refine RG.start ?_
        refine S.quiet (k := 3) (keep := [0, 1, 5]) (m := 0) (σ' := ⟨[(0, .v (slv (a).length pa.1)), (1, .v (slv (b).length pb.1)), (5, .v (I ((k : Int) + 1)))], []⟩) (.cons (Q_add (x := (k : Int)) (y := 1) ⟨by omega, by omega⟩) .nil) (by kernel_rfl) ?_
        clear S; intro ac w β S
        refine RG.done rfl (nx_then ?_)
        replace S := S.prune (keep := [0, 1, 5]) (m := 0) (σ' := ⟨[(0, .v (slv (a).length pa.1)), (1, .v (slv (b).length pb.1)), (5, .v (I ((k : Int) + 1)))], []⟩) (by kernel_rfl)
        refine ⟨a.length - (k + 1), by omega, k + 1, _, _, _, rfl, ?_, ?_, ?_, S.cast (by kernel_rfl)⟩
        · clear S; first | omega | (simp [*]; done) | (simp [*]; omega)
        · clear S; first | omega | (simp [*]; done) | (simp [*]; omega)
        · clear S; exact take_eq_step (by omega) (by omega) he (by simp_all)
    · have g11 : ¬ ((k : Int) < ((a).length : Int)) := of_decide_eq_false h4
      refine wp_exit (ex_then (ex_then (ex_hit (nx_then ?_))))
      refine wp_seq ?_
      refine RG.start ?_
      refine S.quiet (k := 1) (keep := [4]) (m := 0) (σ' := ⟨[(4, .v (B true))], []⟩) .nil (by kernel_rfl) ?_
      clear S; intro ac w β S
      refine RG.done rfl (nx_then ?_)
      refine wp_ret ?_
      refine S.ret (vs := [B true]) (by kernel_rfl) ?_
      exact ⟨retB (show true = decide (a = b) by clear S; first | (simp; intro e; subst e; simp_all; done) | (simp; rw [take_all (by omega), take_all (by omega)] at he; exact he) | (simp; exact take_ne (by simp_all))), S.chg⟩

set_option maxRecDepth 100000 in
theorem c_laws_eqKept (w0 : World) (a : TKept) (pa : PKept) (ha : GT.rd KK (Lt w0.heap.size) w0 a pa) (b : TKept) (pb : PKept) (hb : GT.rd KK (Lt w0.heap.size) w0 b pb) : Calls Try.prog 96 [GT.val (α := TKept) a pa, GT.val (α := TKept) b pb].toArray w0 (fun e w' => e = .returned (B (decide (a = b))) ∧ Chg NoB w0 w') := by
  refine Calls.walk (args := [GT.val (α := TKept) a pa, GT.val (α := TKept) b pb]) NoB Try.func96 rfl rfl ?_
  intro ac β S
  have hlea_known : a.known.length ≤ 4194304 := LRd.le (RKept.known (d := a) ha)
  have hlea_slots : a.slots.length ≤ 4194304 := LRd.le (RKept.slots (d := a) ha)
  have hleb_known : b.known.length ≤ 4194304 := LRd.le (RKept.known (d := b) hb)
  have hleb_slots : b.slots.length ≤ 4194304 := LRd.le (RKept.slots (d := b) hb)
  refine wp_seq ?_
  refine RG.start ?_
  refine S.quiet (k := 3) (keep := [2, 3]) (m := 2) (σ' := ⟨[(2, .p 0 0), (3, .p 1 0)], [GT.cells (α := TKept) a pa, GT.cells (α := TKept) b pb]⟩) .nil (by kernel_rfl) ?_
  clear S; intro ac w β S
  refine RG.done rfl (nx_then ?_)
  refine wp_seq ?_
  refine wp_seq ?_
  refine RG.start ?_
  refine S.quiet (k := 6) (keep := [2, 3, 10]) (m := 2) (σ' := ⟨[(2, .p 0 0), (3, .p 1 0), (10, .v (B (!(decide (a.known = b.known)))))], [GT.cells (α := TKept) a pa, GT.cells (α := TKept) b pb]⟩) (.cons (Q_call fun w hw => c_laws_eqBoolS w a.known pa.known (rd_of (RKept.known (d := a) (S.arg ha)) hw) b.known pb.known (rd_of (RKept.known (d := b) (S.arg hb)) hw)) .nil) (by kernel_rfl) ?_
  clear S; intro ac w β S
  refine RG.done rfl (nx_then ?_)
  refine S.cond (e := (!(decide (a.known = b.known)))) (by kernel_rfl) (fun h1 => ?_) (fun h1 => ?_)
  · have h2 : (decide (a.known = b.known)) = false := not_t h1
    have g3 := of_decide_eq_false h2
    refine wp_seq ?_
    refine RG.start ?_
    refine S.quiet (k := 1) (keep := [4]) (m := 0) (σ' := ⟨[(4, .v (B false))], []⟩) .nil (by kernel_rfl) ?_
    clear S; intro ac w β S
    refine RG.done rfl (nx_then ?_)
    refine wp_ret (rt_then ?_)
    refine S.ret (vs := [B false]) (by kernel_rfl) ?_
    exact ⟨retB (show false = decide (a = b) by clear S; first | (simp [TKept.ext_iff, *]; done) | (simp_all [TKept.ext_iff]; done)), S.chg⟩
  · have h4 : (decide (a.known = b.known)) = true := not_f h1
    have g5 := of_decide_eq_true h4
    refine wp_skip (nx_then ?_)
    refine wp_seq ?_
    refine wp_seq ?_
    refine RG.start ?_
    refine S.quiet (k := 6) (keep := [16]) (m := 0) (σ' := ⟨[(16, .v (B (!(decide (a.slots = b.slots)))))], []⟩) (.cons (Q_call fun w hw => c_laws_eqSlotS w a.slots pa.slots (rd_of (RKept.slots (d := a) (S.arg ha)) hw) b.slots pb.slots (rd_of (RKept.slots (d := b) (S.arg hb)) hw)) .nil) (by kernel_rfl) ?_
    clear S; intro ac w β S
    refine RG.done rfl (nx_then ?_)
    refine S.cond (e := (!(decide (a.slots = b.slots)))) (by kernel_rfl) (fun h6 => ?_) (fun h6 => ?_)
    · have h7 : (decide (a.slots = b.slots)) = false := not_t h6
      have g8 := of_decide_eq_false h7
      refine wp_seq ?_
      refine RG.start ?_
      refine S.quiet (k := 1) (keep := [4]) (m := 0) (σ' := ⟨[(4, .v (B false))], []⟩) .nil (by kernel_rfl) ?_
      clear S; intro ac w β S
      refine RG.done rfl (nx_then ?_)
      refine wp_ret (rt_then ?_)
      refine S.ret (vs := [B false]) (by kernel_rfl) ?_
      exact ⟨retB (show false = decide (a = b) by clear S; first | (simp [TKept.ext_iff, *]; done) | (simp_all [TKept.ext_iff]; done)), S.chg⟩
    · have h9 : (decide (a.slots = b.slots)) = true := not_f h6
      have g10 := of_decide_eq_true h9
      refine wp_skip (nx_then ?_)
      refine wp_seq ?_
      refine RG.start ?_
      refine S.quiet (k := 1) (keep := [4]) (m := 0) (σ' := ⟨[(4, .v (B true))], []⟩) .nil (by kernel_rfl) ?_
      clear S; intro ac w β S
      refine RG.done rfl (nx_then ?_)
      refine wp_ret ?_
      refine S.ret (vs := [B true]) (by kernel_rfl) ?_
      exact ⟨retB (show true = decide (a = b) by clear S; first | (simp [TKept.ext_iff, *]; done) | (simp_all [TKept.ext_iff]; done)), S.chg⟩

set_option maxRecDepth 100000 in
theorem c_laws_eqKeptS (w0 : World) (a : List TKept) (pa : LP TKept) (ha : GT.rd KK (Lt w0.heap.size) w0 a pa) (b : List TKept) (pb : LP TKept) (hb : GT.rd KK (Lt w0.heap.size) w0 b pb) : Calls Try.prog 59 [slv (a).length pa.1, slv (b).length pb.1].toArray w0 (fun e w' => e = .returned (B (decide (a = b))) ∧ Chg NoB w0 w') := by
  refine Calls.walk (args := [slv (a).length pa.1, slv (b).length pb.1]) NoB Try.func59 rfl rfl ?_
  intro ac β S
  have hlea : a.length ≤ 4194304 := LRd.le ha
  have hleb : b.length ≤ 4194304 := LRd.le hb
  refine wp_seq ?_
  refine RG.start ?_
  refine S.quiet (k := 1) (keep := [0, 1]) (m := 0) (σ' := ⟨[(0, .v (slv (a).length pa.1)), (1, .v (slv (b).length pb.1))], []⟩) .nil (by kernel_rfl) ?_
  clear S; intro ac w β S
  refine RG.done rfl (nx_then ?_)
  refine wp_seq ?_
  refine wp_seq ?_
  refine RG.start ?_
  refine S.quiet (k := 5) (keep := [0, 1, 10]) (m := 0) (σ' := ⟨[(0, .v (slv (a).length pa.1)), (1, .v (slv (b).length pb.1)), (10, .v (B (((a).length : Int) != ((b).length : Int))))], []⟩) .nil (by kernel_rfl) ?_
  clear S; intro ac w β S
  refine RG.done rfl (nx_then ?_)
  refine S.cond (e := (((a).length : Int) != ((b).length : Int))) (by kernel_rfl) (fun h1 => ?_) (fun h1 => ?_)
  · have g2 : ¬ (((a).length : Int) = ((b).length : Int)) := bne_iff_ne.1 h1
    refine wp_seq ?_
    refine RG.start ?_
    refine S.quiet (k := 1) (keep := [4]) (m := 0) (σ' := ⟨[(4, .v (B false))], []⟩) .nil (by kernel_rfl) ?_
    clear S; intro ac w β S
    refine RG.done rfl (nx_then ?_)
    refine wp_ret (rt_then ?_)
    refine S.ret (vs := [B false]) (by kernel_rfl) ?_
    exact ⟨retB (show false = decide (a = b) by clear S; first | (simp; intro e; subst e; simp_all; done) | (simp; rw [take_all (by omega), take_all (by omega)] at he; exact he) | (simp; exact take_ne (by simp_all))), S.chg⟩
  · have g3 : ((a).length : Int) = ((b).length : Int) := ne_f h1
    refine wp_skip (nx_then ?_)
    refine wp_seq ?_
    refine wp_seq ?_
    refine RG.start ?_
    refine S.quiet (k := 1) (keep := [0, 1, 5]) (m := 0) (σ' := ⟨[(0, .v (slv (a).length pa.1)), (1, .v (slv (b).length pb.1)), (5, .v (I 0))], []⟩) .nil (by kernel_rfl) ?_
    clear S; intro ac w β S
    refine RG.done rfl (nx_then ?_)
    refine wp_block ?_
    replace S := S.prune (keep := [0, 1, 5]) (m := 0) (σ' := ⟨[(0, .v (slv (a).length pa.1)), (1, .v (slv (b).length pb.1)), (5, .v (I 0))], []⟩) (by kernel_rfl)
    refine wp_loop_down (fun mm ac w => ∃ (k : Nat)  (u : World) (N : Bl) (β : Nat → Nat), mm = a.length - k ∧ (k ≤ a.length) ∧ (a.length = b.length) ∧ (a.take k = b.take k) ∧ St Try.prog Try.f59.ntmps w0 NoB u N β ⟨[(0, .v (slv (a).length pa.1)), (1, .v (slv (b).length pb.1)), (5, .v (I (k : Int)))], []⟩ ac w) _ ⟨0, _, _, _, rfl, (by first | omega | (simp; done) | (simp; omega)), (by first | omega | (simp; done) | (simp; omega)), (by simp), S.cast (by kernel_rfl)⟩ ?_
    clear S
    rintro mm ac w ⟨k, u, N, β, rfl, hk, hab, he, S⟩
    refine wp_seq ?_
    refine wp_seq ?_
    refine RG.start ?_
    refine S.quiet (k := 4) (keep := [0, 1, 5, 14]) (m := 0) (σ' := ⟨[(0, .v (slv (a).length pa.1)), (1, .v (slv (b).length pb.1)), (5, .v (I (k : Int))), (14, .v (B (decide ((k : Int) < ((a).length : Int)))))], []⟩) .nil (by kernel_rfl) ?_
    clear S; intro ac w β S
    refine RG.done rfl (nx_then ?_)
    refine S.cond (e := (decide ((k : Int) < ((a).length : Int)))) (by kernel_rfl) (fun h4 => ?_) (fun h4 => ?_)
    · have g5 : (k : Int) < ((a).length : Int) := of_decide_eq_true h4
      refine wp_skip (nx_then ?_)
      refine wp_seq ?_
      refine wp_block ?_
      refine wp_seq ?_
      refine S.drawn (keep := [0, 1, 5, 26]) (m := 0) (σ' := ⟨[(0, .v (slv (a).length pa.1)), (1, .v (slv (b).length pb.1)), (5, .v (I (k : Int))), (26, .v (B (!(decide ((el a k) = (el b k))))))], []⟩) (.cons (Q_idx (S.arg ha) (l := (a).length) (k := k) (i := (k : Int)) rfl rfl (by omega) Try.underlying44 (by kernel_rfl)) (.cons (Q_el (S.arg ha) (t := 101) (k := k) (by omega) rfl (by kernel_rfl) (by kernel_rfl)) (.cons (Q_idx (S.arg hb) (l := (b).length) (k := k) (i := (k : Int)) rfl rfl (by omega) Try.underlying44 (by kernel_rfl)) (.cons (Q_el (S.arg hb) (t := 101) (k := k) (by omega) rfl (by kernel_rfl) (by kernel_rfl)) (.cons (Q_call fun w hw => c_laws_eqKept w (el a k) (pa.2 k) (rd_of (LRd.el (S.arg ha) k (by omega)) hw) (el b k) (pb.2 k) (rd_of (LRd.el (S.arg hb) k (by omega)) hw)) .nil))))) rfl (by kernel_rfl) (by kernel_rfl) ?_
      clear S; intro ac w S
      refine id (nx_then ?_)
      refine S.cond (e := (!(decide ((el a k) = (el b k))))) (by kernel_rfl) (fun h6 => ?_) (fun h6 => ?_)
      · have h7 : (decide ((el a k) = (el b k))) = false := not_t h6
        have g8 := of_decide_eq_false h7
        refine wp_seq ?_
        refine RG.start ?_
        refine S.quiet (k := 1) (keep := [4]) (m := 0) (σ' := ⟨[(4, .v (B false))], []⟩) .nil (by kernel_rfl) ?_
        clear S; intro ac w β S
        refine RG.done rfl (nx_then ?_)
        refine wp_ret (rt_block (rt_then (rt_then (rt_block (rt_then ?_)))))
        refine S.ret (vs := [B false]) (by kernel_rfl) ?_
        exact ⟨retB (show false = decide (a = b) by clear S; first | (simp; intro e; subst e; simp_all; done) | (simp; rw [take_all (by omega), take_all (by omega)] at he; exact he) | (simp; exact take_ne (by simp_all))), S.chg⟩
      · have h9 : (decide ((el a k) = (el b k))) = true := not_f h6
        have g10 := of_decide_eq_true h9
        refine wp_skip (nx_block (nx_then ?_))
        refine RG.start ?_
        refine S.quiet (k := 3) (keep := [0, 1, 5]) (m := 0) (σ' := ⟨[(0, .v (slv (a).length pa.1)), (1, .v (slv (b).length pb.1)), (5, .v (I ((k : Int) + 1)))], []⟩) (.cons (Q_add (x := (k : Int)) (y := 1) ⟨by omega, by omega⟩) .nil) (by kernel_rfl) ?_
        clear S; intro ac w β S
        refine RG.done rfl (nx_then ?_)
        replace S := S.prune (keep := [0, 1, 5]) (m := 0) (σ' := ⟨[(0, .v (slv (a).length pa.1)), (1, .v (slv (b).length pb.1)), (5, .v (I ((k : Int) + 1)))], []⟩) (by kernel_rfl)
        refine ⟨a.length - (k + 1), by omega, k + 1, _, _, _, rfl, ?_, ?_, ?_, S.cast (by kernel_rfl)⟩
        · clear S; first | omega | (simp [*]; done) | (simp [*]; omega)
        · clear S; first | omega | (simp [*]; done) | (simp [*]; omega)
        · clear S; exact take_eq_step (by omega) (by omega) he (by simp_all)
    · have g11 : ¬ ((k : Int) < ((a).length : Int)) := of_decide_eq_false h4
      refine wp_exit (ex_then (ex_then (ex_hit (nx_then ?_))))
      refine wp_seq ?_
      refine RG.start ?_
      refine S.quiet (k := 1) (keep := [4]) (m := 0) (σ' := ⟨[(4, .v (B true))], []⟩) .nil (by kernel_rfl) ?_
      clear S; intro ac w β S
      refine RG.done rfl (nx_then ?_)
      refine wp_ret ?_
      refine S.ret (vs := [B true]) (by kernel_rfl) ?_
      exact ⟨retB (show true = decide (a = b) by clear S; first | (simp; intro e; subst e; simp_all; done) | (simp; rw [take_all (by omega), take_all (by omega)] at he; exact he) | (simp; exact take_ne (by simp_all))), S.chg⟩

set_option maxRecDepth 100000 in
theorem c_laws_eqMon (w0 : World) (a : TMon) (pa : PMon) (ha : GT.rd KK (Lt w0.heap.size) w0 a pa) (b : TMon) (pb : PMon) (hb : GT.rd KK (Lt w0.heap.size) w0 b pb) : Calls Try.prog 14 [GT.val (α := TMon) a pa, GT.val (α := TMon) b pb].toArray w0 (fun e w' => e = .returned (B (decide (a = b))) ∧ Chg NoB w0 w') := by
  refine Calls.walk (args := [GT.val (α := TMon) a pa, GT.val (α := TMon) b pb]) NoB Try.func14 rfl rfl ?_
  intro ac β S
  have hlea_outer : a.outer.length ≤ 4194304 := LRd.le (RMon.outer (d := a) ha)
  have hlea_out : a.out.length ≤ 4194304 := LRd.le (RMon.out (d := a) ha)
  have hlea_dirty : a.dirty.length ≤ 4194304 := LRd.le (RMon.dirty (d := a) ha)
  have hlea_guests : a.guests.length ≤ 4194304 := LRd.le (RMon.guests (d := a) ha)
  have hlea_outs : a.outs.length ≤ 4194304 := LRd.le (RMon.outs (d := a) ha)
  have hlea_tables : a.tables.length ≤ 4194304 := LRd.le (RMon.tables (d := a) ha)
  have hleb_outer : b.outer.length ≤ 4194304 := LRd.le (RMon.outer (d := b) hb)
  have hleb_out : b.out.length ≤ 4194304 := LRd.le (RMon.out (d := b) hb)
  have hleb_dirty : b.dirty.length ≤ 4194304 := LRd.le (RMon.dirty (d := b) hb)
  have hleb_guests : b.guests.length ≤ 4194304 := LRd.le (RMon.guests (d := b) hb)
  have hleb_outs : b.outs.length ≤ 4194304 := LRd.le (RMon.outs (d := b) hb)
  have hleb_tables : b.tables.length ≤ 4194304 := LRd.le (RMon.tables (d := b) hb)
  refine wp_seq ?_
  refine RG.start ?_
  refine S.quiet (k := 3) (keep := [2, 3]) (m := 2) (σ' := ⟨[(2, .p 0 0), (3, .p 1 0)], [GT.cells (α := TMon) a pa, GT.cells (α := TMon) b pb]⟩) .nil (by kernel_rfl) ?_
  clear S; intro ac w β S
  refine RG.done rfl (nx_then ?_)
  refine wp_seq ?_
  refine wp_seq ?_
  refine RG.start ?_
  refine S.quiet (k := 6) (keep := [2, 3, 10]) (m := 2) (σ' := ⟨[(2, .p 0 0), (3, .p 1 0), (10, .v (B (!(decide (a.outer = b.outer)))))], [GT.cells (α := TMon) a pa, GT.cells (α := TMon) b pb]⟩) (.cons (Q_call fun w hw => c_laws_eqSlotS w a.outer pa.outer (rd_of (RMon.outer (d := a) (S.arg ha)) hw) b.outer pb.outer (rd_of (RMon.outer (d := b) (S.arg hb)) hw)) .nil) (by kernel_rfl) ?_
  clear S; intro ac w β S
  refine RG.done rfl (nx_then ?_)
  refine S.cond (e := (!(decide (a.outer = b.outer)))) (by kernel_rfl) (fun h1 => ?_) (fun h1 => ?_)
  · have h2 : (decide (a.outer = b.outer)) = false := not_t h1
    have g3 := of_decide_eq_false h2
    refine wp_seq ?_
    refine RG.start ?_
    refine S.quiet (k := 1) (keep := [4]) (m := 0) (σ' := ⟨[(4, .v (B false))], []⟩) .nil (by kernel_rfl) ?_
    clear S; intro ac w β S
    refine RG.done rfl (nx_then ?_)
    refine wp_ret (rt_then ?_)
    refine S.ret (vs := [B false]) (by kernel_rfl) ?_
    exact ⟨retB (show false = decide (a = b) by clear S; first | (simp [TMon.ext_iff, *]; done) | (simp_all [TMon.ext_iff]; done)), S.chg⟩
  · have h4 : (decide (a.outer = b.outer)) = true := not_f h1
    have g5 := of_decide_eq_true h4
    refine wp_skip (nx_then ?_)
    refine wp_seq ?_
    refine wp_seq ?_
    refine RG.start ?_
    refine S.quiet (k := 6) (keep := [2, 3, 16]) (m := 2) (σ' := ⟨[(2, .p 0 0), (3, .p 1 0), (16, .v (B (!(decide (a.out = b.out)))))], [GT.cells (α := TMon) a pa, GT.cells (α := TMon) b pb]⟩) (.cons (Q_call fun w hw => c_laws_eqIntSS w a.out pa.out (rd_of (RMon.out (d := a) (S.arg ha)) hw) b.out pb.out (rd_of (RMon.out (d := b) (S.arg hb)) hw)) .nil) (by kernel_rfl) ?_
    clear S; intro ac w β S
    refine RG.done rfl (nx_then ?_)
    refine S.cond (e := (!(decide (a.out = b.out)))) (by kernel_rfl) (fun h6 => ?_) (fun h6 => ?_)
    · have h7 : (decide (a.out = b.out)) = false := not_t h6
      have g8 := of_decide_eq_false h7
      refine wp_seq ?_
      refine RG.start ?_
      refine S.quiet (k := 1) (keep := [4]) (m := 0) (σ' := ⟨[(4, .v (B false))], []⟩) .nil (by kernel_rfl) ?_
      clear S; intro ac w β S
      refine RG.done rfl (nx_then ?_)
      refine wp_ret (rt_then ?_)
      refine S.ret (vs := [B false]) (by kernel_rfl) ?_
      exact ⟨retB (show false = decide (a = b) by clear S; first | (simp [TMon.ext_iff, *]; done) | (simp_all [TMon.ext_iff]; done)), S.chg⟩
    · have h9 : (decide (a.out = b.out)) = true := not_f h6
      have g10 := of_decide_eq_true h9
      refine wp_skip (nx_then ?_)
      refine wp_seq ?_
      refine wp_seq ?_
      refine RG.start ?_
      refine S.quiet (k := 6) (keep := [2, 3, 22]) (m := 2) (σ' := ⟨[(2, .p 0 0), (3, .p 1 0), (22, .v (B (!(decide (a.dirty = b.dirty)))))], [GT.cells (α := TMon) a pa, GT.cells (α := TMon) b pb]⟩) (.cons (Q_call fun w hw => c_laws_eqBoolS w a.dirty pa.dirty (rd_of (RMon.dirty (d := a) (S.arg ha)) hw) b.dirty pb.dirty (rd_of (RMon.dirty (d := b) (S.arg hb)) hw)) .nil) (by kernel_rfl) ?_
      clear S; intro ac w β S
      refine RG.done rfl (nx_then ?_)
      refine S.cond (e := (!(decide (a.dirty = b.dirty)))) (by kernel_rfl) (fun h11 => ?_) (fun h11 => ?_)
      · have h12 : (decide (a.dirty = b.dirty)) = false := not_t h11
        have g13 := of_decide_eq_false h12
        refine wp_seq ?_
        refine RG.start ?_
        refine S.quiet (k := 1) (keep := [4]) (m := 0) (σ' := ⟨[(4, .v (B false))], []⟩) .nil (by kernel_rfl) ?_
        clear S; intro ac w β S
        refine RG.done rfl (nx_then ?_)
        refine wp_ret (rt_then ?_)
        refine S.ret (vs := [B false]) (by kernel_rfl) ?_
        exact ⟨retB (show false = decide (a = b) by clear S; first | (simp [TMon.ext_iff, *]; done) | (simp_all [TMon.ext_iff]; done)), S.chg⟩
      · have h14 : (decide (a.dirty = b.dirty)) = true := not_f h11
        have g15 := of_decide_eq_true h14
        refine wp_skip (nx_then ?_)
        refine wp_seq ?_
        refine wp_seq ?_
        refine RG.start ?_
        refine S.quiet (k := 6) (keep := [2, 3, 28]) (m := 2) (σ' := ⟨[(2, .p 0 0), (3, .p 1 0), (28, .v (B (!(decide (a.guests = b.guests)))))], [GT.cells (α := TMon) a pa, GT.cells (α := TMon) b pb]⟩) (.cons (Q_call fun w hw => c_laws_eqGuestS w a.guests pa.guests (rd_of (RMon.guests (d := a) (S.arg ha)) hw) b.guests pb.guests (rd_of (RMon.guests (d := b) (S.arg hb)) hw)) .nil) (by kernel_rfl) ?_
        clear S; intro ac w β S
        refine RG.done rfl (nx_then ?_)
        refine S.cond (e := (!(decide (a.guests = b.guests)))) (by kernel_rfl) (fun h16 => ?_) (fun h16 => ?_)
        · have h17 : (decide (a.guests = b.guests)) = false := not_t h16
          have g18 := of_decide_eq_false h17
          refine wp_seq ?_
          refine RG.start ?_
          refine S.quiet (k := 1) (keep := [4]) (m := 0) (σ' := ⟨[(4, .v (B false))], []⟩) .nil (by kernel_rfl) ?_
          clear S; intro ac w β S
          refine RG.done rfl (nx_then ?_)
          refine wp_ret (rt_then ?_)
          refine S.ret (vs := [B false]) (by kernel_rfl) ?_
          exact ⟨retB (show false = decide (a = b) by clear S; first | (simp [TMon.ext_iff, *]; done) | (simp_all [TMon.ext_iff]; done)), S.chg⟩
        · have h19 : (decide (a.guests = b.guests)) = true := not_f h16
          have g20 := of_decide_eq_true h19
          refine wp_skip (nx_then ?_)
          refine wp_seq ?_
          refine wp_seq ?_
          refine RG.start ?_
          refine S.quiet (k := 6) (keep := [2, 3, 34]) (m := 2) (σ' := ⟨[(2, .p 0 0), (3, .p 1 0), (34, .v (B (!(decide (a.outs = b.outs)))))], [GT.cells (α := TMon) a pa, GT.cells (α := TMon) b pb]⟩) (.cons (Q_call fun w hw => c_laws_eqIntS w a.outs pa.outs (rd_of (RMon.outs (d := a) (S.arg ha)) hw) b.outs pb.outs (rd_of (RMon.outs (d := b) (S.arg hb)) hw)) .nil) (by kernel_rfl) ?_
          clear S; intro ac w β S
          refine RG.done rfl (nx_then ?_)
          refine S.cond (e := (!(decide (a.outs = b.outs)))) (by kernel_rfl) (fun h21 => ?_) (fun h21 => ?_)
          · have h22 : (decide (a.outs = b.outs)) = false := not_t h21
            have g23 := of_decide_eq_false h22
            refine wp_seq ?_
            refine RG.start ?_
            refine S.quiet (k := 1) (keep := [4]) (m := 0) (σ' := ⟨[(4, .v (B false))], []⟩) .nil (by kernel_rfl) ?_
            clear S; intro ac w β S
            refine RG.done rfl (nx_then ?_)
            refine wp_ret (rt_then ?_)
            refine S.ret (vs := [B false]) (by kernel_rfl) ?_
            exact ⟨retB (show false = decide (a = b) by clear S; first | (simp [TMon.ext_iff, *]; done) | (simp_all [TMon.ext_iff]; done)), S.chg⟩
          · have h24 : (decide (a.outs = b.outs)) = true := not_f h21
            have g25 := of_decide_eq_true h24
            refine wp_skip (nx_then ?_)
            refine wp_seq ?_
            refine wp_seq ?_
            refine RG.start ?_
            refine S.quiet (k := 5) (keep := [2, 3, 39]) (m := 2) (σ' := ⟨[(2, .p 0 0), (3, .p 1 0), (39, .v (B (a.pend != b.pend)))], [GT.cells (α := TMon) a pa, GT.cells (α := TMon) b pb]⟩) .nil (by kernel_rfl) ?_
            clear S; intro ac w β S
            refine RG.done rfl (nx_then ?_)
            refine S.cond (e := (a.pend != b.pend)) (by kernel_rfl) (fun h26 => ?_) (fun h26 => ?_)
            · have g27 : ¬ (a.pend = b.pend) := bne_iff_ne.1 h26
              refine wp_seq ?_
              refine RG.start ?_
              refine S.quiet (k := 1) (keep := [4]) (m := 0) (σ' := ⟨[(4, .v (B false))], []⟩) .nil (by kernel_rfl) ?_
              clear S; intro ac w β S
              refine RG.done rfl (nx_then ?_)
              refine wp_ret (rt_then ?_)
              refine S.ret (vs := [B false]) (by kernel_rfl) ?_
              exact ⟨retB (show false = decide (a = b) by clear S; first | (simp [TMon.ext_iff, *]; done) | (simp_all [TMon.ext_iff]; done)), S.chg⟩
            · have g28 : a.pend = b.pend := ne_f h26
              refine wp_skip (nx_then ?_)
              refine wp_seq ?_
              refine wp_seq ?_
              refine RG.start ?_
              refine S.quiet (k := 5) (keep := [2, 3, 44]) (m := 2) (σ' := ⟨[(2, .p 0 0), (3, .p 1 0), (44, .v (B (a.traps != b.traps)))], [GT.cells (α := TMon) a pa, GT.cells (α := TMon) b pb]⟩) .nil (by kernel_rfl) ?_
              clear S; intro ac w β S
              refine RG.done rfl (nx_then ?_)
              refine S.cond (e := (a.traps != b.traps)) (by kernel_rfl) (fun h29 => ?_) (fun h29 => ?_)
              · have g30 : ¬ (a.traps = b.traps) := bne_iff_ne.1 h29
                refine wp_seq ?_
                refine RG.start ?_
                refine S.quiet (k := 1) (keep := [4]) (m := 0) (σ' := ⟨[(4, .v (B false))], []⟩) .nil (by kernel_rfl) ?_
                clear S; intro ac w β S
                refine RG.done rfl (nx_then ?_)
                refine wp_ret (rt_then ?_)
                refine S.ret (vs := [B false]) (by kernel_rfl) ?_
                exact ⟨retB (show false = decide (a = b) by clear S; first | (simp [TMon.ext_iff, *]; done) | (simp_all [TMon.ext_iff]; done)), S.chg⟩
              · have g31 : a.traps = b.traps := ne_f h29
                refine wp_skip (nx_then ?_)
                refine wp_seq ?_
                refine wp_seq ?_
                refine RG.start ?_
                refine S.quiet (k := 6) (keep := [2, 3, 50]) (m := 2) (σ' := ⟨[(2, .p 0 0), (3, .p 1 0), (50, .v (B (!(decide (a.tables = b.tables)))))], [GT.cells (α := TMon) a pa, GT.cells (α := TMon) b pb]⟩) (.cons (Q_call fun w hw => c_laws_eqKeptS w a.tables pa.tables (rd_of (RMon.tables (d := a) (S.arg ha)) hw) b.tables pb.tables (rd_of (RMon.tables (d := b) (S.arg hb)) hw)) .nil) (by kernel_rfl) ?_
                clear S; intro ac w β S
                refine RG.done rfl (nx_then ?_)
                refine S.cond (e := (!(decide (a.tables = b.tables)))) (by kernel_rfl) (fun h32 => ?_) (fun h32 => ?_)
                · have h33 : (decide (a.tables = b.tables)) = false := not_t h32
                  have g34 := of_decide_eq_false h33
                  refine wp_seq ?_
                  refine RG.start ?_
                  refine S.quiet (k := 1) (keep := [4]) (m := 0) (σ' := ⟨[(4, .v (B false))], []⟩) .nil (by kernel_rfl) ?_
                  clear S; intro ac w β S
                  refine RG.done rfl (nx_then ?_)
                  refine wp_ret (rt_then ?_)
                  refine S.ret (vs := [B false]) (by kernel_rfl) ?_
                  exact ⟨retB (show false = decide (a = b) by clear S; first | (simp [TMon.ext_iff, *]; done) | (simp_all [TMon.ext_iff]; done)), S.chg⟩
                · have h35 : (decide (a.tables = b.tables)) = true := not_f h32
                  have g36 := of_decide_eq_true h35
                  refine wp_skip (nx_then ?_)
                  refine wp_seq ?_
                  refine wp_seq ?_
                  refine RG.start ?_
                  refine S.quiet (k := 5) (keep := [55]) (m := 0) (σ' := ⟨[(55, .v (B (a.owned != b.owned)))], []⟩) .nil (by kernel_rfl) ?_
                  clear S; intro ac w β S
                  refine RG.done rfl (nx_then ?_)
                  refine S.cond (e := (a.owned != b.owned)) (by kernel_rfl) (fun h37 => ?_) (fun h37 => ?_)
                  · have g38 : ¬ (a.owned = b.owned) := bne_iff_ne.1 h37
                    refine wp_seq ?_
                    refine RG.start ?_
                    refine S.quiet (k := 1) (keep := [4]) (m := 0) (σ' := ⟨[(4, .v (B false))], []⟩) .nil (by kernel_rfl) ?_
                    clear S; intro ac w β S
                    refine RG.done rfl (nx_then ?_)
                    refine wp_ret (rt_then ?_)
                    refine S.ret (vs := [B false]) (by kernel_rfl) ?_
                    exact ⟨retB (show false = decide (a = b) by clear S; first | (simp [TMon.ext_iff, *]; done) | (simp_all [TMon.ext_iff]; done)), S.chg⟩
                  · have g39 : a.owned = b.owned := ne_f h37
                    refine wp_skip (nx_then ?_)
                    refine wp_seq ?_
                    refine RG.start ?_
                    refine S.quiet (k := 1) (keep := [4]) (m := 0) (σ' := ⟨[(4, .v (B true))], []⟩) .nil (by kernel_rfl) ?_
                    clear S; intro ac w β S
                    refine RG.done rfl (nx_then ?_)
                    refine wp_ret ?_
                    refine S.ret (vs := [B true]) (by kernel_rfl) ?_
                    exact ⟨retB (show true = decide (a = b) by clear S; first | (simp [TMon.ext_iff, *]; done) | (simp_all [TMon.ext_iff]; done)), S.chg⟩

set_option maxRecDepth 100000 in
theorem c_laws_eqMonS (w0 : World) (a : List TMon) (pa : LP TMon) (ha : GT.rd KK (Lt w0.heap.size) w0 a pa) (b : List TMon) (pb : LP TMon) (hb : GT.rd KK (Lt w0.heap.size) w0 b pb) : Calls Try.prog 53 [slv (a).length pa.1, slv (b).length pb.1].toArray w0 (fun e w' => e = .returned (B (decide (a = b))) ∧ Chg NoB w0 w') := by
  refine Calls.walk (args := [slv (a).length pa.1, slv (b).length pb.1]) NoB Try.func53 rfl rfl ?_
  intro ac β S
  have hlea : a.length ≤ 4194304 := LRd.le ha
  have hleb : b.length ≤ 4194304 := LRd.le hb
  refine wp_seq ?_
  refine RG.start ?_
  refine S.quiet (k := 1) (keep := [0, 1]) (m := 0) (σ' := ⟨[(0, .v (slv (a).length pa.1)), (1, .v (slv (b).length pb.1))], []⟩) .nil (by kernel_rfl) ?_
  clear S; intro ac w β S
  refine RG.done rfl (nx_then ?_)
  refine wp_seq ?_
  refine wp_seq ?_
  refine RG.start ?_
  refine S.quiet (k := 5) (keep := [0, 1, 10]) (m := 0) (σ' := ⟨[(0, .v (slv (a).length pa.1)), (1, .v (slv (b).length pb.1)), (10, .v (B (((a).length : Int) != ((b).length : Int))))], []⟩) .nil (by kernel_rfl) ?_
  clear S; intro ac w β S
  refine RG.done rfl (nx_then ?_)
  refine S.cond (e := (((a).length : Int) != ((b).length : Int))) (by kernel_rfl) (fun h1 => ?_) (fun h1 => ?_)
  · have g2 : ¬ (((a).length : Int) = ((b).length : Int)) := bne_iff_ne.1 h1
    refine wp_seq ?_
    refine RG.start ?_
    refine S.quiet (k := 1) (keep := [4]) (m := 0) (σ' := ⟨[(4, .v (B false))], []⟩) .nil (by kernel_rfl) ?_
    clear S; intro ac w β S
    refine RG.done rfl (nx_then ?_)
    refine wp_ret (rt_then ?_)
    refine S.ret (vs := [B false]) (by kernel_rfl) ?_
    exact ⟨retB (show false = decide (a = b) by clear S; first | (simp; intro e; subst e; simp_all; done) | (simp; rw [take_all (by omega), take_all (by omega)] at he; exact he) | (simp; exact take_ne (by simp_all))), S.chg⟩
  · have g3 : ((a).length : Int) = ((b).length : Int) := ne_f h1
    refine wp_skip (nx_then ?_)
    refine wp_seq ?_
    refine wp_seq ?_
    refine RG.start ?_
    refine S.quiet (k := 1) (keep := [0, 1, 5]) (m := 0) (σ' := ⟨[(0, .v (slv (a).length pa.1)), (1, .v (slv (b).length pb.1)), (5, .v (I 0))], []⟩) .nil (by kernel_rfl) ?_
    clear S; intro ac w β S
    refine RG.done rfl (nx_then ?_)
    refine wp_block ?_
    replace S := S.prune (keep := [0, 1, 5]) (m := 0) (σ' := ⟨[(0, .v (slv (a).length pa.1)), (1, .v (slv (b).length pb.1)), (5, .v (I 0))], []⟩) (by kernel_rfl)
    refine wp_loop_down (fun mm ac w => ∃ (k : Nat)  (u : World) (N : Bl) (β : Nat → Nat), mm = a.length - k ∧ (k ≤ a.length) ∧ (a.length = b.length) ∧ (a.take k = b.take k) ∧ St Try.prog Try.f53.ntmps w0 NoB u N β ⟨[(0, .v (slv (a).length pa.1)), (1, .v (slv (b).length pb.1)), (5, .v (I (k : Int)))], []⟩ ac w) _ ⟨0, _, _, _, rfl, (by first | omega | (simp; done) | (simp; omega)), (by first | omega | (simp; done) | (simp; omega)), (by simp), S.cast (by kernel_rfl)⟩ ?_
    clear S
    rintro mm ac w ⟨k, u, N, β, rfl, hk, hab, he, S⟩
    refine wp_seq ?_
    refine wp_seq ?_
    refine RG.start ?_
    refine S.quiet (k := 4) (keep := [0, 1, 5, 14]) (m := 0) (σ' := ⟨[(0, .v (slv (a).length pa.1)), (1, .v (slv (b).length pb.1)), (5, .v (I (k : Int))), (14, .v (B (decide ((k : Int) < ((a).length : Int)))))], []⟩) .nil (by kernel_rfl) ?_
    clear S; intro ac w β S
    refine RG.done rfl (nx_then ?_)
    refine S.cond (e := (decide ((k : Int) < ((a).length : Int)))) (by kernel_rfl) (fun h4 => ?_) (fun h4 => ?_)
    · have g5 : (k : Int) < ((a).length : Int) := of_decide_eq_true h4
      refine wp_skip (nx_then ?_)
      refine wp_seq ?_
      refine wp_block ?_
      refine wp_seq ?_
      refine S.drawn (keep := [0, 1, 5, 26]) (m := 0) (σ' := ⟨[(0, .v (slv (a).length pa.1)), (1, .v (slv (b).length pb.1)), (5, .v (I (k : Int))), (26, .v (B (!(decide ((el a k) = (el b k))))))], []⟩) (.cons (Q_idx (S.arg ha) (l := (a).length) (k := k) (i := (k : Int)) rfl rfl (by omega) Try.underlying36 (by kernel_rfl)) (.cons (Q_el (S.arg ha) (t := 46) (k := k) (by omega) rfl (by kernel_rfl) (by kernel_rfl)) (.cons (Q_idx (S.arg hb) (l := (b).length) (k := k) (i := (k : Int)) rfl rfl (by omega) Try.underlying36 (by kernel_rfl)) (.cons (Q_el (S.arg hb) (t := 46) (k := k) (by omega) rfl (by kernel_rfl) (by kernel_rfl)) (.cons (Q_call fun w hw => c_laws_eqMon w (el a k) (pa.2 k) (rd_of (LRd.el (S.arg ha) k (by omega)) hw) (el b k) (pb.2 k) (rd_of (LRd.el (S.arg hb) k (by omega)) hw)) .nil))))) rfl (by kernel_rfl) (by kernel_rfl) ?_
      clear S; intro ac w S
      refine id (nx_then ?_)
      refine S.cond (e := (!(decide ((el a k) = (el b k))))) (by kernel_rfl) (fun h6 => ?_) (fun h6 => ?_)
      · have h7 : (decide ((el a k) = (el b k))) = false := not_t h6
        have g8 := of_decide_eq_false h7
        refine wp_seq ?_
        refine RG.start ?_
        refine S.quiet (k := 1) (keep := [4]) (m := 0) (σ' := ⟨[(4, .v (B false))], []⟩) .nil (by kernel_rfl) ?_
        clear S; intro ac w β S
        refine RG.done rfl (nx_then ?_)
        refine wp_ret (rt_block (rt_then (rt_then (rt_block (rt_then ?_)))))
        refine S.ret (vs := [B false]) (by kernel_rfl) ?_
        exact ⟨retB (show false = decide (a = b) by clear S; first | (simp; intro e; subst e; simp_all; done) | (simp; rw [take_all (by omega), take_all (by omega)] at he; exact he) | (simp; exact take_ne (by simp_all))), S.chg⟩
      · have h9 : (decide ((el a k) = (el b k))) = true := not_f h6
        have g10 := of_decide_eq_true h9
        refine wp_skip (nx_block (nx_then ?_))
        refine RG.start ?_
        refine S.quiet (k := 3) (keep := [0, 1, 5]) (m := 0) (σ' := ⟨[(0, .v (slv (a).length pa.1)), (1, .v (slv (b).length pb.1)), (5, .v (I ((k : Int) + 1)))], []⟩) (.cons (Q_add (x := (k : Int)) (y := 1) ⟨by omega, by omega⟩) .nil) (by kernel_rfl) ?_
        clear S; intro ac w β S
        refine RG.done rfl (nx_then ?_)
        replace S := S.prune (keep := [0, 1, 5]) (m := 0) (σ' := ⟨[(0, .v (slv (a).length pa.1)), (1, .v (slv (b).length pb.1)), (5, .v (I ((k : Int) + 1)))], []⟩) (by kernel_rfl)
        refine ⟨a.length - (k + 1), by omega, k + 1, _, _, _, rfl, ?_, ?_, ?_, S.cast (by kernel_rfl)⟩
        · clear S; first | omega | (simp [*]; done) | (simp [*]; omega)
        · clear S; first | omega | (simp [*]; done) | (simp [*]; omega)
        · clear S; exact take_eq_step (by omega) (by omega) he (by simp_all)
    · have g11 : ¬ ((k : Int) < ((a).length : Int)) := of_decide_eq_false h4
      refine wp_exit (ex_then (ex_then (ex_hit (nx_then ?_))))
      refine wp_seq ?_
      refine RG.start ?_
      refine S.quiet (k := 1) (keep := [4]) (m := 0) (σ' := ⟨[(4, .v (B true))], []⟩) .nil (by kernel_rfl) ?_
      clear S; intro ac w β S
      refine RG.done rfl (nx_then ?_)
      refine wp_ret ?_
      refine S.ret (vs := [B true]) (by kernel_rfl) ?_
      exact ⟨retB (show true = decide (a = b) by clear S; first | (simp; intro e; subst e; simp_all; done) | (simp; rw [take_all (by omega), take_all (by omega)] at he; exact he) | (simp; exact take_ne (by simp_all))), S.chg⟩

set_option maxRecDepth 100000 in
theorem c_laws_eqEntry (w0 : World) (a : TEntry) (b : TEntry) : Calls Try.prog 93 [GT.val (α := TEntry) a (), GT.val (α := TEntry) b ()].toArray w0 (fun e w' => e = .returned (B (decide (a = b))) ∧ Chg NoB w0 w') := by
  refine Calls.walk (args := [GT.val (α := TEntry) a (), GT.val (α := TEntry) b ()]) NoB Try.func93 rfl rfl ?_
  intro ac β S
  refine wp_seq ?_
  refine RG.start ?_
  refine S.quiet (k := 3) (keep := [2, 3]) (m := 2) (σ' := ⟨[(2, .p 0 0), (3, .p 1 0)], [GT.cells (α := TEntry) a (), GT.cells (α := TEntry) b ()]⟩) .nil (by kernel_rfl) ?_
  clear S; intro ac w β S
  refine RG.done rfl (nx_then ?_)
  refine wp_seq ?_
  refine wp_seq ?_
  refine RG.start ?_
  refine S.quiet (k := 5) (keep := [2, 3, 9]) (m := 2) (σ' := ⟨[(2, .p 0 0), (3, .p 1 0), (9, .v (B (a.tag != b.tag)))], [GT.cells (α := TEntry) a (), GT.cells (α := TEntry) b ()]⟩) .nil (by kernel_rfl) ?_
  clear S; intro ac w β S
  refine RG.done rfl (nx_then ?_)
  refine S.cond (e := (a.tag != b.tag)) (by kernel_rfl) (fun h1 => ?_) (fun h1 => ?_)
  · have g2 : ¬ (a.tag = b.tag) := bne_iff_ne.1 h1
    refine wp_seq ?_
    refine RG.start ?_
    refine S.quiet (k := 1) (keep := [4]) (m := 0) (σ' := ⟨[(4, .v (B false))], []⟩) .nil (by kernel_rfl) ?_
    clear S; intro ac w β S
    refine RG.done rfl (nx_then ?_)
    refine wp_ret (rt_then ?_)
    refine S.ret (vs := [B false]) (by kernel_rfl) ?_
    exact ⟨retB (show false = decide (a = b) by clear S; first | (simp [TEntry.ext_iff, *]; done) | (simp_all [TEntry.ext_iff]; done)), S.chg⟩
  · have g3 : a.tag = b.tag := ne_f h1
    refine wp_skip (nx_then ?_)
    refine wp_seq ?_
    refine wp_seq ?_
    refine RG.start ?_
    refine S.quiet (k := 5) (keep := [2, 3, 14]) (m := 2) (σ' := ⟨[(2, .p 0 0), (3, .p 1 0), (14, .v (B (a.page != b.page)))], [GT.cells (α := TEntry) a (), GT.cells (α := TEntry) b ()]⟩) .nil (by kernel_rfl) ?_
    clear S; intro ac w β S
    refine RG.done rfl (nx_then ?_)
    refine S.cond (e := (a.page != b.page)) (by kernel_rfl) (fun h4 => ?_) (fun h4 => ?_)
    · have g5 : ¬ (a.page = b.page) := bne_iff_ne.1 h4
      refine wp_seq ?_
      refine RG.start ?_
      refine S.quiet (k := 1) (keep := [4]) (m := 0) (σ' := ⟨[(4, .v (B false))], []⟩) .nil (by kernel_rfl) ?_
      clear S; intro ac w β S
      refine RG.done rfl (nx_then ?_)
      refine wp_ret (rt_then ?_)
      refine S.ret (vs := [B false]) (by kernel_rfl) ?_
      exact ⟨retB (show false = decide (a = b) by clear S; first | (simp [TEntry.ext_iff, *]; done) | (simp_all [TEntry.ext_iff]; done)), S.chg⟩
    · have g6 : a.page = b.page := ne_f h4
      refine wp_skip (nx_then ?_)
      refine wp_seq ?_
      refine wp_seq ?_
      refine RG.start ?_
      refine S.quiet (k := 5) (keep := [2, 3, 19]) (m := 2) (σ' := ⟨[(2, .p 0 0), (3, .p 1 0), (19, .v (B (a.host != b.host)))], [GT.cells (α := TEntry) a (), GT.cells (α := TEntry) b ()]⟩) .nil (by kernel_rfl) ?_
      clear S; intro ac w β S
      refine RG.done rfl (nx_then ?_)
      refine S.cond (e := (a.host != b.host)) (by kernel_rfl) (fun h7 => ?_) (fun h7 => ?_)
      · have g8 : ¬ (a.host = b.host) := bne_iff_ne.1 h7
        refine wp_seq ?_
        refine RG.start ?_
        refine S.quiet (k := 1) (keep := [4]) (m := 0) (σ' := ⟨[(4, .v (B false))], []⟩) .nil (by kernel_rfl) ?_
        clear S; intro ac w β S
        refine RG.done rfl (nx_then ?_)
        refine wp_ret (rt_then ?_)
        refine S.ret (vs := [B false]) (by kernel_rfl) ?_
        exact ⟨retB (show false = decide (a = b) by clear S; first | (simp [TEntry.ext_iff, *]; done) | (simp_all [TEntry.ext_iff]; done)), S.chg⟩
      · have g9 : a.host = b.host := ne_f h7
        refine wp_skip (nx_then ?_)
        refine wp_seq ?_
        refine wp_seq ?_
        refine RG.start ?_
        refine S.quiet (k := 5) (keep := [24]) (m := 0) (σ' := ⟨[(24, .v (B (a.rights != b.rights)))], []⟩) .nil (by kernel_rfl) ?_
        clear S; intro ac w β S
        refine RG.done rfl (nx_then ?_)
        refine S.cond (e := (a.rights != b.rights)) (by kernel_rfl) (fun h10 => ?_) (fun h10 => ?_)
        · have g11 : ¬ (a.rights = b.rights) := bne_iff_ne.1 h10
          refine wp_seq ?_
          refine RG.start ?_
          refine S.quiet (k := 1) (keep := [4]) (m := 0) (σ' := ⟨[(4, .v (B false))], []⟩) .nil (by kernel_rfl) ?_
          clear S; intro ac w β S
          refine RG.done rfl (nx_then ?_)
          refine wp_ret (rt_then ?_)
          refine S.ret (vs := [B false]) (by kernel_rfl) ?_
          exact ⟨retB (show false = decide (a = b) by clear S; first | (simp [TEntry.ext_iff, *]; done) | (simp_all [TEntry.ext_iff]; done)), S.chg⟩
        · have g12 : a.rights = b.rights := ne_f h10
          refine wp_skip (nx_then ?_)
          refine wp_seq ?_
          refine RG.start ?_
          refine S.quiet (k := 1) (keep := [4]) (m := 0) (σ' := ⟨[(4, .v (B true))], []⟩) .nil (by kernel_rfl) ?_
          clear S; intro ac w β S
          refine RG.done rfl (nx_then ?_)
          refine wp_ret ?_
          refine S.ret (vs := [B true]) (by kernel_rfl) ?_
          exact ⟨retB (show true = decide (a = b) by clear S; first | (simp [TEntry.ext_iff, *]; done) | (simp_all [TEntry.ext_iff]; done)), S.chg⟩

set_option maxRecDepth 100000 in
theorem c_laws_eqEntryS (w0 : World) (a : List TEntry) (pa : LP TEntry) (ha : GT.rd KK (Lt w0.heap.size) w0 a pa) (b : List TEntry) (pb : LP TEntry) (hb : GT.rd KK (Lt w0.heap.size) w0 b pb) : Calls Try.prog 54 [slv (a).length pa.1, slv (b).length pb.1].toArray w0 (fun e w' => e = .returned (B (decide (a = b))) ∧ Chg NoB w0 w') := by
  refine Calls.walk (args := [slv (a).length pa.1, slv (b).length pb.1]) NoB Try.func54 rfl rfl ?_
  intro ac β S
  have hlea : a.length ≤ 4194304 := LRd.le ha
  have hleb : b.length ≤ 4194304 := LRd.le hb
  refine wp_seq ?_
  refine RG.start ?_
  refine S.quiet (k := 1) (keep := [0, 1]) (m := 0) (σ' := ⟨[(0, .v (slv (a).length pa.1)), (1, .v (slv (b).length pb.1))], []⟩) .nil (by kernel_rfl) ?_
  clear S; intro ac w β S
  refine RG.done rfl (nx_then ?_)
  refine wp_seq ?_
  refine wp_seq ?_
  refine RG.start ?_
  refine S.quiet (k := 5) (keep := [0, 1, 10]) (m := 0) (σ' := ⟨[(0, .v (slv (a).length pa.1)), (1, .v (slv (b).length pb.1)), (10, .v (B (((a).length : Int) != ((b).length : Int))))], []⟩) .nil (by kernel_rfl) ?_
  clear S; intro ac w β S
  refine RG.done rfl (nx_then ?_)
  refine S.cond (e := (((a).length : Int) != ((b).length : Int))) (by kernel_rfl) (fun h1 => ?_) (fun h1 => ?_)
  · have g2 : ¬ (((a).length : Int) = ((b).length : Int)) := bne_iff_ne.1 h1
    refine wp_seq ?_
    refine RG.start ?_
    refine S.quiet (k := 1) (keep := [4]) (m := 0) (σ' := ⟨[(4, .v (B false))], []⟩) .nil (by kernel_rfl) ?_
    clear S; intro ac w β S
    refine RG.done rfl (nx_then ?_)
    refine wp_ret (rt_then ?_)
    refine S.ret (vs := [B false]) (by kernel_rfl) ?_
    exact ⟨retB (show false = decide (a = b) by clear S; first | (simp; intro e; subst e; simp_all; done) | (simp; rw [take_all (by omega), take_all (by omega)] at he; exact he) | (simp; exact take_ne (by simp_all))), S.chg⟩
  · have g3 : ((a).length : Int) = ((b).length : Int) := ne_f h1
    refine wp_skip (nx_then ?_)
    refine wp_seq ?_
    refine wp_seq ?_
    refine RG.start ?_
    refine S.quiet (k := 1) (keep := [0, 1, 5]) (m := 0) (σ' := ⟨[(0, .v (slv (a).length pa.1)), (1, .v (slv (b).length pb.1)), (5, .v (I 0))], []⟩) .nil (by kernel_rfl) ?_
    clear S; intro ac w β S
    refine RG.done rfl (nx_then ?_)
    refine wp_block ?_
    replace S := S.prune (keep := [0, 1, 5]) (m := 0) (σ' := ⟨[(0, .v (slv (a).length pa.1)), (1, .v (slv (b).length pb.1)), (5, .v (I 0))], []⟩) (by kernel_rfl)
    refine wp_loop_down (fun mm ac w => ∃ (k : Nat)  (u : World) (N : Bl) (β : Nat → Nat), mm = a.length - k ∧ (k ≤ a.length) ∧ (a.length = b.length) ∧ (a.take k = b.take k) ∧ St Try.prog Try.f54.ntmps w0 NoB u N β ⟨[(0, .v (slv (a).length pa.1)), (1, .v (slv (b).length pb.1)), (5, .v (I (k : Int)))], []⟩ ac w) _ ⟨0, _, _, _, rfl, (by first | omega | (simp; done) | (simp; omega)), (by first | omega | (simp; done) | (simp; omega)), (by simp), S.cast (by kernel_rfl)⟩ ?_
    clear S
    rintro mm ac w ⟨k, u, N, β, rfl, hk, hab, he, S⟩
    refine wp_seq ?_
    refine wp_seq ?_
    refine RG.start ?_
    refine S.quiet (k := 4) (keep := [0, 1, 5, 14]) (m := 0) (σ' := ⟨[(0, .v (slv (a).length pa.1)), (1, .v (slv (b).length pb.1)), (5, .v (I (k : Int))), (14, .v (B (decide ((k : Int) < ((a).length : Int)))))], []⟩) .nil (by kernel_rfl) ?_
    clear S; intro ac w β S
    refine RG.done rfl (nx_then ?_)
    refine S.cond (e := (decide ((k : Int) < ((a).length : Int)))) (by kernel_rfl) (fun h4 => ?_) (fun h4 => ?_)
    · have g5 : (k : Int) < ((a).length : Int) := of_decide_eq_true h4
      refine wp_skip (nx_then ?_)
      refine wp_seq ?_
      refine wp_block ?_
      refine wp_seq ?_
      refine S.drawn (keep := [0, 1, 5, 26]) (m := 0) (σ' := ⟨[(0, .v (slv (a).length pa.1)), (1, .v (slv (b).length pb.1)), (5, .v (I (k : Int))), (26, .v (B (!(decide ((el a k) = (el b k))))))], []⟩) (.cons (Q_idx (S.arg ha) (l := (a).length) (k := k) (i := (k : Int)) rfl rfl (by omega) Try.underlying37 (by kernel_rfl)) (.cons (Q_el (S.arg ha) (t := 116) (k := k) (by omega) rfl (by kernel_rfl) (by kernel_rfl)) (.cons (Q_idx (S.arg hb) (l := (b).length) (k := k) (i := (k : Int)) rfl rfl (by omega) Try.underlying37 (by kernel_rfl)) (.cons (Q_el (S.arg hb) (t := 116) (k := k) (by omega) rfl (by kernel_rfl) (by kernel_rfl)) (.cons (Q_call fun w hw => c_laws_eqEntry w (el a k) (el b k)) .nil))))) rfl (by kernel_rfl) (by kernel_rfl) ?_
      clear S; intro ac w S
      refine id (nx_then ?_)
      refine S.cond (e := (!(decide ((el a k) = (el b k))))) (by kernel_rfl) (fun h6 => ?_) (fun h6 => ?_)
      · have h7 : (decide ((el a k) = (el b k))) = false := not_t h6
        have g8 := of_decide_eq_false h7
        refine wp_seq ?_
        refine RG.start ?_
        refine S.quiet (k := 1) (keep := [4]) (m := 0) (σ' := ⟨[(4, .v (B false))], []⟩) .nil (by kernel_rfl) ?_
        clear S; intro ac w β S
        refine RG.done rfl (nx_then ?_)
        refine wp_ret (rt_block (rt_then (rt_then (rt_block (rt_then ?_)))))
        refine S.ret (vs := [B false]) (by kernel_rfl) ?_
        exact ⟨retB (show false = decide (a = b) by clear S; first | (simp; intro e; subst e; simp_all; done) | (simp; rw [take_all (by omega), take_all (by omega)] at he; exact he) | (simp; exact take_ne (by simp_all))), S.chg⟩
      · have h9 : (decide ((el a k) = (el b k))) = true := not_f h6
        have g10 := of_decide_eq_true h9
        refine wp_skip (nx_block (nx_then ?_))
        refine RG.start ?_
        refine S.quiet (k := 3) (keep := [0, 1, 5]) (m := 0) (σ' := ⟨[(0, .v (slv (a).length pa.1)), (1, .v (slv (b).length pb.1)), (5, .v (I ((k : Int) + 1)))], []⟩) (.cons (Q_add (x := (k : Int)) (y := 1) ⟨by omega, by omega⟩) .nil) (by kernel_rfl) ?_
        clear S; intro ac w β S
        refine RG.done rfl (nx_then ?_)
        replace S := S.prune (keep := [0, 1, 5]) (m := 0) (σ' := ⟨[(0, .v (slv (a).length pa.1)), (1, .v (slv (b).length pb.1)), (5, .v (I ((k : Int) + 1)))], []⟩) (by kernel_rfl)
        refine ⟨a.length - (k + 1), by omega, k + 1, _, _, _, rfl, ?_, ?_, ?_, S.cast (by kernel_rfl)⟩
        · clear S; first | omega | (simp [*]; done) | (simp [*]; omega)
        · clear S; first | omega | (simp [*]; done) | (simp [*]; omega)
        · clear S; exact take_eq_step (by omega) (by omega) he (by simp_all)
    · have g11 : ¬ ((k : Int) < ((a).length : Int)) := of_decide_eq_false h4
      refine wp_exit (ex_then (ex_then (ex_hit (nx_then ?_))))
      refine wp_seq ?_
      refine RG.start ?_
      refine S.quiet (k := 1) (keep := [4]) (m := 0) (σ' := ⟨[(4, .v (B true))], []⟩) .nil (by kernel_rfl) ?_
      clear S; intro ac w β S
      refine RG.done rfl (nx_then ?_)
      refine wp_ret ?_
      refine S.ret (vs := [B true]) (by kernel_rfl) ?_
      exact ⟨retB (show true = decide (a = b) by clear S; first | (simp; intro e; subst e; simp_all; done) | (simp; rw [take_all (by omega), take_all (by omega)] at he; exact he) | (simp; exact take_ne (by simp_all))), S.chg⟩

set_option maxRecDepth 100000 in
theorem c_laws_eqHost (w0 : World) (a : THost) (pa : PHost) (ha : GT.rd KK (Lt w0.heap.size) w0 a pa) (b : THost) (pb : PHost) (hb : GT.rd KK (Lt w0.heap.size) w0 b pb) : Calls Try.prog 13 [GT.val (α := THost) a pa, GT.val (α := THost) b pb].toArray w0 (fun e w' => e = .returned (B (decide (a = b))) ∧ Chg NoB w0 w') := by
  refine Calls.walk (args := [GT.val (α := THost) a pa, GT.val (α := THost) b pb]) NoB Try.func13 rfl rfl ?_
  intro ac β S
  have hlea_mem : a.mem.length ≤ 4194304 := LRd.le (RHost.mem (d := a) ha)
  have hlea_mons : a.mons.length ≤ 4194304 := LRd.le (RHost.mons (d := a) ha)
  have hlea_buf : a.buf.length ≤ 4194304 := LRd.le (RHost.buf (d := a) ha)
  have hlea_iobuf : a.iobuf.length ≤ 4194304 := LRd.le (RHost.iobuf (d := a) ha)
  have hleb_mem : b.mem.length ≤ 4194304 := LRd.le (RHost.mem (d := b) hb)
  have hleb_mons : b.mons.length ≤ 4194304 := LRd.le (RHost.mons (d := b) hb)
  have hleb_buf : b.buf.length ≤ 4194304 := LRd.le (RHost.buf (d := b) hb)
  have hleb_iobuf : b.iobuf.length ≤ 4194304 := LRd.le (RHost.iobuf (d := b) hb)
  refine wp_seq ?_
  refine RG.start ?_
  refine S.quiet (k := 3) (keep := [2, 3]) (m := 2) (σ' := ⟨[(2, .p 0 0), (3, .p 1 0)], [GT.cells (α := THost) a pa, GT.cells (α := THost) b pb]⟩) .nil (by kernel_rfl) ?_
  clear S; intro ac w β S
  refine RG.done rfl (nx_then ?_)
  refine wp_seq ?_
  refine wp_seq ?_
  refine RG.start ?_
  refine S.quiet (k := 6) (keep := [2, 3, 10]) (m := 2) (σ' := ⟨[(2, .p 0 0), (3, .p 1 0), (10, .v (B (!(decide (a.mem = b.mem)))))], [GT.cells (α := THost) a pa, GT.cells (α := THost) b pb]⟩) (.cons (Q_call fun w hw => c_laws_eqIntSS w a.mem pa.mem (rd_of (RHost.mem (d := a) (S.arg ha)) hw) b.mem pb.mem (rd_of (RHost.mem (d := b) (S.arg hb)) hw)) .nil) (by kernel_rfl) ?_
  clear S; intro ac w β S
  refine RG.done rfl (nx_then ?_)
  refine S.cond (e := (!(decide (a.mem = b.mem)))) (by kernel_rfl) (fun h1 => ?_) (fun h1 => ?_)
  · have h2 : (decide (a.mem = b.mem)) = false := not_t h1
    have g3 := of_decide_eq_false h2
    refine wp_seq ?_
    refine RG.start ?_
    refine S.quiet (k := 1) (keep := [4]) (m := 0) (σ' := ⟨[(4, .v (B false))], []⟩) .nil (by kernel_rfl) ?_
    clear S; intro ac w β S
    refine RG.done rfl (nx_then ?_)
    refine wp_ret (rt_then ?_)
    refine S.ret (vs := [B false]) (by kernel_rfl) ?_
    exact ⟨retB (show false = decide (a = b) by clear S; first | (simp [THost.ext_iff, *]; done) | (simp_all [THost.ext_iff]; done)), S.chg⟩
  · have h4 : (decide (a.mem = b.mem)) = true := not_f h1
    have g5 := of_decide_eq_true h4
    refine wp_skip (nx_then ?_)
    refine wp_seq ?_
    refine wp_seq ?_
    refine RG.start ?_
    refine S.quiet (k := 6) (keep := [2, 3, 16]) (m := 2) (σ' := ⟨[(2, .p 0 0), (3, .p 1 0), (16, .v (B (!(decide (a.mons = b.mons)))))], [GT.cells (α := THost) a pa, GT.cells (α := THost) b pb]⟩) (.cons (Q_call fun w hw => c_laws_eqMonS w a.mons pa.mons (rd_of (RHost.mons (d := a) (S.arg ha)) hw) b.mons pb.mons (rd_of (RHost.mons (d := b) (S.arg hb)) hw)) .nil) (by kernel_rfl) ?_
    clear S; intro ac w β S
    refine RG.done rfl (nx_then ?_)
    refine S.cond (e := (!(decide (a.mons = b.mons)))) (by kernel_rfl) (fun h6 => ?_) (fun h6 => ?_)
    · have h7 : (decide (a.mons = b.mons)) = false := not_t h6
      have g8 := of_decide_eq_false h7
      refine wp_seq ?_
      refine RG.start ?_
      refine S.quiet (k := 1) (keep := [4]) (m := 0) (σ' := ⟨[(4, .v (B false))], []⟩) .nil (by kernel_rfl) ?_
      clear S; intro ac w β S
      refine RG.done rfl (nx_then ?_)
      refine wp_ret (rt_then ?_)
      refine S.ret (vs := [B false]) (by kernel_rfl) ?_
      exact ⟨retB (show false = decide (a = b) by clear S; first | (simp [THost.ext_iff, *]; done) | (simp_all [THost.ext_iff]; done)), S.chg⟩
    · have h9 : (decide (a.mons = b.mons)) = true := not_f h6
      have g10 := of_decide_eq_true h9
      refine wp_skip (nx_then ?_)
      refine wp_seq ?_
      refine wp_seq ?_
      refine RG.start ?_
      refine S.quiet (k := 6) (keep := [2, 3, 22]) (m := 2) (σ' := ⟨[(2, .p 0 0), (3, .p 1 0), (22, .v (B (!(decide (a.buf = b.buf)))))], [GT.cells (α := THost) a pa, GT.cells (α := THost) b pb]⟩) (.cons (Q_call fun w hw => c_laws_eqEntryS w a.buf pa.buf (rd_of (RHost.buf (d := a) (S.arg ha)) hw) b.buf pb.buf (rd_of (RHost.buf (d := b) (S.arg hb)) hw)) .nil) (by kernel_rfl) ?_
      clear S; intro ac w β S
      refine RG.done rfl (nx_then ?_)
      refine S.cond (e := (!(decide (a.buf = b.buf)))) (by kernel_rfl) (fun h11 => ?_) (fun h11 => ?_)
      · have h12 : (decide (a.buf = b.buf)) = false := not_t h11
        have g13 := of_decide_eq_false h12
        refine wp_seq ?_
        refine RG.start ?_
        refine S.quiet (k := 1) (keep := [4]) (m := 0) (σ' := ⟨[(4, .v (B false))], []⟩) .nil (by kernel_rfl) ?_
        clear S; intro ac w β S
        refine RG.done rfl (nx_then ?_)
        refine wp_ret (rt_then ?_)
        refine S.ret (vs := [B false]) (by kernel_rfl) ?_
        exact ⟨retB (show false = decide (a = b) by clear S; first | (simp [THost.ext_iff, *]; done) | (simp_all [THost.ext_iff]; done)), S.chg⟩
      · have h14 : (decide (a.buf = b.buf)) = true := not_f h11
        have g15 := of_decide_eq_true h14
        refine wp_skip (nx_then ?_)
        refine wp_seq ?_
        refine wp_seq ?_
        refine RG.start ?_
        refine S.quiet (k := 6) (keep := [28]) (m := 0) (σ' := ⟨[(28, .v (B (!(decide (a.iobuf = b.iobuf)))))], []⟩) (.cons (Q_call fun w hw => c_laws_eqEntryS w a.iobuf pa.iobuf (rd_of (RHost.iobuf (d := a) (S.arg ha)) hw) b.iobuf pb.iobuf (rd_of (RHost.iobuf (d := b) (S.arg hb)) hw)) .nil) (by kernel_rfl) ?_
        clear S; intro ac w β S
        refine RG.done rfl (nx_then ?_)
        refine S.cond (e := (!(decide (a.iobuf = b.iobuf)))) (by kernel_rfl) (fun h16 => ?_) (fun h16 => ?_)
        · have h17 : (decide (a.iobuf = b.iobuf)) = false := not_t h16
          have g18 := of_decide_eq_false h17
          refine wp_seq ?_
          refine RG.start ?_
          refine S.quiet (k := 1) (keep := [4]) (m := 0) (σ' := ⟨[(4, .v (B false))], []⟩) .nil (by kernel_rfl) ?_
          clear S; intro ac w β S
          refine RG.done rfl (nx_then ?_)
          refine wp_ret (rt_then ?_)
          refine S.ret (vs := [B false]) (by kernel_rfl) ?_
          exact ⟨retB (show false = decide (a = b) by clear S; first | (simp [THost.ext_iff, *]; done) | (simp_all [THost.ext_iff]; done)), S.chg⟩
        · have h19 : (decide (a.iobuf = b.iobuf)) = true := not_f h16
          have g20 := of_decide_eq_true h19
          refine wp_skip (nx_then ?_)
          refine wp_seq ?_
          refine RG.start ?_
          refine S.quiet (k := 1) (keep := [4]) (m := 0) (σ' := ⟨[(4, .v (B true))], []⟩) .nil (by kernel_rfl) ?_
          clear S; intro ac w β S
          refine RG.done rfl (nx_then ?_)
          refine wp_ret ?_
          refine S.ret (vs := [B true]) (by kernel_rfl) ?_
          exact ⟨retB (show true = decide (a = b) by clear S; first | (simp [THost.ext_iff, *]; done) | (simp_all [THost.ext_iff]; done)), S.chg⟩

set_option maxRecDepth 100000 in
theorem c_laws_markIntS (w0 : World) (a : List Int) (pa : LP Int) (F : Bl) (ha : GT.own KK F w0 a pa) (hF : ∀ b, F b → b < w0.heap.size) (k : Int) (pre0 : 0 ≤ k) (pre1 : k + 16 * (SZ.sz a : Int) ≤ 4611686018427387904) : Calls Try.prog 66 [slv (a).length pa.1, I k].toArray w0 (RetX hdl F w0 pa a k) := by
  refine Calls.walk (args := [slv (a).length pa.1, I k]) F Try.func66 rfl rfl ?_
  intro ac β S
  have oa : Ow w0 F w0 (Lt w0.heap.size) F a pa := ⟨ha, hF, fun b hb => .inr hb⟩
  have hz := szl_Int a
  have hlea : a.length ≤ 4194304 := LOwn.le ha
  refine wp_seq ?_
  refine RG.start ?_
  refine S.quiet (k := 1) (keep := [0, 1]) (m := 0) (σ' := ⟨[(0, .v (slv (a).length pa.1)), (1, .v (I k))], []⟩) .nil (by kernel_rfl) ?_
  clear S; intro ac w β S
  refine RG.done rfl (nx_then ?_)
  refine wp_seq ?_
  refine wp_seq ?_
  refine RG.start ?_
  refine S.quiet (k := 1) (keep := [0, 1, 5]) (m := 0) (σ' := ⟨[(0, .v (slv (a).length pa.1)), (1, .v (I k)), (5, .v (I 0))], []⟩) .nil (by kernel_rfl) ?_
  clear S; intro ac w β S
  refine RG.done rfl (nx_then ?_)
  refine wp_block ?_
  replace S := S.prune (keep := [0, 1, 5]) (m := 0) (σ' := ⟨[(0, .v (slv (a).length pa.1)), (1, .v (I k)), (5, .v (I 0))], []⟩) (by kernel_rfl)
  refine wp_loop_down (fun mm ac w => ∃ (i : Nat) (acc : List Int) (j : Int) (q1 : GT.Ptr (List Int)) (F2 : Bl) (u : World) (N : Bl) (β : Nat → Nat), mm = a.length - i ∧ (i ≤ a.length) ∧ (acc = f_marksInt i k ++ a.drop i) ∧ (j = k + 1 * (i : Int)) ∧ St Try.prog Try.f66.ntmps w0 F u N β ⟨[(0, .v (slv a.length q1.1)), (1, .v (I j)), (5, .v (I (i : Int)))], []⟩ ac w ∧ Ow w0 F u N F2 acc q1 ∧ q1.1 = pa.1 ∧ (∀ b, F2 b → F b)) _ ⟨0, a, k, pa, F, _, _, _, rfl, (by first | omega | (simp; done) | (simp; omega)), (by simp [f_marksInt]), (by simp), S.cast (by kernel_rfl), oa, rfl, (fun _ h => h)⟩ ?_
  clear S oa
  rintro mm ac w ⟨i, acc, j, q1, F2, u, N, β, rfl, hi, hacc, hj, S, o3, hq, hs⟩
  have hlacc : acc.length = a.length := by rw [hacc]; simp [f_marksInt]; omega
  refine wp_seq ?_
  refine wp_seq ?_
  refine RG.start ?_
  refine S.quiet (k := 4) (keep := [0, 1, 5, 9]) (m := 0) (σ' := ⟨[(0, .v (slv a.length q1.1)), (1, .v (I j)), (5, .v (I (i : Int))), (9, .v (B (decide ((i : Int) < (a.length : Int)))))], []⟩) .nil (by kernel_rfl) ?_
  clear S; intro ac w β S
  refine RG.done rfl (nx_then ?_)
  refine S.cond (e := (decide ((i : Int) < (a.length : Int)))) (by kernel_rfl) (fun h4 => ?_) (fun h4 => ?_)
  · have g5 : (i : Int) < (a.length : Int) := of_decide_eq_true h4
    refine wp_skip (nx_then ?_)
    refine wp_seq ?_
    refine wp_block ?_
    refine wp_seq ?_
    refine RG.start ?_
    refine S.quiet (k := 4) (keep := [0, 1, 5, 14, 15]) (m := 0) (σ' := ⟨[(0, .v (slv a.length q1.1)), (1, .v (I j)), (5, .v (I (i : Int))), (14, .v (I j)), (15, .v (pt q1.1.b (q1.1.off + i * 1)))], []⟩) (.cons (Q_idx o3.rn (l := a.length) (k := i) (i := (i : Int)) (by rw [hacc]; simp [f_marksInt]; omega) rfl (by omega) Try.underlying30 (by kernel_rfl)) .nil) (by kernel_rfl) ?_
    clear S; intro ac w β S
    refine RG.op rfl (S.setEl (α := Int) o3 (t := 3) (v := I j) (k := i) (j := 0) (off := q1.1.off + i * 1) (y := j) (q := ()) (Fy := NoB) (by kernel_rfl) (by kernel_rfl) (by omega) (by kernel_rfl) (by kernel_rfl) (Nat.le_of_ble_eq_true (by kernel_rfl)) (by kernel_rfl) (fun _ _ _ => ⟨NoB, ⟨by omega, by omega⟩, fun _ h => False.elim h⟩) (fun b _ h => False.elim h) (fun b h => False.elim h) (fun b h => False.elim h) ?_)
    clear S; intro w N F7 q8 S up o6 d9 s10
    have s11 : ∀ b, F7 b → F b := fun b h => (s10 b h).elim (hs b) (fun h => False.elim h)
    clear up d9 o3
    have l12 : (acc.set i j).length = (acc).length := List.length_set
    replace S := S.prune (keep := [0, 1, 5]) (m := 0) (σ' := ⟨[(0, .v (slv a.length q1.1)), (1, .v (I j)), (5, .v (I (i : Int)))], []⟩) (by kernel_rfl)
    refine RG.done rfl (nx_then ?_)
    refine RG.start ?_
    refine S.quiet (k := 3) (keep := [0, 1, 5]) (m := 0) (σ' := ⟨[(0, .v (slv a.length q1.1)), (1, .v (I (j + 1))), (5, .v (I (i : Int)))], []⟩) (.cons (Q_add (x := j) (y := 1) ⟨by omega, by omega⟩) .nil) (by kernel_rfl) ?_
    clear S; intro ac w β S
    refine RG.done rfl (nx_block (nx_then ?_))
    refine RG.start ?_
    refine S.quiet (k := 3) (keep := [0, 1, 5]) (m := 0) (σ' := ⟨[(0, .v (slv a.length q1.1)), (1, .v (I (j + 1))), (5, .v (I ((i : Int) + 1)))], []⟩) (.cons (Q_add (x := (i : Int)) (y := 1) ⟨by omega, by omega⟩) .nil) (by kernel_rfl) ?_
    clear S; intro ac w β S
    refine RG.done rfl (nx_then ?_)
    replace S := S.prune (keep := [0, 1, 5]) (m := 0) (σ' := ⟨[(0, .v (slv a.length q1.1)), (1, .v (I (j + 1))), (5, .v (I ((i : Int) + 1)))], []⟩) (by kernel_rfl)
    refine ⟨a.length - (i + 1), by omega, i + 1, (acc.set i j), (j + 1), (q1.1, q8), F7, _, _, _, rfl, ?_, ?_, ?_, S.cast (by kernel_rfl), o6, hq, s11⟩
    · clear S; first | omega | (simp [*]; done) | (simp [*]; omega)
    · clear S; (have hlt : i < acc.length := (by omega)); rw [hacc, ← marksInt_step (by omega) hj]; (first | rfl | (simp [g_markInt, Int.add_assoc]; done))
    · clear S; omega
  · have g13 : ¬ ((i : Int) < (a.length : Int)) := of_decide_eq_false h4
    refine wp_exit (ex_then (ex_then (ex_hit (nx_then ?_))))
    refine wp_seq ?_
    refine RG.start ?_
    refine S.quiet (k := 2) (keep := [4]) (m := 0) (σ' := ⟨[(4, .v (I j))], []⟩) .nil (by kernel_rfl) ?_
    clear S; intro ac w β S
    refine RG.done rfl (nx_then ?_)
    refine wp_ret ?_
    refine S.ret (vs := [I j]) (by kernel_rfl) ?_
    have hyd : hdl acc k = j := by clear S; (have e : i = a.length := (by omega)); subst e; rw [hacc, List.drop_length, List.append_nil, hj]; exact hd_marksInt k (by omega) _ (by omega) id
    have hyb : k ≤ j ∧ j ≤ k + 16 * ((SZ.sz a : Nat) : Int) := by clear S; skip; constructor <;> omega
    exact retX_of S hyd hyb.1 hyb.2 (by show [slv _ _] = [slv _ _]; rw [hlacc, hq]) o3 hs

set_option maxRecDepth 100000 in
theorem c_laws_markIntSS (w0 : World) (a : List (List Int)) (pa : LP (List Int)) (F : Bl) (ha : GT.own KK F w0 a pa) (hF : ∀ b, F b → b < w0.heap.size) (k : Int) (pre0 : 0 ≤ k) (pre1 : k + 16 * (SZ.sz a : Int) ≤ 4611686018427387904) : Calls Try.prog 60 [slv (a).length pa.1, I k].toArray w0 (RetX hdl F w0 pa a k) := by
  refine Calls.walk (args := [slv (a).length pa.1, I k]) F Try.func60 rfl rfl ?_
  intro ac β S
  have oa : Ow w0 F w0 (Lt w0.heap.size) F a pa := ⟨ha, hF, fun b hb => .inr hb⟩
  have hz := sz_list a
  have hlea : a.length ≤ 4194304 := LOwn.le ha
  refine wp_seq ?_
  refine RG.start ?_
  refine S.quiet (k := 1) (keep := [0, 1]) (m := 0) (σ' := ⟨[(0, .v (slv (a).length pa.1)), (1, .v (I k))], []⟩) .nil (by kernel_rfl) ?_
  clear S; intro ac w β S
  refine RG.done rfl (nx_then ?_)
  refine wp_seq ?_
  refine wp_seq ?_
  refine RG.start ?_
  refine S.quiet (k := 1) (keep := [0, 1, 5]) (m := 0) (σ' := ⟨[(0, .v (slv (a).length pa.1)), (1, .v (I k)), (5, .v (I 0))], []⟩) .nil (by kernel_rfl) ?_
  clear S; intro ac w β S
  refine RG.done rfl (nx_then ?_)
  refine wp_block ?_
  replace S := S.prune (keep := [0, 1, 5]) (m := 0) (σ' := ⟨[(0, .v (slv (a).length pa.1)), (1, .v (I k)), (5, .v (I 0))], []⟩) (by kernel_rfl)
  refine wp_loop_down (fun mm ac w => ∃ (i : Nat) (acc : List (List Int)) (j : Int) (q1 : GT.Ptr (List (List Int))) (F2 : Bl) (u : World) (N : Bl) (β : Nat → Nat), mm = a.length - i ∧ (i ≤ a.length) ∧ (acc.length = a.length) ∧ (∀ f, hdlc (acc.take i) k f = f j) ∧ (acc.drop i = a.drop i) ∧ (k ≤ j) ∧ (j ≤ k + 16 * ((i : Int) + (szsum (a.take i) : Nat))) ∧ St Try.prog Try.f60.ntmps w0 F u N β ⟨[(0, .v (slv a.length q1.1)), (1, .v (I j)), (5, .v (I (i : Int)))], []⟩ ac w ∧ Ow w0 F u N F2 acc q1 ∧ q1.1 = pa.1 ∧ (∀ b, F2 b → F b)) _ ⟨0, a, k, pa, F, _, _, _, rfl, (by first | omega | (simp; done) | (simp; omega)), (by rfl), (by intro f; rfl), (by rfl), (by first | omega | (simp; done) | (simp; omega)), (by simp [szsum_nil]), S.cast (by kernel_rfl), oa, rfl, (fun _ h => h)⟩ ?_
  clear S oa
  rintro mm ac w ⟨i, acc, j, q1, F2, u, N, β, rfl, hi, hl, hM, hD, hj0, hj1, S, o3, hq, hs⟩
  have hel := el_of_drop hD
  have hsl := szsum_take_le a i
  refine wp_seq ?_
  refine wp_seq ?_
  refine RG.start ?_
  refine S.quiet (k := 4) (keep := [0, 1, 5, 9]) (m := 0) (σ' := ⟨[(0, .v (slv a.length q1.1)), (1, .v (I j)), (5, .v (I (i : Int))), (9, .v (B (decide ((i : Int) < (a.length : Int)))))], []⟩) .nil (by kernel_rfl) ?_
  clear S; intro ac w β S
  refine RG.done rfl (nx_then ?_)
  refine S.cond (e := (decide ((i : Int) < (a.length : Int)))) (by kernel_rfl) (fun h4 => ?_) (fun h4 => ?_)
  · have g5 : (i : Int) < (a.length : Int) := of_decide_eq_true h4
    refine wp_skip (nx_then ?_)
    refine wp_seq ?_
    refine wp_block ?_
    refine RG.start ?_
    refine S.quiet (k := 5) (keep := [0, 5, 15, 16]) (m := 0) (σ' := ⟨[(0, .v (slv a.length q1.1)), (5, .v (I (i : Int))), (15, .v (slv ((el acc i)).length (q1.2 i).1)), (16, .v (I j))], []⟩) (.cons (Q_idx o3.rn (l := a.length) (k := i) (i := (i : Int)) (by omega) rfl (by omega) Try.underlying22 (by kernel_rfl)) (.cons (Q_el1 o3.rn (t := 30) (k := i) (by omega) rfl (by kernel_rfl)) .nil)) (by kernel_rfl) ?_
    clear S; intro ac w β S
    obtain ⟨F6, o7, s8, b9⟩ := foc_id o3 (k := i) (show i < (acc).length by omega)
    have z10 := szsum_take (xs := a) (k := i) (by omega)
    have z11 := szsum_take_le a (i + 1)
    have e12 : (el acc i) = el a i := by simp only [hel]
    refine RG.op rfl (S.callX (hd := hdl) (d := 17) o7 (c_laws_markIntS w (el acc i) (q1.2 i) F6 (S.ownw o7) (fun b hb => (S.sep b (o7.sub b hb)).1) j (by omega) (by rw [e12]; omega)) (by kernel_rfl) rfl ?_)
    clear S; intro ac w N q13 y14 k15 S up o16 c17 x18 b19 b20
    rw [e12] at b20
    obtain ⟨p21, o22⟩ := b9 _ _ _ _ up o16 c17
    clear up o3 o7 s8 b9 o16 c17
    obtain ⟨a23, e24⟩ : ∃ z, z = (acc).set i (y14) := ⟨_, rfl⟩
    rw [← e24] at o22
    have l25 : a23.length = (acc).length := by rw [e24]; exact List.length_set
    have e26 : el a23 i = y14 := by rw [e24]; exact el_set_self (show i < (acc).length by omega)
    have t27 : a23.take i = (acc).take i := by rw [e24]; exact take_set_self
    have d28 : a23.drop (i + 1) = (acc).drop (i + 1) := by rw [e24]; exact drop_set_self
    clear e24
    refine S.quiet (k := 1) (keep := [0, 1, 5]) (m := 0) (σ' := ⟨[(0, .v (slv a.length q1.1)), (1, .v (I k15)), (5, .v (I (i : Int)))], []⟩) .nil (by kernel_rfl) ?_
    clear S; intro ac w β S
    refine RG.done rfl (nx_block (nx_then ?_))
    refine RG.start ?_
    refine S.quiet (k := 3) (keep := [0, 1, 5]) (m := 0) (σ' := ⟨[(0, .v (slv a.length q1.1)), (1, .v (I k15)), (5, .v (I ((i : Int) + 1)))], []⟩) (.cons (Q_add (x := (i : Int)) (y := 1) ⟨by omega, by omega⟩) .nil) (by kernel_rfl) ?_
    clear S; intro ac w β S
    refine RG.done rfl (nx_then ?_)
    replace S := S.prune (keep := [0, 1, 5]) (m := 0) (σ' := ⟨[(0, .v (slv a.length q1.1)), (1, .v (I k15)), (5, .v (I ((i : Int) + 1)))], []⟩) (by kernel_rfl)
    refine ⟨a.length - (i + 1), by omega, i + 1, a23, k15, (q1.1, p21), F2, _, _, _, rfl, ?_, ?_, ?_, ?_, ?_, ?_, S.cast (by kernel_rfl), o22, hq, hs⟩
    · clear S; first | omega | (simp [*]; done) | (simp [*]; omega)
    · clear S; omega
    · clear S; refine mk_step (acc := a23) (by omega) (by intro f; rw [t27]; exact hM f) ?_; intro f; simp (disch := first | omega | rfl) only [he_list, he_list, e26, x18, hdc_pos, hdi_eq, hdb_eq]
    · clear S; rw [d28]; exact drop_more hD
    · clear S; omega
    · clear S; omega
  · have g29 : ¬ ((i : Int) < (a.length : Int)) := of_decide_eq_false h4
    refine wp_exit (ex_then (ex_then (ex_hit (nx_then ?_))))
    refine wp_seq ?_
    refine RG.start ?_
    refine S.quiet (k := 2) (keep := [4]) (m := 0) (σ' := ⟨[(4, .v (I j))], []⟩) .nil (by kernel_rfl) ?_
    clear S; intro ac w β S
    refine RG.done rfl (nx_then ?_)
    refine wp_ret ?_
    refine S.ret (vs := [I j]) (by kernel_rfl) ?_
    have hyd : hdl acc k = j := by clear S; exact mk_end (by omega) hM
    have hyb : k ≤ j ∧ j ≤ k + 16 * ((SZ.sz a : Nat) : Int) := by clear S; have hs2 := szsum_take_le a i; constructor <;> omega
    exact retX_of S hyd hyb.1 hyb.2 (by show [slv _ _] = [slv _ _]; rw [hl, hq]) o3 hs

end Go.Proofs.Ytacgkoohinlhjaa
