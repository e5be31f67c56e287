/- The walks: what each function that the laws reach computes (part 2). -/
import Derived.Test.YtacgkoohinlhjaaGreatW1
import Derived.Test.YtacgkoohinlhjaaGreatProg
import Derived.KernelRfl
namespace Go.Proofs.YtacgkoohinlhjaaGreat
open Go
set_option linter.unusedVariables false
set_option linter.unusedSimpArgs false

set_option maxRecDepth 100000 in
theorem c_spec_l21Copy (w0 : World) (h : THost) (ph : PHost) (hh : GT.rd KK (Lt w0.heap.size) w0 h ph) : Calls Tryz.prog 18 [GT.val h ph].toArray w0 (Ret1 NoB w0 (h : THost)) := by
  refine Calls.walk (args := [GT.val h ph]) NoB Tryz.func18 rfl rfl ?_
  intro ac β S
  have hleh_mem : h.mem.length ≤ 4194304 := LRd.le (RHost.mem (d := h) hh)
  have hleh_mons : h.mons.length ≤ 4194304 := LRd.le (RHost.mons (d := h) hh)
  have hleh_buf : h.buf.length ≤ 4194304 := LRd.le (RHost.buf (d := h) hh)
  have hleh_iobuf : h.iobuf.length ≤ 4194304 := LRd.le (RHost.iobuf (d := h) hh)
  refine wp_seq (RG.start ?_)
  refine S.q 2 [1, 2] 2 ⟨[(1, .p 0 0), (2, .p 1 0)], [GT.cells h ph, Zc THost]⟩ .nil ?_; clear S; intro ac w β S
  refine RG.done rfl (nx_then (wp_seq ?_))
  replace S := S.p [1, 2] 2 ⟨[(1, .p 0 0), (2, .p 1 0)], [GT.cells h ph, Zc THost]⟩
  obtain ⟨u0, N0, β0, S⟩ : ∃ (u0 : World) (N0 : Bl) (β0 : Nat → Nat), St Tryz.prog Tryz.f18.ntmps w0 NoB u0 N0 β0 ⟨[(1, .p 0 0), (2, .p 1 0)], [GT.cells h ph, Zc THost]⟩ ac w := ⟨_, _, _, S.cast (by kernel_rfl)⟩
  refine wp_region_cut (fun ac w => ∃ (q91 : GT.Ptr (List TEntry)) (F92 : Bl) (q94 : GT.Ptr (List TEntry)) (F95 : Bl) (q88 : GT.Ptr (List (List Int))) (F89 : Bl) (u : World) (N : Bl) (β : Nat → Nat), St Tryz.prog Tryz.f18.ntmps w0 NoB u N β ⟨[(1, .p 0 0), (2, .p 1 0), (3, .p 2 0)], [GT.cells h ph, Zc THost, [slv (h.mem).length q88.1, slv (([] : List TMon)).length (GT.pdflt (α := List TMon)).1, slv ((([] : List TEntry) ++ h.buf)).length q91.1, slv ((([] : List TEntry) ++ h.iobuf)).length q94.1]]⟩ ac w ∧ Ow w0 NoB u N F92 (([] : List TEntry) ++ h.buf) q91 ∧ Ow w0 NoB u N F95 (([] : List TEntry) ++ h.iobuf) q94 ∧ Ow w0 NoB u N F89 h.mem q88 ∧ Disj F92 F95 ∧ Disj F92 F89 ∧ Disj F95 F89) ?_ ?_
  · refine S.draw0 (f := 14) 13 rfl rfl ?_
    clear S; intro w S
    refine S.hoist (i := 0) (path := [0]) (keep := [1, 2, 5]) (m := 2) (σ' := ⟨[(1, .p 0 0), (2, .p 1 0), (5, .p 0 0)], [GT.cells h ph, Zc THost]⟩) (by kernel_rfl) (by kernel_rfl) .nil (by kernel_rfl) ?_
    clear S; intro ac S
    refine S.hoist (i := 1) (path := [1]) (keep := [1, 2, 6]) (m := 2) (σ' := ⟨[(1, .p 0 0), (2, .p 1 0), (6, .v (slv (h.mem).length ph.mem.1))], [GT.cells h ph, Zc THost]⟩) (by kernel_rfl) (by kernel_rfl) .nil (by kernel_rfl) ?_
    clear S; intro ac S
    refine S.hoist (i := 4) (path := [4]) (keep := [1, 2, 6, 9]) (m := 2) (σ' := ⟨[(1, .p 0 0), (2, .p 1 0), (6, .v (slv (h.mem).length ph.mem.1)), (9, .p 0 2)], [GT.cells h ph, Zc THost]⟩) (by kernel_rfl) (by kernel_rfl) .nil (by kernel_rfl) ?_
    clear S; intro ac S
    refine S.hoist (i := 5) (path := [5]) (keep := [1, 2, 6, 10]) (m := 2) (σ' := ⟨[(1, .p 0 0), (2, .p 1 0), (6, .v (slv (h.mem).length ph.mem.1)), (10, .v (slv (h.buf).length ph.buf.1))], [GT.cells h ph, Zc THost]⟩) (by kernel_rfl) (by kernel_rfl) .nil (by kernel_rfl) ?_
    clear S; intro ac S
    refine S.hoist (i := 8) (path := [8]) (keep := [1, 2, 6, 10, 13]) (m := 2) (σ' := ⟨[(1, .p 0 0), (2, .p 1 0), (6, .v (slv (h.mem).length ph.mem.1)), (10, .v (slv (h.buf).length ph.buf.1)), (13, .p 0 3)], [GT.cells h ph, Zc THost]⟩) (by kernel_rfl) (by kernel_rfl) .nil (by kernel_rfl) ?_
    clear S; intro ac S
    refine S.hoist (i := 9) (path := [9]) (keep := [1, 2, 6, 10, 14]) (m := 2) (σ' := ⟨[(1, .p 0 0), (2, .p 1 0), (6, .v (slv (h.mem).length ph.mem.1)), (10, .v (slv (h.buf).length ph.buf.1)), (14, .v (slv (h.iobuf).length ph.iobuf.1))], [GT.cells h ph, Zc THost]⟩) (by kernel_rfl) (by kernel_rfl) .nil (by kernel_rfl) ?_
    clear S; intro ac S
    refine WD.nameW fun W hW => ?_
    refine WD.castW (l' := mkL 14 [0, 1, 4, 5, 8, 9]) (by kernel_rfl) ?_
    have hK96 : ∀ (ac : Act) (w : World) (q91 : GT.Ptr (List TEntry)) (F92 : Bl) (q94 : GT.Ptr (List TEntry)) (F95 : Bl) (q88 : GT.Ptr (List (List Int))) (F89 : Bl) (u : World) (N : Bl) (β : Nat → Nat) (S : St Tryz.prog Tryz.f18.ntmps w0 NoB u N β ⟨[(1, .p 0 0), (2, .p 1 0), (3, .p 2 0)], [GT.cells h ph, Zc THost, [slv (h.mem).length q88.1, slv (([] : List TMon)).length (GT.pdflt (α := List TMon)).1, slv ((([] : List TEntry) ++ h.buf)).length q91.1, slv ((([] : List TEntry) ++ h.iobuf)).length q94.1]]⟩ ac w) (o90 : Ow w0 NoB u N F92 (([] : List TEntry) ++ h.buf) q91) (o93 : Ow w0 NoB u N F95 (([] : List TEntry) ++ h.iobuf) q94) (o87 : Ow w0 NoB u N F89 h.mem q88) (d97 : Disj F92 F95) (d98 : Disj F92 F89) (d99 : Disj F95 F89) (hNN : True) (hBB : True), W 0 (mkL 14 [0, 1, 2, 3, 4, 5, 6, 7, 8, 9, 10, 11, 12, 13]) ac w := by
      intro ac w q91 F92 q94 F95 q88 F89 u N β S o90 o93 o87 d97 d98 d99 hNN hBB
      rw [hW]
      refine WD.done (by kernel_rfl) ?_ _
      replace S := S.p [1, 2, 3] 3 ⟨[(1, .p 0 0), (2, .p 1 0), (3, .p 2 0)], [GT.cells h ph, Zc THost, [slv (h.mem).length q88.1, slv (([] : List TMon)).length (GT.pdflt (α := List TMon)).1, slv ((([] : List TEntry) ++ h.buf)).length q91.1, slv ((([] : List TEntry) ++ h.iobuf)).length q94.1]]⟩
      exact ⟨rfl, q91, F92, q94, F95, q88, F89, _, _, _, S.cast (by kernel_rfl), o90, o93, o87, d97, d98, d99⟩
    have hK100 : ∀ (ac : Act) (w : World) (q82 : GT.Ptr (List TEntry)) (F83 : Bl) (q85 : GT.Ptr (List TEntry)) (F86 : Bl) (q79 : GT.Ptr (List (List Int))) (F80 : Bl) (u : World) (N : Bl) (β : Nat → Nat) (S : St Tryz.prog Tryz.f18.ntmps w0 NoB u N β ⟨[(1, .p 0 0), (2, .p 1 0), (3, .p 2 0), (16, .v (GT.val (⟨h.mem, ([] : List TMon), (([] : List TEntry) ++ h.buf), (([] : List TEntry) ++ h.iobuf)⟩ : THost) (⟨q79, (GT.pdflt (α := List TMon)), q82, q85⟩ : PHost)))], [GT.cells h ph, Zc THost, Zc THost]⟩ ac w) (o81 : Ow w0 NoB u N F83 (([] : List TEntry) ++ h.buf) q82) (o84 : Ow w0 NoB u N F86 (([] : List TEntry) ++ h.iobuf) q85) (o78 : Ow w0 NoB u N F80 h.mem q79) (d101 : Disj F83 F86) (d102 : Disj F83 F80) (d103 : Disj F86 F80) (hNN : ∀ b, N0 b → N b ∧ u.heap[b]? = u0.heap[b]?) (hBB : ∀ k, k < 2 → β k = β0 k), W 1 (mkL 14 [0, 1, 2, 3, 4, 5, 6, 7, 8, 9, 10, 11, 12]) ac w := by
      intro ac w q82 F83 q85 F86 q79 F80 u N β S o81 o84 o78 d101 d102 d103 hNN hBB
      rw [hW]
      refine WD.one (i := 13) (by kernel_rfl) ?_
      refine S.stepq (i := 13) (keep := [1, 2, 3]) (m := 3) (σ' := ⟨[(1, .p 0 0), (2, .p 1 0), (3, .p 2 0)], [GT.cells h ph, Zc THost, [slv (h.mem).length q79.1, slv (([] : List TMon)).length (GT.pdflt (α := List TMon)).1, slv ((([] : List TEntry) ++ h.buf)).length q82.1, slv ((([] : List TEntry) ++ h.iobuf)).length q85.1]]⟩) .nil (by kernel_rfl) ?_
      clear S; intro ac w β S hβ
      refine WD.last (by kernel_rfl) ?_
      clear hβ
      exact WD.ofW hW (by kernel_rfl) (hK96 ac w q82 F83 q85 F86 q79 F80 _ _ _ (S.prune (keep := [1, 2, 3]) (m := 3) (by kernel_rfl)) o81 o84 o78 d101 d102 d103 trivial trivial)
    have hK104 : ∀ (ac : Act) (w : World) (q82 : GT.Ptr (List TEntry)) (F83 : Bl) (q85 : GT.Ptr (List TEntry)) (F86 : Bl) (q79 : GT.Ptr (List (List Int))) (F80 : Bl) (u : World) (N : Bl) (β : Nat → Nat) (S : St Tryz.prog Tryz.f18.ntmps w0 NoB u N β ⟨[(1, .p 0 0), (2, .p 1 0), (16, .v (GT.val (⟨h.mem, ([] : List TMon), (([] : List TEntry) ++ h.buf), (([] : List TEntry) ++ h.iobuf)⟩ : THost) (⟨q79, (GT.pdflt (α := List TMon)), q82, q85⟩ : PHost)))], [GT.cells h ph, Zc THost]⟩ ac w) (o81 : Ow w0 NoB u N F83 (([] : List TEntry) ++ h.buf) q82) (o84 : Ow w0 NoB u N F86 (([] : List TEntry) ++ h.iobuf) q85) (o78 : Ow w0 NoB u N F80 h.mem q79) (d105 : Disj F83 F86) (d106 : Disj F83 F80) (d107 : Disj F86 F80) (hNN : ∀ b, N0 b → N b ∧ u.heap[b]? = u0.heap[b]?) (hBB : ∀ k, k < 2 → β k = β0 k), W 2 (mkL 14 [0, 1, 2, 3, 4, 5, 6, 7, 8, 9, 10, 11]) ac w := by
      intro ac w q82 F83 q85 F86 q79 F80 u N β S o81 o84 o78 d105 d106 d107 hNN hBB
      rw [hW]
      refine WD.one (i := 12) (by kernel_rfl) ?_
      refine S.stepq (i := 12) (keep := [1, 2, 3, 16]) (m := 3) (σ' := ⟨[(1, .p 0 0), (2, .p 1 0), (3, .p 2 0), (16, .v (GT.val (⟨h.mem, ([] : List TMon), (([] : List TEntry) ++ h.buf), (([] : List TEntry) ++ h.iobuf)⟩ : THost) (⟨q79, (GT.pdflt (α := List TMon)), q82, q85⟩ : PHost)))], [GT.cells h ph, Zc THost, Zc THost]⟩) .nil (by kernel_rfl) ?_
      clear S; intro ac w β S hβ
      have hB2 := fun k (hk : k < 2) => (hβ k (Nat.lt_of_lt_of_le hk (Nat.le_of_ble_eq_true rfl))).trans (hBB k hk)
      refine WD.stayK S (fun b h => ⟨(hNN b h).1, (hNN b h).2⟩) hB2 (bx_app rfl) ?_
      clear hβ
      exact WD.ofW hW (by kernel_rfl) (hK100 ac w q82 F83 q85 F86 q79 F80 _ _ _ (S.prune (keep := [1, 2, 3, 16]) (m := 3) (by kernel_rfl)) o81 o84 o78 d105 d106 d107 hNN hB2)
    have hK108 : ∀ (ac : Act) (w : World) (q51 : GT.Ptr (List TEntry)) (F52 : Bl) (q76 : GT.Ptr (List TEntry)) (F77 : Bl) (q7 : GT.Ptr (List (List Int))) (F8 : Bl) (u : World) (N : Bl) (β : Nat → Nat) (S : St Tryz.prog Tryz.f18.ntmps w0 NoB u N β ⟨[(1, .p 0 0), (2, .p 1 0), (3, .p 2 0), (7, .v (slv (h.mem).length q7.1)), (11, .v (slv ((([] : List TEntry) ++ h.buf)).length q51.1)), (15, .v (slv ((([] : List TEntry) ++ h.iobuf)).length q76.1))], [GT.cells h ph, Zc THost, Zc THost]⟩ ac w) (o50 : Ow w0 NoB u N F52 (([] : List TEntry) ++ h.buf) q51) (o75 : Ow w0 NoB u N F77 (([] : List TEntry) ++ h.iobuf) q76) (o6 : Ow w0 NoB u N F8 h.mem q7) (d109 : Disj F52 F77) (d110 : Disj F52 F8) (d111 : Disj F77 F8) (hNN : ∀ b, N0 b → N b ∧ u.heap[b]? = u0.heap[b]?) (hBB : ∀ k, k < 2 → β k = β0 k), W 2 (mkL 14 [0, 1, 2, 3, 4, 5, 6, 7, 8, 9, 10, 12]) ac w := by
      intro ac w q51 F52 q76 F77 q7 F8 u N β S o50 o75 o6 d109 d110 d111 hNN hBB
      rw [hW]
      refine WD.one (i := 11) (by kernel_rfl) ?_
      refine S.stepq (i := 11) (keep := [1, 2, 3, 16]) (m := 3) (σ' := ⟨[(1, .p 0 0), (2, .p 1 0), (3, .p 2 0), (16, .v (GT.val (⟨h.mem, ([] : List TMon), (([] : List TEntry) ++ h.buf), (([] : List TEntry) ++ h.iobuf)⟩ : THost) (⟨q7, (GT.pdflt (α := List TMon)), q51, q76⟩ : PHost)))], [GT.cells h ph, Zc THost, Zc THost]⟩) (.cons (Q_sem (s := Instr.build 31 [(0, slv (h.mem).length q7.1), (2, slv ((([] : List TEntry) ++ h.buf)).length q51.1), (3, slv ((([] : List TEntry) ++ h.iobuf)).length q76.1)].toArray) (v := .agg [slv (h.mem).length q7.1, slv (([] : List TMon)).length (GT.pdflt (α := List TMon)).1, slv ((([] : List TEntry) ++ h.buf)).length q51.1, slv ((([] : List TEntry) ++ h.iobuf)).length q76.1].toArray) (fun w => by kernel_rfl)) .nil) (by kernel_rfl) ?_
      clear S; intro ac w β S hβ
      have hB2 := fun k (hk : k < 2) => (hβ k (Nat.lt_of_lt_of_le hk (Nat.le_of_ble_eq_true rfl))).trans (hBB k hk)
      refine WD.stayK S (fun b h => ⟨(hNN b h).1, (hNN b h).2⟩) hB2 (bx_app rfl) ?_
      clear hβ
      exact WD.ofW hW (by kernel_rfl) (hK100 ac w q51 F52 q76 F77 q7 F8 _ _ _ (S.prune (keep := [1, 2, 3, 16]) (m := 3) (by kernel_rfl)) o50 o75 o6 d109 d110 d111 hNN hB2)
    have hK112 : ∀ (ac : Act) (w : World) (q51 : GT.Ptr (List TEntry)) (F52 : Bl) (q76 : GT.Ptr (List TEntry)) (F77 : Bl) (q7 : GT.Ptr (List (List Int))) (F8 : Bl) (u : World) (N : Bl) (β : Nat → Nat) (S : St Tryz.prog Tryz.f18.ntmps w0 NoB u N β ⟨[(1, .p 0 0), (2, .p 1 0), (7, .v (slv (h.mem).length q7.1)), (11, .v (slv ((([] : List TEntry) ++ h.buf)).length q51.1)), (15, .v (slv ((([] : List TEntry) ++ h.iobuf)).length q76.1))], [GT.cells h ph, Zc THost]⟩ ac w) (o50 : Ow w0 NoB u N F52 (([] : List TEntry) ++ h.buf) q51) (o75 : Ow w0 NoB u N F77 (([] : List TEntry) ++ h.iobuf) q76) (o6 : Ow w0 NoB u N F8 h.mem q7) (d113 : Disj F52 F77) (d114 : Disj F52 F8) (d115 : Disj F77 F8) (hNN : ∀ b, N0 b → N b ∧ u.heap[b]? = u0.heap[b]?) (hBB : ∀ k, k < 2 → β k = β0 k), W 3 (mkL 14 [0, 1, 2, 3, 4, 5, 6, 7, 8, 9, 10]) ac w := by
      intro ac w q51 F52 q76 F77 q7 F8 u N β S o50 o75 o6 d113 d114 d115 hNN hBB
      rw [hW]
      refine WD.many (rs := [11, 12]) (by kernel_rfl) rfl (List.forall_mem_cons.2 ⟨?_, List.forall_mem_cons.2 ⟨?_, List.forall_mem_nil _⟩⟩)
      · refine S.stepq (i := 11) (keep := [1, 2, 16]) (m := 2) (σ' := ⟨[(1, .p 0 0), (2, .p 1 0), (16, .v (GT.val (⟨h.mem, ([] : List TMon), (([] : List TEntry) ++ h.buf), (([] : List TEntry) ++ h.iobuf)⟩ : THost) (⟨q7, (GT.pdflt (α := List TMon)), q51, q76⟩ : PHost)))], [GT.cells h ph, Zc THost]⟩) (.cons (Q_sem (s := Instr.build 31 [(0, slv (h.mem).length q7.1), (2, slv ((([] : List TEntry) ++ h.buf)).length q51.1), (3, slv ((([] : List TEntry) ++ h.iobuf)).length q76.1)].toArray) (v := .agg [slv (h.mem).length q7.1, slv (([] : List TMon)).length (GT.pdflt (α := List TMon)).1, slv ((([] : List TEntry) ++ h.buf)).length q51.1, slv ((([] : List TEntry) ++ h.iobuf)).length q76.1].toArray) (fun w => by kernel_rfl)) .nil) (by kernel_rfl) ?_
        clear S; intro ac w β S hβ
        have hB2 := fun k (hk : k < 2) => (hβ k (Nat.lt_of_lt_of_le hk (Nat.le_of_ble_eq_true rfl))).trans (hBB k hk)
        refine WD.stayK S (fun b h => ⟨(hNN b h).1, (hNN b h).2⟩) hB2 (fun _ _ h => h) ?_
        clear hβ
        exact WD.ofW hW (by kernel_rfl) (hK104 ac w q51 F52 q76 F77 q7 F8 _ _ _ (S.prune (keep := [1, 2, 16]) (m := 2) (by kernel_rfl)) o50 o75 o6 d113 d114 d115 hNN hB2)
      · refine S.stepq (i := 12) (keep := [1, 2, 3, 7, 11, 15]) (m := 3) (σ' := ⟨[(1, .p 0 0), (2, .p 1 0), (3, .p 2 0), (7, .v (slv (h.mem).length q7.1)), (11, .v (slv ((([] : List TEntry) ++ h.buf)).length q51.1)), (15, .v (slv ((([] : List TEntry) ++ h.iobuf)).length q76.1))], [GT.cells h ph, Zc THost, Zc THost]⟩) .nil (by kernel_rfl) ?_
        clear S; intro ac w β S hβ
        have hB2 := fun k (hk : k < 2) => (hβ k (Nat.lt_of_lt_of_le hk (Nat.le_of_ble_eq_true rfl))).trans (hBB k hk)
        refine WD.stayK S (fun b h => ⟨(hNN b h).1, (hNN b h).2⟩) hB2 (bx_app rfl) ?_
        clear hβ
        exact WD.ofW hW (by kernel_rfl) (hK108 ac w q51 F52 q76 F77 q7 F8 _ _ _ (S.prune (keep := [1, 2, 3, 7, 11, 15]) (m := 3) (by kernel_rfl)) o50 o75 o6 d113 d114 d115 hNN hB2)
    have hK116 : ∀ (ac : Act) (w : World) (q51 : GT.Ptr (List TEntry)) (F52 : Bl) (q23 : GT.Ptr (List TEntry)) (F24 : Bl) (q7 : GT.Ptr (List (List Int))) (F8 : Bl) (u : World) (N : Bl) (β : Nat → Nat) (S : St Tryz.prog Tryz.f18.ntmps w0 NoB u N β ⟨[(1, .p 0 0), (2, .p 1 0), (3, .p 2 0), (7, .v (slv (h.mem).length q7.1)), (11, .v (slv ((([] : List TEntry) ++ h.buf)).length q51.1)), (12, .v (slv 0 q23.1)), (14, .v (slv (h.iobuf).length ph.iobuf.1))], [GT.cells h ph, Zc THost, Zc THost]⟩ ac w) (o50 : Ow w0 NoB u N F52 (([] : List TEntry) ++ h.buf) q51) (o22 : Ow w0 NoB u N F24 ([] : List TEntry) q23) (o6 : Ow w0 NoB u N F8 h.mem q7) (d117 : Disj F52 F24) (d118 : Disj F52 F8) (d119 : Disj F24 F8) (hNN : ∀ b, N0 b → N b ∧ u.heap[b]? = u0.heap[b]? ∧ ¬ F24 b) (hBB : ∀ k, k < 2 → β k = β0 k), W 3 (mkL 14 [0, 1, 2, 3, 4, 5, 6, 7, 8, 9, 12]) ac w := by
      intro ac w q51 F52 q23 F24 q7 F8 u N β S o50 o22 o6 d117 d118 d119 hNN hBB
      rw [hW]
      refine WD.one (i := 10) (by kernel_rfl) ?_
      have b124 : (h.iobuf).length ≤ 4194304 := LRd.le (RHost.iobuf (d := h) (S.arg hh))
      refine id (S.appFlat (α := TEntry) o22 ((RHost.iobuf (d := h) (S.arg hh))) (fun _ _ h => h) (by' := 32) (d := 15) (lx := 0) (ly := (h.iobuf).length) rfl rfl (by kernel_rfl) (show _ ≤ 4194304 by simp only [List.length_append, List.length_cons, List.length_nil]; omega) ?_)
      clear S; intro ac w N q120 F121 S up o122 d123
      have hb125 := fun b h => (⟨(up b (hNN b h).1 (hNN b h).2.2).1, (up b (hNN b h).1 (hNN b h).2.2).2.trans (hNN b h).2.1⟩ : _ ∧ _)
      refine WD.stayK S (fun b h => ⟨(hb125 b h).1, (hb125 b h).2⟩) hBB (bx_app rfl) ?_
      have d126 : Disj F8 F121 := d123 _ (Disj.symm d119) o6.sub
      have d127 : Disj F52 F121 := d123 _ d117 o50.sub
      replace o6 := o6.upF (Disj.symm d119) up
      replace o50 := o50.upF d117 up
      clear up d123
      exact WD.ofW hW (by kernel_rfl) (hK108 ac w q51 F52 q120 F121 q7 F8 _ _ _ (S.prune (keep := [1, 2, 3, 7, 11, 15]) (m := 3) (by kernel_rfl)) o50 o122 o6 d127 d118 (Disj.symm d126) hb125 hBB)
    have hK128 : ∀ (ac : Act) (w : World) (q51 : GT.Ptr (List TEntry)) (F52 : Bl) (q23 : GT.Ptr (List TEntry)) (F24 : Bl) (q7 : GT.Ptr (List (List Int))) (F8 : Bl) (u : World) (N : Bl) (β : Nat → Nat) (S : St Tryz.prog Tryz.f18.ntmps w0 NoB u N β ⟨[(1, .p 0 0), (2, .p 1 0), (7, .v (slv (h.mem).length q7.1)), (11, .v (slv ((([] : List TEntry) ++ h.buf)).length q51.1)), (12, .v (slv 0 q23.1)), (14, .v (slv (h.iobuf).length ph.iobuf.1))], [GT.cells h ph, Zc THost]⟩ ac w) (o50 : Ow w0 NoB u N F52 (([] : List TEntry) ++ h.buf) q51) (o22 : Ow w0 NoB u N F24 ([] : List TEntry) q23) (o6 : Ow w0 NoB u N F8 h.mem q7) (d129 : Disj F52 F24) (d130 : Disj F52 F8) (d131 : Disj F24 F8) (hNN : ∀ b, N0 b → N b ∧ u.heap[b]? = u0.heap[b]? ∧ ¬ F24 b) (hBB : ∀ k, k < 2 → β k = β0 k), W 4 (mkL 14 [0, 1, 2, 3, 4, 5, 6, 7, 8, 9]) ac w := by
      intro ac w q51 F52 q23 F24 q7 F8 u N β S o50 o22 o6 d129 d130 d131 hNN hBB
      rw [hW]
      refine WD.many (rs := [10, 12]) (by kernel_rfl) rfl (List.forall_mem_cons.2 ⟨?_, List.forall_mem_cons.2 ⟨?_, List.forall_mem_nil _⟩⟩)
      · have b136 : (h.iobuf).length ≤ 4194304 := LRd.le (RHost.iobuf (d := h) (S.arg hh))
        refine id (S.appFlat (α := TEntry) o22 ((RHost.iobuf (d := h) (S.arg hh))) (fun _ _ h => h) (by' := 32) (d := 15) (lx := 0) (ly := (h.iobuf).length) rfl rfl (by kernel_rfl) (show _ ≤ 4194304 by simp only [List.length_append, List.length_cons, List.length_nil]; omega) ?_)
        clear S; intro ac w N q132 F133 S up o134 d135
        have hb137 := fun b h => (⟨(up b (hNN b h).1 (hNN b h).2.2).1, (up b (hNN b h).1 (hNN b h).2.2).2.trans (hNN b h).2.1⟩ : _ ∧ _)
        refine WD.stayK S (fun b h => ⟨(hb137 b h).1, (hb137 b h).2⟩) hBB (fun _ _ h => h) ?_
        have d138 : Disj F8 F133 := d135 _ (Disj.symm d131) o6.sub
        have d139 : Disj F52 F133 := d135 _ d129 o50.sub
        replace o6 := o6.upF (Disj.symm d131) up
        replace o50 := o50.upF d129 up
        clear up d135
        exact WD.ofW hW (by kernel_rfl) (hK112 ac w q51 F52 q132 F133 q7 F8 _ _ _ (S.prune (keep := [1, 2, 7, 11, 15]) (m := 2) (by kernel_rfl)) o50 o134 o6 d139 d130 (Disj.symm d138) hb137 hBB)
      · refine S.stepq (i := 12) (keep := [1, 2, 3, 7, 11, 12, 14]) (m := 3) (σ' := ⟨[(1, .p 0 0), (2, .p 1 0), (3, .p 2 0), (7, .v (slv (h.mem).length q7.1)), (11, .v (slv ((([] : List TEntry) ++ h.buf)).length q51.1)), (12, .v (slv 0 q23.1)), (14, .v (slv (h.iobuf).length ph.iobuf.1))], [GT.cells h ph, Zc THost, Zc THost]⟩) .nil (by kernel_rfl) ?_
        clear S; intro ac w β S hβ
        have hB2 := fun k (hk : k < 2) => (hβ k (Nat.lt_of_lt_of_le hk (Nat.le_of_ble_eq_true rfl))).trans (hBB k hk)
        refine WD.stayK S (fun b h => ⟨(hNN b h).1, (hNN b h).2.1⟩) hB2 (bx_app rfl) ?_
        clear hβ
        exact WD.ofW hW (by kernel_rfl) (hK116 ac w q51 F52 q23 F24 q7 F8 _ _ _ (S.prune (keep := [1, 2, 3, 7, 11, 12, 14]) (m := 3) (by kernel_rfl)) o50 o22 o6 d129 d130 d131 hNN hB2)
    have hK140 : ∀ (ac : Act) (w : World) (q51 : GT.Ptr (List TEntry)) (F52 : Bl) (q7 : GT.Ptr (List (List Int))) (F8 : Bl) (u : World) (N : Bl) (β : Nat → Nat) (S : St Tryz.prog Tryz.f18.ntmps w0 NoB u N β ⟨[(1, .p 0 0), (2, .p 1 0), (3, .p 2 0), (7, .v (slv (h.mem).length q7.1)), (11, .v (slv ((([] : List TEntry) ++ h.buf)).length q51.1)), (14, .v (slv (h.iobuf).length ph.iobuf.1))], [GT.cells h ph, Zc THost, Zc THost]⟩ ac w) (o50 : Ow w0 NoB u N F52 (([] : List TEntry) ++ h.buf) q51) (o6 : Ow w0 NoB u N F8 h.mem q7) (d141 : Disj F52 F8) (hNN : ∀ b, N0 b → N b ∧ u.heap[b]? = u0.heap[b]?) (hBB : ∀ k, k < 2 → β k = β0 k), W 4 (mkL 14 [0, 1, 2, 3, 4, 5, 6, 8, 9, 12]) ac w := by
      intro ac w q51 F52 q7 F8 u N β S o50 o6 d141 hNN hBB
      rw [hW]
      refine WD.one (i := 7) (by kernel_rfl) ?_
      refine id (S.bs0 (α := TEntry) (d := 12) (by kernel_rfl) ?_)
      clear S; intro ac w N q142 F143 S up o144 d145
      have hb146 := fun b h => (⟨(up b (hNN b h).1).1, (up b (hNN b h).1).2.trans (hNN b h).2, d145 b (hNN b h).1⟩ : _ ∧ _ ∧ _)
      refine WD.stayK S (fun b h => ⟨(hb146 b h).1, (hb146 b h).2.1⟩) hBB (bx_app rfl) ?_
      have d147 : Disj F8 F143 := fun b x y => d145 b (o6.sub b x) y
      have d148 : Disj F52 F143 := fun b x y => d145 b (o50.sub b x) y
      replace o6 := o6.up up
      replace o50 := o50.up up
      clear up d145
      exact WD.ofW hW (by kernel_rfl) (hK116 ac w q51 F52 q142 F143 q7 F8 _ _ _ (S.prune (keep := [1, 2, 3, 7, 11, 12, 14]) (m := 3) (by kernel_rfl)) o50 o144 o6 d148 d141 (Disj.symm d147) hb146 hBB)
    have hK149 : ∀ (ac : Act) (w : World) (q23 : GT.Ptr (List TEntry)) (F24 : Bl) (q7 : GT.Ptr (List (List Int))) (F8 : Bl) (q15 : GT.Ptr (List TEntry)) (F16 : Bl) (u : World) (N : Bl) (β : Nat → Nat) (S : St Tryz.prog Tryz.f18.ntmps w0 NoB u N β ⟨[(1, .p 0 0), (2, .p 1 0), (3, .p 2 0), (7, .v (slv (h.mem).length q7.1)), (8, .v (slv 0 q15.1)), (10, .v (slv (h.buf).length ph.buf.1)), (12, .v (slv 0 q23.1)), (14, .v (slv (h.iobuf).length ph.iobuf.1))], [GT.cells h ph, Zc THost, Zc THost]⟩ ac w) (o22 : Ow w0 NoB u N F24 ([] : List TEntry) q23) (o6 : Ow w0 NoB u N F8 h.mem q7) (o14 : Ow w0 NoB u N F16 ([] : List TEntry) q15) (d150 : Disj F24 F8) (d151 : Disj F24 F16) (d152 : Disj F8 F16) (hNN : ∀ b, N0 b → N b ∧ u.heap[b]? = u0.heap[b]? ∧ ¬ F16 b ∧ ¬ F24 b) (hBB : ∀ k, k < 2 → β k = β0 k), W 4 (mkL 14 [0, 1, 2, 3, 4, 5, 7, 8, 9, 12]) ac w := by
      intro ac w q23 F24 q7 F8 q15 F16 u N β S o22 o6 o14 d150 d151 d152 hNN hBB
      rw [hW]
      refine WD.one (i := 6) (by kernel_rfl) ?_
      have b157 : (h.buf).length ≤ 4194304 := LRd.le (RHost.buf (d := h) (S.arg hh))
      refine id (S.appFlat (α := TEntry) o14 ((RHost.buf (d := h) (S.arg hh))) (fun _ _ h => h) (by' := 32) (d := 11) (lx := 0) (ly := (h.buf).length) rfl rfl (by kernel_rfl) (show _ ≤ 4194304 by simp only [List.length_append, List.length_cons, List.length_nil]; omega) ?_)
      clear S; intro ac w N q153 F154 S up o155 d156
      have hb158 := fun b h => (⟨(up b (hNN b h).1 (hNN b h).2.2.1).1, (up b (hNN b h).1 (hNN b h).2.2.1).2.trans (hNN b h).2.1, (hNN b h).2.2.2⟩ : _ ∧ _ ∧ _)
      refine WD.stayK S (fun b h => ⟨(hb158 b h).1, (hb158 b h).2.1⟩) hBB (bx_app rfl) ?_
      have d159 : Disj F8 F154 := d156 _ d152 o6.sub
      have d160 : Disj F24 F154 := d156 _ d151 o22.sub
      replace o6 := o6.upF d152 up
      replace o22 := o22.upF d151 up
      clear up d156
      exact WD.ofW hW (by kernel_rfl) (hK116 ac w q153 F154 q23 F24 q7 F8 _ _ _ (S.prune (keep := [1, 2, 3, 7, 11, 12, 14]) (m := 3) (by kernel_rfl)) o155 o22 o6 (Disj.symm d160) (Disj.symm d159) d150 hb158 hBB)
    have hK161 : ∀ (ac : Act) (w : World) (q51 : GT.Ptr (List TEntry)) (F52 : Bl) (q7 : GT.Ptr (List (List Int))) (F8 : Bl) (u : World) (N : Bl) (β : Nat → Nat) (S : St Tryz.prog Tryz.f18.ntmps w0 NoB u N β ⟨[(1, .p 0 0), (2, .p 1 0), (7, .v (slv (h.mem).length q7.1)), (11, .v (slv ((([] : List TEntry) ++ h.buf)).length q51.1)), (14, .v (slv (h.iobuf).length ph.iobuf.1))], [GT.cells h ph, Zc THost]⟩ ac w) (o50 : Ow w0 NoB u N F52 (([] : List TEntry) ++ h.buf) q51) (o6 : Ow w0 NoB u N F8 h.mem q7) (d162 : Disj F52 F8) (hNN : ∀ b, N0 b → N b ∧ u.heap[b]? = u0.heap[b]?) (hBB : ∀ k, k < 2 → β k = β0 k), W 5 (mkL 14 [0, 1, 2, 3, 4, 5, 6, 8, 9]) ac w := by
      intro ac w q51 F52 q7 F8 u N β S o50 o6 d162 hNN hBB
      rw [hW]
      refine WD.many (rs := [7, 12]) (by kernel_rfl) rfl (List.forall_mem_cons.2 ⟨?_, List.forall_mem_cons.2 ⟨?_, List.forall_mem_nil _⟩⟩)
      · refine id (S.bs0 (α := TEntry) (d := 12) (by kernel_rfl) ?_)
        clear S; intro ac w N q163 F164 S up o165 d166
        have hb167 := fun b h => (⟨(up b (hNN b h).1).1, (up b (hNN b h).1).2.trans (hNN b h).2, d166 b (hNN b h).1⟩ : _ ∧ _ ∧ _)
        refine WD.stayK S (fun b h => ⟨(hb167 b h).1, (hb167 b h).2.1⟩) hBB (fun _ _ h => h) ?_
        have d168 : Disj F8 F164 := fun b x y => d166 b (o6.sub b x) y
        have d169 : Disj F52 F164 := fun b x y => d166 b (o50.sub b x) y
        replace o6 := o6.up up
        replace o50 := o50.up up
        clear up d166
        exact WD.ofW hW (by kernel_rfl) (hK128 ac w q51 F52 q163 F164 q7 F8 _ _ _ (S.prune (keep := [1, 2, 7, 11, 12, 14]) (m := 2) (by kernel_rfl)) o50 o165 o6 d169 d162 (Disj.symm d168) hb167 hBB)
      · refine S.stepq (i := 12) (keep := [1, 2, 3, 7, 11, 14]) (m := 3) (σ' := ⟨[(1, .p 0 0), (2, .p 1 0), (3, .p 2 0), (7, .v (slv (h.mem).length q7.1)), (11, .v (slv ((([] : List TEntry) ++ h.buf)).length q51.1)), (14, .v (slv (h.iobuf).length ph.iobuf.1))], [GT.cells h ph, Zc THost, Zc THost]⟩) .nil (by kernel_rfl) ?_
        clear S; intro ac w β S hβ
        have hB2 := fun k (hk : k < 2) => (hβ k (Nat.lt_of_lt_of_le hk (Nat.le_of_ble_eq_true rfl))).trans (hBB k hk)
        refine WD.stayK S (fun b h => ⟨(hNN b h).1, (hNN b h).2⟩) hB2 (bx_app rfl) ?_
        clear hβ
        exact WD.ofW hW (by kernel_rfl) (hK140 ac w q51 F52 q7 F8 _ _ _ (S.prune (keep := [1, 2, 3, 7, 11, 14]) (m := 3) (by kernel_rfl)) o50 o6 d162 hNN hB2)
    have hK170 : ∀ (ac : Act) (w : World) (q23 : GT.Ptr (List TEntry)) (F24 : Bl) (q7 : GT.Ptr (List (List Int))) (F8 : Bl) (q15 : GT.Ptr (List TEntry)) (F16 : Bl) (u : World) (N : Bl) (β : Nat → Nat) (S : St Tryz.prog Tryz.f18.ntmps w0 NoB u N β ⟨[(1, .p 0 0), (2, .p 1 0), (7, .v (slv (h.mem).length q7.1)), (8, .v (slv 0 q15.1)), (10, .v (slv (h.buf).length ph.buf.1)), (12, .v (slv 0 q23.1)), (14, .v (slv (h.iobuf).length ph.iobuf.1))], [GT.cells h ph, Zc THost]⟩ ac w) (o22 : Ow w0 NoB u N F24 ([] : List TEntry) q23) (o6 : Ow w0 NoB u N F8 h.mem q7) (o14 : Ow w0 NoB u N F16 ([] : List TEntry) q15) (d171 : Disj F24 F8) (d172 : Disj F24 F16) (d173 : Disj F8 F16) (hNN : ∀ b, N0 b → N b ∧ u.heap[b]? = u0.heap[b]? ∧ ¬ F16 b ∧ ¬ F24 b) (hBB : ∀ k, k < 2 → β k = β0 k), W 5 (mkL 14 [0, 1, 2, 3, 4, 5, 7, 8, 9]) ac w := by
      intro ac w q23 F24 q7 F8 q15 F16 u N β S o22 o6 o14 d171 d172 d173 hNN hBB
      rw [hW]
      refine WD.many (rs := [6, 12]) (by kernel_rfl) rfl (List.forall_mem_cons.2 ⟨?_, List.forall_mem_cons.2 ⟨?_, List.forall_mem_nil _⟩⟩)
      · have b178 : (h.buf).length ≤ 4194304 := LRd.le (RHost.buf (d := h) (S.arg hh))
        refine id (S.appFlat (α := TEntry) o14 ((RHost.buf (d := h) (S.arg hh))) (fun _ _ h => h) (by' := 32) (d := 11) (lx := 0) (ly := (h.buf).length) rfl rfl (by kernel_rfl) (show _ ≤ 4194304 by simp only [List.length_append, List.length_cons, List.length_nil]; omega) ?_)
        clear S; intro ac w N q174 F175 S up o176 d177
        have hb179 := fun b h => (⟨(up b (hNN b h).1 (hNN b h).2.2.1).1, (up b (hNN b h).1 (hNN b h).2.2.1).2.trans (hNN b h).2.1, (hNN b h).2.2.2⟩ : _ ∧ _ ∧ _)
        refine WD.stayK S (fun b h => ⟨(hb179 b h).1, (hb179 b h).2.1⟩) hBB (fun _ _ h => h) ?_
        have d180 : Disj F8 F175 := d177 _ d173 o6.sub
        have d181 : Disj F24 F175 := d177 _ d172 o22.sub
        replace o6 := o6.upF d173 up
        replace o22 := o22.upF d172 up
        clear up d177
        exact WD.ofW hW (by kernel_rfl) (hK128 ac w q174 F175 q23 F24 q7 F8 _ _ _ (S.prune (keep := [1, 2, 7, 11, 12, 14]) (m := 2) (by kernel_rfl)) o176 o22 o6 (Disj.symm d181) (Disj.symm d180) d171 hb179 hBB)
      · refine S.stepq (i := 12) (keep := [1, 2, 3, 7, 8, 10, 12, 14]) (m := 3) (σ' := ⟨[(1, .p 0 0), (2, .p 1 0), (3, .p 2 0), (7, .v (slv (h.mem).length q7.1)), (8, .v (slv 0 q15.1)), (10, .v (slv (h.buf).length ph.buf.1)), (12, .v (slv 0 q23.1)), (14, .v (slv (h.iobuf).length ph.iobuf.1))], [GT.cells h ph, Zc THost, Zc THost]⟩) .nil (by kernel_rfl) ?_
        clear S; intro ac w β S hβ
        have hB2 := fun k (hk : k < 2) => (hβ k (Nat.lt_of_lt_of_le hk (Nat.le_of_ble_eq_true rfl))).trans (hBB k hk)
        refine WD.stayK S (fun b h => ⟨(hNN b h).1, (hNN b h).2.1⟩) hB2 (bx_app rfl) ?_
        clear hβ
        exact WD.ofW hW (by kernel_rfl) (hK149 ac w q23 F24 q7 F8 q15 F16 _ _ _ (S.prune (keep := [1, 2, 3, 7, 8, 10, 12, 14]) (m := 3) (by kernel_rfl)) o22 o6 o14 d171 d172 d173 hNN hB2)
    have hK182 : ∀ (ac : Act) (w : World) (q7 : GT.Ptr (List (List Int))) (F8 : Bl) (q15 : GT.Ptr (List TEntry)) (F16 : Bl) (u : World) (N : Bl) (β : Nat → Nat) (S : St Tryz.prog Tryz.f18.ntmps w0 NoB u N β ⟨[(1, .p 0 0), (2, .p 1 0), (3, .p 2 0), (7, .v (slv (h.mem).length q7.1)), (8, .v (slv 0 q15.1)), (10, .v (slv (h.buf).length ph.buf.1)), (14, .v (slv (h.iobuf).length ph.iobuf.1))], [GT.cells h ph, Zc THost, Zc THost]⟩ ac w) (o6 : Ow w0 NoB u N F8 h.mem q7) (o14 : Ow w0 NoB u N F16 ([] : List TEntry) q15) (d183 : Disj F8 F16) (hNN : ∀ b, N0 b → N b ∧ u.heap[b]? = u0.heap[b]? ∧ ¬ F16 b) (hBB : ∀ k, k < 2 → β k = β0 k), W 5 (mkL 14 [0, 1, 2, 3, 4, 5, 8, 9, 12]) ac w := by
      intro ac w q7 F8 q15 F16 u N β S o6 o14 d183 hNN hBB
      rw [hW]
      refine WD.many (rs := [6, 7]) (by kernel_rfl) rfl (List.forall_mem_cons.2 ⟨?_, List.forall_mem_cons.2 ⟨?_, List.forall_mem_nil _⟩⟩)
      · have b188 : (h.buf).length ≤ 4194304 := LRd.le (RHost.buf (d := h) (S.arg hh))
        refine id (S.appFlat (α := TEntry) o14 ((RHost.buf (d := h) (S.arg hh))) (fun _ _ h => h) (by' := 32) (d := 11) (lx := 0) (ly := (h.buf).length) rfl rfl (by kernel_rfl) (show _ ≤ 4194304 by simp only [List.length_append, List.length_cons, List.length_nil]; omega) ?_)
        clear S; intro ac w N q184 F185 S up o186 d187
        have hb189 := fun b h => (⟨(up b (hNN b h).1 (hNN b h).2.2).1, (up b (hNN b h).1 (hNN b h).2.2).2.trans (hNN b h).2.1⟩ : _ ∧ _)
        refine WD.stayK S (fun b h => ⟨(hb189 b h).1, (hb189 b h).2⟩) hBB (bx_app rfl) ?_
        have d190 : Disj F8 F185 := d187 _ d183 o6.sub
        replace o6 := o6.upF d183 up
        clear up d187
        exact WD.ofW hW (by kernel_rfl) (hK140 ac w q184 F185 q7 F8 _ _ _ (S.prune (keep := [1, 2, 3, 7, 11, 14]) (m := 3) (by kernel_rfl)) o186 o6 (Disj.symm d190) hb189 hBB)
      · refine id (S.bs0 (α := TEntry) (d := 12) (by kernel_rfl) ?_)
        clear S; intro ac w N q191 F192 S up o193 d194
        have hb195 := fun b h => (⟨(up b (hNN b h).1).1, (up b (hNN b h).1).2.trans (hNN b h).2.1, (hNN b h).2.2, d194 b (hNN b h).1⟩ : _ ∧ _ ∧ _ ∧ _)
        refine WD.stayK S (fun b h => ⟨(hb195 b h).1, (hb195 b h).2.1⟩) hBB (bx_app rfl) ?_
        have d196 : Disj F8 F192 := fun b x y => d194 b (o6.sub b x) y
        have d197 : Disj F16 F192 := fun b x y => d194 b (o14.sub b x) y
        replace o6 := o6.up up
        replace o14 := o14.up up
        clear up d194
        exact WD.ofW hW (by kernel_rfl) (hK149 ac w q191 F192 q7 F8 q15 F16 _ _ _ (S.prune (keep := [1, 2, 3, 7, 8, 10, 12, 14]) (m := 3) (by kernel_rfl)) o193 o6 o14 (Disj.symm d196) (Disj.symm d197) d183 hb195 hBB)
    have hK198 : ∀ (ac : Act) (w : World) (q23 : GT.Ptr (List TEntry)) (F24 : Bl) (q7 : GT.Ptr (List (List Int))) (F8 : Bl) (u : World) (N : Bl) (β : Nat → Nat) (S : St Tryz.prog Tryz.f18.ntmps w0 NoB u N β ⟨[(1, .p 0 0), (2, .p 1 0), (3, .p 2 0), (7, .v (slv (h.mem).length q7.1)), (10, .v (slv (h.buf).length ph.buf.1)), (12, .v (slv 0 q23.1)), (14, .v (slv (h.iobuf).length ph.iobuf.1))], [GT.cells h ph, Zc THost, Zc THost]⟩ ac w) (o22 : Ow w0 NoB u N F24 ([] : List TEntry) q23) (o6 : Ow w0 NoB u N F8 h.mem q7) (d199 : Disj F24 F8) (hNN : ∀ b, N0 b → N b ∧ u.heap[b]? = u0.heap[b]? ∧ ¬ F24 b) (hBB : ∀ k, k < 2 → β k = β0 k), W 5 (mkL 14 [0, 1, 2, 4, 5, 7, 8, 9, 12]) ac w := by
      intro ac w q23 F24 q7 F8 u N β S o22 o6 d199 hNN hBB
      rw [hW]
      refine WD.one (i := 3) (by kernel_rfl) ?_
      refine id (S.bs0 (α := TEntry) (d := 8) (by kernel_rfl) ?_)
      clear S; intro ac w N q200 F201 S up o202 d203
      have hb204 := fun b h => (⟨(up b (hNN b h).1).1, (up b (hNN b h).1).2.trans (hNN b h).2.1, d203 b (hNN b h).1, (hNN b h).2.2⟩ : _ ∧ _ ∧ _ ∧ _)
      refine WD.stayK S (fun b h => ⟨(hb204 b h).1, (hb204 b h).2.1⟩) hBB (bx_app rfl) ?_
      have d205 : Disj F8 F201 := fun b x y => d203 b (o6.sub b x) y
      have d206 : Disj F24 F201 := fun b x y => d203 b (o22.sub b x) y
      replace o6 := o6.up up
      replace o22 := o22.up up
      clear up d203
      exact WD.ofW hW (by kernel_rfl) (hK149 ac w q23 F24 q7 F8 q200 F201 _ _ _ (S.prune (keep := [1, 2, 3, 7, 8, 10, 12, 14]) (m := 3) (by kernel_rfl)) o22 o6 o202 d199 d206 d205 hb204 hBB)
    have hK207 : ∀ (ac : Act) (w : World) (q23 : GT.Ptr (List TEntry)) (F24 : Bl) (q15 : GT.Ptr (List TEntry)) (F16 : Bl) (u : World) (N : Bl) (β : Nat → Nat) (S : St Tryz.prog Tryz.f18.ntmps w0 NoB u N β ⟨[(1, .p 0 0), (2, .p 1 0), (3, .p 2 0), (6, .v (slv (h.mem).length ph.mem.1)), (8, .v (slv 0 q15.1)), (10, .v (slv (h.buf).length ph.buf.1)), (12, .v (slv 0 q23.1)), (14, .v (slv (h.iobuf).length ph.iobuf.1))], [GT.cells h ph, Zc THost, Zc THost]⟩ ac w) (o22 : Ow w0 NoB u N F24 ([] : List TEntry) q23) (o14 : Ow w0 NoB u N F16 ([] : List TEntry) q15) (d208 : Disj F24 F16) (hNN : ∀ b, N0 b → N b ∧ u.heap[b]? = u0.heap[b]? ∧ ¬ F16 b ∧ ¬ F24 b) (hBB : ∀ k, k < 2 → β k = β0 k), W 5 (mkL 14 [0, 1, 3, 4, 5, 7, 8, 9, 12]) ac w := by
      intro ac w q23 F24 q15 F16 u N β S o22 o14 d208 hNN hBB
      rw [hW]
      refine WD.one (i := 2) (by kernel_rfl) ?_
      refine id (S.call1 (r := h.mem) (d := 7) (c_spec_l04Copy w h.mem ph.mem (S.rd (RHost.mem (d := h) (S.arg hh)))) (by kernel_rfl) rfl ?_)
      clear S; intro ac w N q209 F210 S up o211 d212
      have hb213 := fun b h => (⟨(up b (hNN b h).1).1, (up b (hNN b h).1).2.trans (hNN b h).2.1, (hNN b h).2.2.1, (hNN b h).2.2.2⟩ : _ ∧ _ ∧ _ ∧ _)
      refine WD.stayK S (fun b h => ⟨(hb213 b h).1, (hb213 b h).2.1⟩) hBB (bx_app rfl) ?_
      have d214 : Disj F16 F210 := fun b x y => d212 b (o14.sub b x) y
      have d215 : Disj F24 F210 := fun b x y => d212 b (o22.sub b x) y
      replace o14 := o14.up up
      replace o22 := o22.up up
      clear up d212
      exact WD.ofW hW (by kernel_rfl) (hK149 ac w q23 F24 q209 F210 q15 F16 _ _ _ (S.prune (keep := [1, 2, 3, 7, 8, 10, 12, 14]) (m := 3) (by kernel_rfl)) o22 o211 o14 d215 d208 (Disj.symm d214) hb213 hBB)
    have hK216 : ∀ (ac : Act) (w : World) (q7 : GT.Ptr (List (List Int))) (F8 : Bl) (q15 : GT.Ptr (List TEntry)) (F16 : Bl) (u : World) (N : Bl) (β : Nat → Nat) (S : St Tryz.prog Tryz.f18.ntmps w0 NoB u N β ⟨[(1, .p 0 0), (2, .p 1 0), (7, .v (slv (h.mem).length q7.1)), (8, .v (slv 0 q15.1)), (10, .v (slv (h.buf).length ph.buf.1)), (14, .v (slv (h.iobuf).length ph.iobuf.1))], [GT.cells h ph, Zc THost]⟩ ac w) (o6 : Ow w0 NoB u N F8 h.mem q7) (o14 : Ow w0 NoB u N F16 ([] : List TEntry) q15) (d217 : Disj F8 F16) (hNN : ∀ b, N0 b → N b ∧ u.heap[b]? = u0.heap[b]? ∧ ¬ F16 b) (hBB : ∀ k, k < 2 → β k = β0 k), W 6 (mkL 14 [0, 1, 2, 3, 4, 5, 8, 9]) ac w := by
      intro ac w q7 F8 q15 F16 u N β S o6 o14 d217 hNN hBB
      rw [hW]
      refine WD.many (rs := [6, 7, 12]) (by kernel_rfl) rfl (List.forall_mem_cons.2 ⟨?_, List.forall_mem_cons.2 ⟨?_, List.forall_mem_cons.2 ⟨?_, List.forall_mem_nil _⟩⟩⟩)
      · have b222 : (h.buf).length ≤ 4194304 := LRd.le (RHost.buf (d := h) (S.arg hh))
        refine id (S.appFlat (α := TEntry) o14 ((RHost.buf (d := h) (S.arg hh))) (fun _ _ h => h) (by' := 32) (d := 11) (lx := 0) (ly := (h.buf).length) rfl rfl (by kernel_rfl) (show _ ≤ 4194304 by simp only [List.length_append, List.length_cons, List.length_nil]; omega) ?_)
        clear S; intro ac w N q218 F219 S up o220 d221
        have hb223 := fun b h => (⟨(up b (hNN b h).1 (hNN b h).2.2).1, (up b (hNN b h).1 (hNN b h).2.2).2.trans (hNN b h).2.1⟩ : _ ∧ _)
        refine WD.stayK S (fun b h => ⟨(hb223 b h).1, (hb223 b h).2⟩) hBB (fun _ _ h => h) ?_
        have d224 : Disj F8 F219 := d221 _ d217 o6.sub
        replace o6 := o6.upF d217 up
        clear up d221
        exact WD.ofW hW (by kernel_rfl) (hK161 ac w q218 F219 q7 F8 _ _ _ (S.prune (keep := [1, 2, 7, 11, 14]) (m := 2) (by kernel_rfl)) o220 o6 (Disj.symm d224) hb223 hBB)
      · refine id (S.bs0 (α := TEntry) (d := 12) (by kernel_rfl) ?_)
        clear S; intro ac w N q225 F226 S up o227 d228
        have hb229 := fun b h => (⟨(up b (hNN b h).1).1, (up b (hNN b h).1).2.trans (hNN b h).2.1, (hNN b h).2.2, d228 b (hNN b h).1⟩ : _ ∧ _ ∧ _ ∧ _)
        refine WD.stayK S (fun b h => ⟨(hb229 b h).1, (hb229 b h).2.1⟩) hBB (fun _ _ h => h) ?_
        have d230 : Disj F8 F226 := fun b x y => d228 b (o6.sub b x) y
        have d231 : Disj F16 F226 := fun b x y => d228 b (o14.sub b x) y
        replace o6 := o6.up up
        replace o14 := o14.up up
        clear up d228
        exact WD.ofW hW (by kernel_rfl) (hK170 ac w q225 F226 q7 F8 q15 F16 _ _ _ (S.prune (keep := [1, 2, 7, 8, 10, 12, 14]) (m := 2) (by kernel_rfl)) o227 o6 o14 (Disj.symm d230) (Disj.symm d231) d217 hb229 hBB)
      · refine S.stepq (i := 12) (keep := [1, 2, 3, 7, 8, 10, 14]) (m := 3) (σ' := ⟨[(1, .p 0 0), (2, .p 1 0), (3, .p 2 0), (7, .v (slv (h.mem).length q7.1)), (8, .v (slv 0 q15.1)), (10, .v (slv (h.buf).length ph.buf.1)), (14, .v (slv (h.iobuf).length ph.iobuf.1))], [GT.cells h ph, Zc THost, Zc THost]⟩) .nil (by kernel_rfl) ?_
        clear S; intro ac w β S hβ
        have hB2 := fun k (hk : k < 2) => (hβ k (Nat.lt_of_lt_of_le hk (Nat.le_of_ble_eq_true rfl))).trans (hBB k hk)
        refine WD.stayK S (fun b h => ⟨(hNN b h).1, (hNN b h).2.1⟩) hB2 (bx_app rfl) ?_
        clear hβ
        exact WD.ofW hW (by kernel_rfl) (hK182 ac w q7 F8 q15 F16 _ _ _ (S.prune (keep := [1, 2, 3, 7, 8, 10, 14]) (m := 3) (by kernel_rfl)) o6 o14 d217 hNN hB2)
    have hK232 : ∀ (ac : Act) (w : World) (q23 : GT.Ptr (List TEntry)) (F24 : Bl) (q7 : GT.Ptr (List (List Int))) (F8 : Bl) (u : World) (N : Bl) (β : Nat → Nat) (S : St Tryz.prog Tryz.f18.ntmps w0 NoB u N β ⟨[(1, .p 0 0), (2, .p 1 0), (7, .v (slv (h.mem).length q7.1)), (10, .v (slv (h.buf).length ph.buf.1)), (12, .v (slv 0 q23.1)), (14, .v (slv (h.iobuf).length ph.iobuf.1))], [GT.cells h ph, Zc THost]⟩ ac w) (o22 : Ow w0 NoB u N F24 ([] : List TEntry) q23) (o6 : Ow w0 NoB u N F8 h.mem q7) (d233 : Disj F24 F8) (hNN : ∀ b, N0 b → N b ∧ u.heap[b]? = u0.heap[b]? ∧ ¬ F24 b) (hBB : ∀ k, k < 2 → β k = β0 k), W 6 (mkL 14 [0, 1, 2, 4, 5, 7, 8, 9]) ac w := by
      intro ac w q23 F24 q7 F8 u N β S o22 o6 d233 hNN hBB
      rw [hW]
      refine WD.many (rs := [3, 12]) (by kernel_rfl) rfl (List.forall_mem_cons.2 ⟨?_, List.forall_mem_cons.2 ⟨?_, List.forall_mem_nil _⟩⟩)
      · refine id (S.bs0 (α := TEntry) (d := 8) (by kernel_rfl) ?_)
        clear S; intro ac w N q234 F235 S up o236 d237
        have hb238 := fun b h => (⟨(up b (hNN b h).1).1, (up b (hNN b h).1).2.trans (hNN b h).2.1, d237 b (hNN b h).1, (hNN b h).2.2⟩ : _ ∧ _ ∧ _ ∧ _)
        refine WD.stayK S (fun b h => ⟨(hb238 b h).1, (hb238 b h).2.1⟩) hBB (fun _ _ h => h) ?_
        have d239 : Disj F8 F235 := fun b x y => d237 b (o6.sub b x) y
        have d240 : Disj F24 F235 := fun b x y => d237 b (o22.sub b x) y
        replace o6 := o6.up up
        replace o22 := o22.up up
        clear up d237
        exact WD.ofW hW (by kernel_rfl) (hK170 ac w q23 F24 q7 F8 q234 F235 _ _ _ (S.prune (keep := [1, 2, 7, 8, 10, 12, 14]) (m := 2) (by kernel_rfl)) o22 o6 o236 d233 d240 d239 hb238 hBB)
      · refine S.stepq (i := 12) (keep := [1, 2, 3, 7, 10, 12, 14]) (m := 3) (σ' := ⟨[(1, .p 0 0), (2, .p 1 0), (3, .p 2 0), (7, .v (slv (h.mem).length q7.1)), (10, .v (slv (h.buf).length ph.buf.1)), (12, .v (slv 0 q23.1)), (14, .v (slv (h.iobuf).length ph.iobuf.1))], [GT.cells h ph, Zc THost, Zc THost]⟩) .nil (by kernel_rfl) ?_
        clear S; intro ac w β S hβ
        have hB2 := fun k (hk : k < 2) => (hβ k (Nat.lt_of_lt_of_le hk (Nat.le_of_ble_eq_true rfl))).trans (hBB k hk)
        refine WD.stayK S (fun b h => ⟨(hNN b h).1, (hNN b h).2.1⟩) hB2 (bx_app rfl) ?_
        clear hβ
        exact WD.ofW hW (by kernel_rfl) (hK198 ac w q23 F24 q7 F8 _ _ _ (S.prune (keep := [1, 2, 3, 7, 10, 12, 14]) (m := 3) (by kernel_rfl)) o22 o6 d233 hNN hB2)
    have hK241 : ∀ (ac : Act) (w : World) (q7 : GT.Ptr (List (List Int))) (F8 : Bl) (u : World) (N : Bl) (β : Nat → Nat) (S : St Tryz.prog Tryz.f18.ntmps w0 NoB u N β ⟨[(1, .p 0 0), (2, .p 1 0), (3, .p 2 0), (7, .v (slv (h.mem).length q7.1)), (10, .v (slv (h.buf).length ph.buf.1)), (14, .v (slv (h.iobuf).length ph.iobuf.1))], [GT.cells h ph, Zc THost, Zc THost]⟩ ac w) (o6 : Ow w0 NoB u N F8 h.mem q7) (hNN : ∀ b, N0 b → N b ∧ u.heap[b]? = u0.heap[b]?) (hBB : ∀ k, k < 2 → β k = β0 k), W 6 (mkL 14 [0, 1, 2, 4, 5, 8, 9, 12]) ac w := by
      intro ac w q7 F8 u N β S o6 hNN hBB
      rw [hW]
      refine WD.many (rs := [3, 7]) (by kernel_rfl) rfl (List.forall_mem_cons.2 ⟨?_, List.forall_mem_cons.2 ⟨?_, List.forall_mem_nil _⟩⟩)
      · refine id (S.bs0 (α := TEntry) (d := 8) (by kernel_rfl) ?_)
        clear S; intro ac w N q242 F243 S up o244 d245
        have hb246 := fun b h => (⟨(up b (hNN b h).1).1, (up b (hNN b h).1).2.trans (hNN b h).2, d245 b (hNN b h).1⟩ : _ ∧ _ ∧ _)
        refine WD.stayK S (fun b h => ⟨(hb246 b h).1, (hb246 b h).2.1⟩) hBB (bx_app rfl) ?_
        have d247 : Disj F8 F243 := fun b x y => d245 b (o6.sub b x) y
        replace o6 := o6.up up
        clear up d245
        exact WD.ofW hW (by kernel_rfl) (hK182 ac w q7 F8 q242 F243 _ _ _ (S.prune (keep := [1, 2, 3, 7, 8, 10, 14]) (m := 3) (by kernel_rfl)) o6 o244 d247 hb246 hBB)
      · refine id (S.bs0 (α := TEntry) (d := 12) (by kernel_rfl) ?_)
        clear S; intro ac w N q248 F249 S up o250 d251
        have hb252 := fun b h => (⟨(up b (hNN b h).1).1, (up b (hNN b h).1).2.trans (hNN b h).2, d251 b (hNN b h).1⟩ : _ ∧ _ ∧ _)
        refine WD.stayK S (fun b h => ⟨(hb252 b h).1, (hb252 b h).2.1⟩) hBB (bx_app rfl) ?_
        have d253 : Disj F8 F249 := fun b x y => d251 b (o6.sub b x) y
        replace o6 := o6.up up
        clear up d251
        exact WD.ofW hW (by kernel_rfl) (hK198 ac w q248 F249 q7 F8 _ _ _ (S.prune (keep := [1, 2, 3, 7, 10, 12, 14]) (m := 3) (by kernel_rfl)) o250 o6 (Disj.symm d253) hb252 hBB)
    have hK254 : ∀ (ac : Act) (w : World) (q23 : GT.Ptr (List TEntry)) (F24 : Bl) (q15 : GT.Ptr (List TEntry)) (F16 : Bl) (u : World) (N : Bl) (β : Nat → Nat) (S : St Tryz.prog Tryz.f18.ntmps w0 NoB u N β ⟨[(1, .p 0 0), (2, .p 1 0), (6, .v (slv (h.mem).length ph.mem.1)), (8, .v (slv 0 q15.1)), (10, .v (slv (h.buf).length ph.buf.1)), (12, .v (slv 0 q23.1)), (14, .v (slv (h.iobuf).length ph.iobuf.1))], [GT.cells h ph, Zc THost]⟩ ac w) (o22 : Ow w0 NoB u N F24 ([] : List TEntry) q23) (o14 : Ow w0 NoB u N F16 ([] : List TEntry) q15) (d255 : Disj F24 F16) (hNN : ∀ b, N0 b → N b ∧ u.heap[b]? = u0.heap[b]? ∧ ¬ F16 b ∧ ¬ F24 b) (hBB : ∀ k, k < 2 → β k = β0 k), W 6 (mkL 14 [0, 1, 3, 4, 5, 7, 8, 9]) ac w := by
      intro ac w q23 F24 q15 F16 u N β S o22 o14 d255 hNN hBB
      rw [hW]
      refine WD.many (rs := [2, 12]) (by kernel_rfl) rfl (List.forall_mem_cons.2 ⟨?_, List.forall_mem_cons.2 ⟨?_, List.forall_mem_nil _⟩⟩)
      · refine id (S.call1 (r := h.mem) (d := 7) (c_spec_l04Copy w h.mem ph.mem (S.rd (RHost.mem (d := h) (S.arg hh)))) (by kernel_rfl) rfl ?_)
        clear S; intro ac w N q256 F257 S up o258 d259
        have hb260 := fun b h => (⟨(up b (hNN b h).1).1, (up b (hNN b h).1).2.trans (hNN b h).2.1, (hNN b h).2.2.1, (hNN b h).2.2.2⟩ : _ ∧ _ ∧ _ ∧ _)
        refine WD.stayK S (fun b h => ⟨(hb260 b h).1, (hb260 b h).2.1⟩) hBB (fun _ _ h => h) ?_
        have d261 : Disj F16 F257 := fun b x y => d259 b (o14.sub b x) y
        have d262 : Disj F24 F257 := fun b x y => d259 b (o22.sub b x) y
        replace o14 := o14.up up
        replace o22 := o22.up up
        clear up d259
        exact WD.ofW hW (by kernel_rfl) (hK170 ac w q23 F24 q256 F257 q15 F16 _ _ _ (S.prune (keep := [1, 2, 7, 8, 10, 12, 14]) (m := 2) (by kernel_rfl)) o22 o258 o14 d262 d255 (Disj.symm d261) hb260 hBB)
      · refine S.stepq (i := 12) (keep := [1, 2, 3, 6, 8, 10, 12, 14]) (m := 3) (σ' := ⟨[(1, .p 0 0), (2, .p 1 0), (3, .p 2 0), (6, .v (slv (h.mem).length ph.mem.1)), (8, .v (slv 0 q15.1)), (10, .v (slv (h.buf).length ph.buf.1)), (12, .v (slv 0 q23.1)), (14, .v (slv (h.iobuf).length ph.iobuf.1))], [GT.cells h ph, Zc THost, Zc THost]⟩) .nil (by kernel_rfl) ?_
        clear S; intro ac w β S hβ
        have hB2 := fun k (hk : k < 2) => (hβ k (Nat.lt_of_lt_of_le hk (Nat.le_of_ble_eq_true rfl))).trans (hBB k hk)
        refine WD.stayK S (fun b h => ⟨(hNN b h).1, (hNN b h).2.1⟩) hB2 (bx_app rfl) ?_
        clear hβ
        exact WD.ofW hW (by kernel_rfl) (hK207 ac w q23 F24 q15 F16 _ _ _ (S.prune (keep := [1, 2, 3, 6, 8, 10, 12, 14]) (m := 3) (by kernel_rfl)) o22 o14 d255 hNN hB2)
    have hK263 : ∀ (ac : Act) (w : World) (q15 : GT.Ptr (List TEntry)) (F16 : Bl) (u : World) (N : Bl) (β : Nat → Nat) (S : St Tryz.prog Tryz.f18.ntmps w0 NoB u N β ⟨[(1, .p 0 0), (2, .p 1 0), (3, .p 2 0), (6, .v (slv (h.mem).length ph.mem.1)), (8, .v (slv 0 q15.1)), (10, .v (slv (h.buf).length ph.buf.1)), (14, .v (slv (h.iobuf).length ph.iobuf.1))], [GT.cells h ph, Zc THost, Zc THost]⟩ ac w) (o14 : Ow w0 NoB u N F16 ([] : List TEntry) q15) (hNN : ∀ b, N0 b → N b ∧ u.heap[b]? = u0.heap[b]? ∧ ¬ F16 b) (hBB : ∀ k, k < 2 → β k = β0 k), W 6 (mkL 14 [0, 1, 3, 4, 5, 8, 9, 12]) ac w := by
      intro ac w q15 F16 u N β S o14 hNN hBB
      rw [hW]
      refine WD.many (rs := [2, 7]) (by kernel_rfl) rfl (List.forall_mem_cons.2 ⟨?_, List.forall_mem_cons.2 ⟨?_, List.forall_mem_nil _⟩⟩)
      · refine id (S.call1 (r := h.mem) (d := 7) (c_spec_l04Copy w h.mem ph.mem (S.rd (RHost.mem (d := h) (S.arg hh)))) (by kernel_rfl) rfl ?_)
        clear S; intro ac w N q264 F265 S up o266 d267
        have hb268 := fun b h => (⟨(up b (hNN b h).1).1, (up b (hNN b h).1).2.trans (hNN b h).2.1, (hNN b h).2.2⟩ : _ ∧ _ ∧ _)
        refine WD.stayK S (fun b h => ⟨(hb268 b h).1, (hb268 b h).2.1⟩) hBB (bx_app rfl) ?_
        have d269 : Disj F16 F265 := fun b x y => d267 b (o14.sub b x) y
        replace o14 := o14.up up
        clear up d267
        exact WD.ofW hW (by kernel_rfl) (hK182 ac w q264 F265 q15 F16 _ _ _ (S.prune (keep := [1, 2, 3, 7, 8, 10, 14]) (m := 3) (by kernel_rfl)) o266 o14 (Disj.symm d269) hb268 hBB)
      · refine id (S.bs0 (α := TEntry) (d := 12) (by kernel_rfl) ?_)
        clear S; intro ac w N q270 F271 S up o272 d273
        have hb274 := fun b h => (⟨(up b (hNN b h).1).1, (up b (hNN b h).1).2.trans (hNN b h).2.1, (hNN b h).2.2, d273 b (hNN b h).1⟩ : _ ∧ _ ∧ _ ∧ _)
        refine WD.stayK S (fun b h => ⟨(hb274 b h).1, (hb274 b h).2.1⟩) hBB (bx_app rfl) ?_
        have d275 : Disj F16 F271 := fun b x y => d273 b (o14.sub b x) y
        replace o14 := o14.up up
        clear up d273
        exact WD.ofW hW (by kernel_rfl) (hK207 ac w q270 F271 q15 F16 _ _ _ (S.prune (keep := [1, 2, 3, 6, 8, 10, 12, 14]) (m := 3) (by kernel_rfl)) o272 o14 (Disj.symm d275) hb274 hBB)
    have hK276 : ∀ (ac : Act) (w : World) (q23 : GT.Ptr (List TEntry)) (F24 : Bl) (u : World) (N : Bl) (β : Nat → Nat) (S : St Tryz.prog Tryz.f18.ntmps w0 NoB u N β ⟨[(1, .p 0 0), (2, .p 1 0), (3, .p 2 0), (6, .v (slv (h.mem).length ph.mem.1)), (10, .v (slv (h.buf).length ph.buf.1)), (12, .v (slv 0 q23.1)), (14, .v (slv (h.iobuf).length ph.iobuf.1))], [GT.cells h ph, Zc THost, Zc THost]⟩ ac w) (o22 : Ow w0 NoB u N F24 ([] : List TEntry) q23) (hNN : ∀ b, N0 b → N b ∧ u.heap[b]? = u0.heap[b]? ∧ ¬ F24 b) (hBB : ∀ k, k < 2 → β k = β0 k), W 6 (mkL 14 [0, 1, 4, 5, 7, 8, 9, 12]) ac w := by
      intro ac w q23 F24 u N β S o22 hNN hBB
      rw [hW]
      refine WD.many (rs := [2, 3]) (by kernel_rfl) rfl (List.forall_mem_cons.2 ⟨?_, List.forall_mem_cons.2 ⟨?_, List.forall_mem_nil _⟩⟩)
      · refine id (S.call1 (r := h.mem) (d := 7) (c_spec_l04Copy w h.mem ph.mem (S.rd (RHost.mem (d := h) (S.arg hh)))) (by kernel_rfl) rfl ?_)
        clear S; intro ac w N q277 F278 S up o279 d280
        have hb281 := fun b h => (⟨(up b (hNN b h).1).1, (up b (hNN b h).1).2.trans (hNN b h).2.1, (hNN b h).2.2⟩ : _ ∧ _ ∧ _)
        refine WD.stayK S (fun b h => ⟨(hb281 b h).1, (hb281 b h).2.1⟩) hBB (bx_app rfl) ?_
        have d282 : Disj F24 F278 := fun b x y => d280 b (o22.sub b x) y
        replace o22 := o22.up up
        clear up d280
        exact WD.ofW hW (by kernel_rfl) (hK198 ac w q23 F24 q277 F278 _ _ _ (S.prune (keep := [1, 2, 3, 7, 10, 12, 14]) (m := 3) (by kernel_rfl)) o22 o279 d282 hb281 hBB)
      · refine id (S.bs0 (α := TEntry) (d := 8) (by kernel_rfl) ?_)
        clear S; intro ac w N q283 F284 S up o285 d286
        have hb287 := fun b h => (⟨(up b (hNN b h).1).1, (up b (hNN b h).1).2.trans (hNN b h).2.1, d286 b (hNN b h).1, (hNN b h).2.2⟩ : _ ∧ _ ∧ _ ∧ _)
        refine WD.stayK S (fun b h => ⟨(hb287 b h).1, (hb287 b h).2.1⟩) hBB (bx_app rfl) ?_
        have d288 : Disj F24 F284 := fun b x y => d286 b (o22.sub b x) y
        replace o22 := o22.up up
        clear up d286
        exact WD.ofW hW (by kernel_rfl) (hK207 ac w q23 F24 q283 F284 _ _ _ (S.prune (keep := [1, 2, 3, 6, 8, 10, 12, 14]) (m := 3) (by kernel_rfl)) o22 o285 d288 hb287 hBB)
    have hK289 : ∀ (ac : Act) (w : World) (q7 : GT.Ptr (List (List Int))) (F8 : Bl) (u : World) (N : Bl) (β : Nat → Nat) (S : St Tryz.prog Tryz.f18.ntmps w0 NoB u N β ⟨[(1, .p 0 0), (2, .p 1 0), (7, .v (slv (h.mem).length q7.1)), (10, .v (slv (h.buf).length ph.buf.1)), (14, .v (slv (h.iobuf).length ph.iobuf.1))], [GT.cells h ph, Zc THost]⟩ ac w) (o6 : Ow w0 NoB u N F8 h.mem q7) (hNN : ∀ b, N0 b → N b ∧ u.heap[b]? = u0.heap[b]?) (hBB : ∀ k, k < 2 → β k = β0 k), W 7 (mkL 14 [0, 1, 2, 4, 5, 8, 9]) ac w := by
      intro ac w q7 F8 u N β S o6 hNN hBB
      rw [hW]
      refine WD.many (rs := [3, 7, 12]) (by kernel_rfl) rfl (List.forall_mem_cons.2 ⟨?_, List.forall_mem_cons.2 ⟨?_, List.forall_mem_cons.2 ⟨?_, List.forall_mem_nil _⟩⟩⟩)
      · refine id (S.bs0 (α := TEntry) (d := 8) (by kernel_rfl) ?_)
        clear S; intro ac w N q290 F291 S up o292 d293
        have hb294 := fun b h => (⟨(up b (hNN b h).1).1, (up b (hNN b h).1).2.trans (hNN b h).2, d293 b (hNN b h).1⟩ : _ ∧ _ ∧ _)
        refine WD.stayK S (fun b h => ⟨(hb294 b h).1, (hb294 b h).2.1⟩) hBB (fun _ _ h => h) ?_
        have d295 : Disj F8 F291 := fun b x y => d293 b (o6.sub b x) y
        replace o6 := o6.up up
        clear up d293
        exact WD.ofW hW (by kernel_rfl) (hK216 ac w q7 F8 q290 F291 _ _ _ (S.prune (keep := [1, 2, 7, 8, 10, 14]) (m := 2) (by kernel_rfl)) o6 o292 d295 hb294 hBB)
      · refine id (S.bs0 (α := TEntry) (d := 12) (by kernel_rfl) ?_)
        clear S; intro ac w N q296 F297 S up o298 d299
        have hb300 := fun b h => (⟨(up b (hNN b h).1).1, (up b (hNN b h).1).2.trans (hNN b h).2, d299 b (hNN b h).1⟩ : _ ∧ _ ∧ _)
        refine WD.stayK S (fun b h => ⟨(hb300 b h).1, (hb300 b h).2.1⟩) hBB (fun _ _ h => h) ?_
        have d301 : Disj F8 F297 := fun b x y => d299 b (o6.sub b x) y
        replace o6 := o6.up up
        clear up d299
        exact WD.ofW hW (by kernel_rfl) (hK232 ac w q296 F297 q7 F8 _ _ _ (S.prune (keep := [1, 2, 7, 10, 12, 14]) (m := 2) (by kernel_rfl)) o298 o6 (Disj.symm d301) hb300 hBB)
      · refine S.stepq (i := 12) (keep := [1, 2, 3, 7, 10, 14]) (m := 3) (σ' := ⟨[(1, .p 0 0), (2, .p 1 0), (3, .p 2 0), (7, .v (slv (h.mem).length q7.1)), (10, .v (slv (h.buf).length ph.buf.1)), (14, .v (slv (h.iobuf).length ph.iobuf.1))], [GT.cells h ph, Zc THost, Zc THost]⟩) .nil (by kernel_rfl) ?_
        clear S; intro ac w β S hβ
        have hB2 := fun k (hk : k < 2) => (hβ k (Nat.lt_of_lt_of_le hk (Nat.le_of_ble_eq_true rfl))).trans (hBB k hk)
        refine WD.stayK S (fun b h => ⟨(hNN b h).1, (hNN b h).2⟩) hB2 (bx_app rfl) ?_
        clear hβ
        exact WD.ofW hW (by kernel_rfl) (hK241 ac w q7 F8 _ _ _ (S.prune (keep := [1, 2, 3, 7, 10, 14]) (m := 3) (by kernel_rfl)) o6 hNN hB2)
    have hK302 : ∀ (ac : Act) (w : World) (q15 : GT.Ptr (List TEntry)) (F16 : Bl) (u : World) (N : Bl) (β : Nat → Nat) (S : St Tryz.prog Tryz.f18.ntmps w0 NoB u N β ⟨[(1, .p 0 0), (2, .p 1 0), (6, .v (slv (h.mem).length ph.mem.1)), (8, .v (slv 0 q15.1)), (10, .v (slv (h.buf).length ph.buf.1)), (14, .v (slv (h.iobuf).length ph.iobuf.1))], [GT.cells h ph, Zc THost]⟩ ac w) (o14 : Ow w0 NoB u N F16 ([] : List TEntry) q15) (hNN : ∀ b, N0 b → N b ∧ u.heap[b]? = u0.heap[b]? ∧ ¬ F16 b) (hBB : ∀ k, k < 2 → β k = β0 k), W 7 (mkL 14 [0, 1, 3, 4, 5, 8, 9]) ac w := by
      intro ac w q15 F16 u N β S o14 hNN hBB
      rw [hW]
      refine WD.many (rs := [2, 7, 12]) (by kernel_rfl) rfl (List.forall_mem_cons.2 ⟨?_, List.forall_mem_cons.2 ⟨?_, List.forall_mem_cons.2 ⟨?_, List.forall_mem_nil _⟩⟩⟩)
      · refine id (S.call1 (r := h.mem) (d := 7) (c_spec_l04Copy w h.mem ph.mem (S.rd (RHost.mem (d := h) (S.arg hh)))) (by kernel_rfl) rfl ?_)
        clear S; intro ac w N q303 F304 S up o305 d306
        have hb307 := fun b h => (⟨(up b (hNN b h).1).1, (up b (hNN b h).1).2.trans (hNN b h).2.1, (hNN b h).2.2⟩ : _ ∧ _ ∧ _)
        refine WD.stayK S (fun b h => ⟨(hb307 b h).1, (hb307 b h).2.1⟩) hBB (fun _ _ h => h) ?_
        have d308 : Disj F16 F304 := fun b x y => d306 b (o14.sub b x) y
        replace o14 := o14.up up
        clear up d306
        exact WD.ofW hW (by kernel_rfl) (hK216 ac w q303 F304 q15 F16 _ _ _ (S.prune (keep := [1, 2, 7, 8, 10, 14]) (m := 2) (by kernel_rfl)) o305 o14 (Disj.symm d308) hb307 hBB)
      · refine id (S.bs0 (α := TEntry) (d := 12) (by kernel_rfl) ?_)
        clear S; intro ac w N q309 F310 S up o311 d312
        have hb313 := fun b h => (⟨(up b (hNN b h).1).1, (up b (hNN b h).1).2.trans (hNN b h).2.1, (hNN b h).2.2, d312 b (hNN b h).1⟩ : _ ∧ _ ∧ _ ∧ _)
        refine WD.stayK S (fun b h => ⟨(hb313 b h).1, (hb313 b h).2.1⟩) hBB (fun _ _ h => h) ?_
        have d314 : Disj F16 F310 := fun b x y => d312 b (o14.sub b x) y
        replace o14 := o14.up up
        clear up d312
        exact WD.ofW hW (by kernel_rfl) (hK254 ac w q309 F310 q15 F16 _ _ _ (S.prune (keep := [1, 2, 6, 8, 10, 12, 14]) (m := 2) (by kernel_rfl)) o311 o14 (Disj.symm d314) hb313 hBB)
      · refine S.stepq (i := 12) (keep := [1, 2, 3, 6, 8, 10, 14]) (m := 3) (σ' := ⟨[(1, .p 0 0), (2, .p 1 0), (3, .p 2 0), (6, .v (slv (h.mem).length ph.mem.1)), (8, .v (slv 0 q15.1)), (10, .v (slv (h.buf).length ph.buf.1)), (14, .v (slv (h.iobuf).length ph.iobuf.1))], [GT.cells h ph, Zc THost, Zc THost]⟩) .nil (by kernel_rfl) ?_
        clear S; intro ac w β S hβ
        have hB2 := fun k (hk : k < 2) => (hβ k (Nat.lt_of_lt_of_le hk (Nat.le_of_ble_eq_true rfl))).trans (hBB k hk)
        refine WD.stayK S (fun b h => ⟨(hNN b h).1, (hNN b h).2.1⟩) hB2 (bx_app rfl) ?_
        clear hβ
        exact WD.ofW hW (by kernel_rfl) (hK263 ac w q15 F16 _ _ _ (S.prune (keep := [1, 2, 3, 6, 8, 10, 14]) (m := 3) (by kernel_rfl)) o14 hNN hB2)
    have hK315 : ∀ (ac : Act) (w : World) (q23 : GT.Ptr (List TEntry)) (F24 : Bl) (u : World) (N : Bl) (β : Nat → Nat) (S : St Tryz.prog Tryz.f18.ntmps w0 NoB u N β ⟨[(1, .p 0 0), (2, .p 1 0), (6, .v (slv (h.mem).length ph.mem.1)), (10, .v (slv (h.buf).length ph.buf.1)), (12, .v (slv 0 q23.1)), (14, .v (slv (h.iobuf).length ph.iobuf.1))], [GT.cells h ph, Zc THost]⟩ ac w) (o22 : Ow w0 NoB u N F24 ([] : List TEntry) q23) (hNN : ∀ b, N0 b → N b ∧ u.heap[b]? = u0.heap[b]? ∧ ¬ F24 b) (hBB : ∀ k, k < 2 → β k = β0 k), W 7 (mkL 14 [0, 1, 4, 5, 7, 8, 9]) ac w := by
      intro ac w q23 F24 u N β S o22 hNN hBB
      rw [hW]
      refine WD.many (rs := [2, 3, 12]) (by kernel_rfl) rfl (List.forall_mem_cons.2 ⟨?_, List.forall_mem_cons.2 ⟨?_, List.forall_mem_cons.2 ⟨?_, List.forall_mem_nil _⟩⟩⟩)
      · refine id (S.call1 (r := h.mem) (d := 7) (c_spec_l04Copy w h.mem ph.mem (S.rd (RHost.mem (d := h) (S.arg hh)))) (by kernel_rfl) rfl ?_)
        clear S; intro ac w N q316 F317 S up o318 d319
        have hb320 := fun b h => (⟨(up b (hNN b h).1).1, (up b (hNN b h).1).2.trans (hNN b h).2.1, (hNN b h).2.2⟩ : _ ∧ _ ∧ _)
        refine WD.stayK S (fun b h => ⟨(hb320 b h).1, (hb320 b h).2.1⟩) hBB (fun _ _ h => h) ?_
        have d321 : Disj F24 F317 := fun b x y => d319 b (o22.sub b x) y
        replace o22 := o22.up up
        clear up d319
        exact WD.ofW hW (by kernel_rfl) (hK232 ac w q23 F24 q316 F317 _ _ _ (S.prune (keep := [1, 2, 7, 10, 12, 14]) (m := 2) (by kernel_rfl)) o22 o318 d321 hb320 hBB)
      · refine id (S.bs0 (α := TEntry) (d := 8) (by kernel_rfl) ?_)
        clear S; intro ac w N q322 F323 S up o324 d325
        have hb326 := fun b h => (⟨(up b (hNN b h).1).1, (up b (hNN b h).1).2.trans (hNN b h).2.1, d325 b (hNN b h).1, (hNN b h).2.2⟩ : _ ∧ _ ∧ _ ∧ _)
        refine WD.stayK S (fun b h => ⟨(hb326 b h).1, (hb326 b h).2.1⟩) hBB (fun _ _ h => h) ?_
        have d327 : Disj F24 F323 := fun b x y => d325 b (o22.sub b x) y
        replace o22 := o22.up up
        clear up d325
        exact WD.ofW hW (by kernel_rfl) (hK254 ac w q23 F24 q322 F323 _ _ _ (S.prune (keep := [1, 2, 6, 8, 10, 12, 14]) (m := 2) (by kernel_rfl)) o22 o324 d327 hb326 hBB)
      · refine S.stepq (i := 12) (keep := [1, 2, 3, 6, 10, 12, 14]) (m := 3) (σ' := ⟨[(1, .p 0 0), (2, .p 1 0), (3, .p 2 0), (6, .v (slv (h.mem).length ph.mem.1)), (10, .v (slv (h.buf).length ph.buf.1)), (12, .v (slv 0 q23.1)), (14, .v (slv (h.iobuf).length ph.iobuf.1))], [GT.cells h ph, Zc THost, Zc THost]⟩) .nil (by kernel_rfl) ?_
        clear S; intro ac w β S hβ
        have hB2 := fun k (hk : k < 2) => (hβ k (Nat.lt_of_lt_of_le hk (Nat.le_of_ble_eq_true rfl))).trans (hBB k hk)
        refine WD.stayK S (fun b h => ⟨(hNN b h).1, (hNN b h).2.1⟩) hB2 (bx_app rfl) ?_
        clear hβ
        exact WD.ofW hW (by kernel_rfl) (hK276 ac w q23 F24 _ _ _ (S.prune (keep := [1, 2, 3, 6, 10, 12, 14]) (m := 3) (by kernel_rfl)) o22 hNN hB2)
    have hK328 : ∀ (ac : Act) (w : World)  (u : World) (N : Bl) (β : Nat → Nat) (S : St Tryz.prog Tryz.f18.ntmps w0 NoB u N β ⟨[(1, .p 0 0), (2, .p 1 0), (3, .p 2 0), (6, .v (slv (h.mem).length ph.mem.1)), (10, .v (slv (h.buf).length ph.buf.1)), (14, .v (slv (h.iobuf).length ph.iobuf.1))], [GT.cells h ph, Zc THost, Zc THost]⟩ ac w) (hNN : ∀ b, N0 b → N b ∧ u.heap[b]? = u0.heap[b]?) (hBB : ∀ k, k < 2 → β k = β0 k), W 7 (mkL 14 [0, 1, 4, 5, 8, 9, 12]) ac w := by
      intro ac w  u N β S hNN hBB
      rw [hW]
      refine WD.many (rs := [2, 3, 7]) (by kernel_rfl) rfl (List.forall_mem_cons.2 ⟨?_, List.forall_mem_cons.2 ⟨?_, List.forall_mem_cons.2 ⟨?_, List.forall_mem_nil _⟩⟩⟩)
      · refine id (S.call1 (r := h.mem) (d := 7) (c_spec_l04Copy w h.mem ph.mem (S.rd (RHost.mem (d := h) (S.arg hh)))) (by kernel_rfl) rfl ?_)
        clear S; intro ac w N q329 F330 S up o331 d332
        have hb333 := fun b h => (⟨(up b (hNN b h).1).1, (up b (hNN b h).1).2.trans (hNN b h).2⟩ : _ ∧ _)
        refine WD.stayK S (fun b h => ⟨(hb333 b h).1, (hb333 b h).2⟩) hBB (bx_app rfl) ?_
        clear up d332
        exact WD.ofW hW (by kernel_rfl) (hK241 ac w q329 F330 _ _ _ (S.prune (keep := [1, 2, 3, 7, 10, 14]) (m := 3) (by kernel_rfl)) o331 hb333 hBB)
      · refine id (S.bs0 (α := TEntry) (d := 8) (by kernel_rfl) ?_)
        clear S; intro ac w N q334 F335 S up o336 d337
        have hb338 := fun b h => (⟨(up b (hNN b h).1).1, (up b (hNN b h).1).2.trans (hNN b h).2, d337 b (hNN b h).1⟩ : _ ∧ _ ∧ _)
        refine WD.stayK S (fun b h => ⟨(hb338 b h).1, (hb338 b h).2.1⟩) hBB (bx_app rfl) ?_
        clear up d337
        exact WD.ofW hW (by kernel_rfl) (hK263 ac w q334 F335 _ _ _ (S.prune (keep := [1, 2, 3, 6, 8, 10, 14]) (m := 3) (by kernel_rfl)) o336 hb338 hBB)
      · refine id (S.bs0 (α := TEntry) (d := 12) (by kernel_rfl) ?_)
        clear S; intro ac w N q339 F340 S up o341 d342
        have hb343 := fun b h => (⟨(up b (hNN b h).1).1, (up b (hNN b h).1).2.trans (hNN b h).2, d342 b (hNN b h).1⟩ : _ ∧ _ ∧ _)
        refine WD.stayK S (fun b h => ⟨(hb343 b h).1, (hb343 b h).2.1⟩) hBB (bx_app rfl) ?_
        clear up d342
        exact WD.ofW hW (by kernel_rfl) (hK276 ac w q339 F340 _ _ _ (S.prune (keep := [1, 2, 3, 6, 10, 12, 14]) (m := 3) (by kernel_rfl)) o341 hb343 hBB)
    have hNN : ∀ b, N0 b → N0 b ∧ u0.heap[b]? = u0.heap[b]? := fun b h => ⟨h, rfl⟩
    have hBB : ∀ k, k < 2 → β0 k = β0 k := fun _ _ => rfl
    rw [hW]
    refine WD.many (rs := [2, 3, 7, 12]) (by kernel_rfl) rfl (List.forall_mem_cons.2 ⟨?_, List.forall_mem_cons.2 ⟨?_, List.forall_mem_cons.2 ⟨?_, List.forall_mem_cons.2 ⟨?_, List.forall_mem_nil _⟩⟩⟩⟩)
    · refine id (S.call1 (r := h.mem) (d := 7) (c_spec_l04Copy w h.mem ph.mem (S.rd (RHost.mem (d := h) (S.arg hh)))) (by kernel_rfl) rfl ?_)
      clear S; intro ac w N q344 F345 S up o346 d347
      have hb348 := fun b h => (⟨(up b (hNN b h).1).1, (up b (hNN b h).1).2.trans (hNN b h).2⟩ : _ ∧ _)
      refine WD.stayK S (fun b h => ⟨(hb348 b h).1, (hb348 b h).2⟩) hBB (fun _ _ h => h) ?_
      clear up d347
      exact WD.ofW hW (by kernel_rfl) (hK289 ac w q344 F345 _ _ _ (S.prune (keep := [1, 2, 7, 10, 14]) (m := 2) (by kernel_rfl)) o346 hb348 hBB)
    · refine id (S.bs0 (α := TEntry) (d := 8) (by kernel_rfl) ?_)
      clear S; intro ac w N q349 F350 S up o351 d352
      have hb353 := fun b h => (⟨(up b (hNN b h).1).1, (up b (hNN b h).1).2.trans (hNN b h).2, d352 b (hNN b h).1⟩ : _ ∧ _ ∧ _)
      refine WD.stayK S (fun b h => ⟨(hb353 b h).1, (hb353 b h).2.1⟩) hBB (fun _ _ h => h) ?_
      clear up d352
      exact WD.ofW hW (by kernel_rfl) (hK302 ac w q349 F350 _ _ _ (S.prune (keep := [1, 2, 6, 8, 10, 14]) (m := 2) (by kernel_rfl)) o351 hb353 hBB)
    · refine id (S.bs0 (α := TEntry) (d := 12) (by kernel_rfl) ?_)
      clear S; intro ac w N q354 F355 S up o356 d357
      have hb358 := fun b h => (⟨(up b (hNN b h).1).1, (up b (hNN b h).1).2.trans (hNN b h).2, d357 b (hNN b h).1⟩ : _ ∧ _ ∧ _)
      refine WD.stayK S (fun b h => ⟨(hb358 b h).1, (hb358 b h).2.1⟩) hBB (fun _ _ h => h) ?_
      clear up d357
      exact WD.ofW hW (by kernel_rfl) (hK315 ac w q354 F355 _ _ _ (S.prune (keep := [1, 2, 6, 10, 12, 14]) (m := 2) (by kernel_rfl)) o356 hb358 hBB)
    · refine S.stepq (i := 12) (keep := [1, 2, 3, 6, 10, 14]) (m := 3) (σ' := ⟨[(1, .p 0 0), (2, .p 1 0), (3, .p 2 0), (6, .v (slv (h.mem).length ph.mem.1)), (10, .v (slv (h.buf).length ph.buf.1)), (14, .v (slv (h.iobuf).length ph.iobuf.1))], [GT.cells h ph, Zc THost, Zc THost]⟩) .nil (by kernel_rfl) ?_
      clear S; intro ac w β S hβ
      have hB2 := fun k (hk : k < 2) => (hβ k (Nat.lt_of_lt_of_le hk (Nat.le_of_ble_eq_true rfl))).trans (hBB k hk)
      refine WD.stayK S (fun b h => ⟨(hNN b h).1, (hNN b h).2⟩) hB2 (bx_app rfl) ?_
      clear hβ
      exact WD.ofW hW (by kernel_rfl) (hK328 ac w  _ _ _ (S.prune (keep := [1, 2, 3, 6, 10, 14]) (m := 3) (by kernel_rfl))  hNN hB2)
  clear S
  rintro ac w ⟨q91, F92, q94, F95, q88, F89, u, N, β, S, o90, o93, o87, d359, d360, d361⟩
  refine id (nx_then (wp_seq (wp_seq (RG.start ?_))))
  refine S.q 1 [1, 2, 3, 4] 3 ⟨[(1, .p 0 0), (2, .p 1 0), (3, .p 2 0), (4, .v (I 0))], [GT.cells h ph, Zc THost, [slv (h.mem).length q88.1, slv (([] : List TMon)).length (GT.pdflt (α := List TMon)).1, slv ((([] : List TEntry) ++ h.buf)).length q91.1, slv ((([] : List TEntry) ++ h.iobuf)).length q94.1]]⟩ .nil ?_; clear S; intro ac w β S
  refine RG.done rfl (nx_then (wp_block ?_))
  replace S := S.p [1, 2, 3, 4] 3 ⟨[(1, .p 0 0), (2, .p 1 0), (3, .p 2 0), (4, .v (I 0))], [GT.cells h ph, Zc THost, [slv (h.mem).length q88.1, slv (([] : List TMon)).length (GT.pdflt (α := List TMon)).1, slv ((([] : List TEntry) ++ h.buf)).length q91.1, slv ((([] : List TEntry) ++ h.iobuf)).length q94.1]]⟩
  have o365 := S.nilOw (α := TMon)
  refine wp_loop_down (fun mm ac w => ∃ (i : Nat) (acc : List TMon) (q362 : GT.Ptr (List TMon)) (F363 : Bl) (u : World) (N : Bl) (β : Nat → Nat), mm = h.mons.length - i ∧ (i ≤ h.mons.length) ∧ (acc = h.mons.take i) ∧ St Tryz.prog Tryz.f18.ntmps w0 NoB u N β ⟨[(1, .p 0 0), (2, .p 1 0), (3, .p 2 0), (4, .v (I (i : Int)))], [GT.cells h ph, Zc THost, [slv (h.mem).length q88.1, slv (acc).length q362.1, slv ((([] : List TEntry) ++ h.buf)).length q91.1, slv ((([] : List TEntry) ++ h.iobuf)).length q94.1]]⟩ ac w ∧ Ow w0 NoB u N F363 acc q362 ∧ Ow w0 NoB u N F89 h.mem q88 ∧ Ow w0 NoB u N F92 (([] : List TEntry) ++ h.buf) q91 ∧ Ow w0 NoB u N F95 (([] : List TEntry) ++ h.iobuf) q94 ∧ Disj F363 F89 ∧ Disj F363 F92 ∧ Disj F363 F95) _ ⟨0, ([] : List TMon), (GT.pdflt (α := List TMon)), NoB, _, _, _, rfl, (by first | omega | (simp; done) | (simp; omega)), (by rfl), S.cast (by kernel_rfl), o365, o87, o90, o93, (Disj.symm (fun b _ h => False.elim h)), (Disj.symm (fun b _ h => False.elim h)), (Disj.symm (fun b _ h => False.elim h))⟩ ?_
  clear S o365 o87 o90 o93
  rintro mm ac w ⟨i, acc, q362, F363, u, N, β, rfl, hi, hacc, S, o364, o87, o90, o93, d366, d367, d368⟩
  have hlacc : acc.length = i := by rw [hacc]; simp; omega
  refine wp_seq (wp_seq (RG.start ?_))
  refine S.q 5 [1, 2, 3, 4, 21] 3 ⟨[(1, .p 0 0), (2, .p 1 0), (3, .p 2 0), (4, .v (I (i : Int))), (21, .v (B (decide ((i : Int) < ((h.mons).length : Int)))))], [GT.cells h ph, Zc THost, [slv (h.mem).length q88.1, slv (acc).length q362.1, slv ((([] : List TEntry) ++ h.buf)).length q91.1, slv ((([] : List TEntry) ++ h.iobuf)).length q94.1]]⟩ .nil ?_; clear S; intro ac w β S
  refine RG.done rfl (nx_then ?_)
  refine S.c (decide ((i : Int) < ((h.mons).length : Int))) (fun h369 => ?_) (fun h369 => ?_)
  · have g370 : (i : Int) < ((h.mons).length : Int) := of_decide_eq_true h369
    refine wp_skip (nx_then (wp_seq (wp_block ?_)))
    refine S.draw0 (f := 12) 9 rfl rfl ?_
    clear S; intro w S
    refine S.hoist (i := 0) (path := [1, 0]) (keep := [1, 2, 3, 4, 24]) (m := 3) (σ' := ⟨[(1, .p 0 0), (2, .p 1 0), (3, .p 2 0), (4, .v (I (i : Int))), (24, .p 2 1)], [GT.cells h ph, Zc THost, [slv (h.mem).length q88.1, slv (acc).length q362.1, slv ((([] : List TEntry) ++ h.buf)).length q91.1, slv ((([] : List TEntry) ++ h.iobuf)).length q94.1]]⟩) (by kernel_rfl) (by kernel_rfl) .nil (by kernel_rfl) ?_
    clear S; intro ac S
    refine S.hoist (i := 1) (path := [1]) (keep := [1, 2, 3, 4, 25]) (m := 3) (σ' := ⟨[(1, .p 0 0), (2, .p 1 0), (3, .p 2 0), (4, .v (I (i : Int))), (25, .v (slv (acc).length q362.1))], [GT.cells h ph, Zc THost, [slv (h.mem).length q88.1, slv (acc).length q362.1, slv ((([] : List TEntry) ++ h.buf)).length q91.1, slv ((([] : List TEntry) ++ h.iobuf)).length q94.1]]⟩) (by kernel_rfl) (by kernel_rfl) .nil (by kernel_rfl) ?_
    clear S; intro ac S
    refine S.hoist (i := 2) (path := [7, 6, 5, 3, 2]) (keep := [1, 2, 3, 4, 25, 26]) (m := 3) (σ' := ⟨[(1, .p 0 0), (2, .p 1 0), (3, .p 2 0), (4, .v (I (i : Int))), (25, .v (slv (acc).length q362.1)), (26, .p 0 1)], [GT.cells h ph, Zc THost, [slv (h.mem).length q88.1, slv (acc).length q362.1, slv ((([] : List TEntry) ++ h.buf)).length q91.1, slv ((([] : List TEntry) ++ h.iobuf)).length q94.1]]⟩) (by kernel_rfl) (by kernel_rfl) .nil (by kernel_rfl) ?_
    clear S; intro ac S
    refine S.hoist (i := 3) (path := [7, 6, 5, 3]) (keep := [1, 2, 3, 4, 25, 27]) (m := 3) (σ' := ⟨[(1, .p 0 0), (2, .p 1 0), (3, .p 2 0), (4, .v (I (i : Int))), (25, .v (slv (acc).length q362.1)), (27, .v (slv (h.mons).length ph.mons.1))], [GT.cells h ph, Zc THost, [slv (h.mem).length q88.1, slv (acc).length q362.1, slv ((([] : List TEntry) ++ h.buf)).length q91.1, slv ((([] : List TEntry) ++ h.iobuf)).length q94.1]]⟩) (by kernel_rfl) (by kernel_rfl) .nil (by kernel_rfl) ?_
    clear S; intro ac S
    refine S.hoist (i := 4) (path := [7, 6, 5, 4]) (keep := [1, 2, 3, 4, 25, 27, 28]) (m := 3) (σ' := ⟨[(1, .p 0 0), (2, .p 1 0), (3, .p 2 0), (4, .v (I (i : Int))), (25, .v (slv (acc).length q362.1)), (27, .v (slv (h.mons).length ph.mons.1)), (28, .v (I (i : Int)))], [GT.cells h ph, Zc THost, [slv (h.mem).length q88.1, slv (acc).length q362.1, slv ((([] : List TEntry) ++ h.buf)).length q91.1, slv ((([] : List TEntry) ++ h.iobuf)).length q94.1]]⟩) (by kernel_rfl) (by kernel_rfl) .nil (by kernel_rfl) ?_
    clear S; intro ac S
    refine S.hoist (i := 5) (path := [7, 6, 5]) (keep := [1, 2, 3, 4, 25, 29]) (m := 3) (σ' := ⟨[(1, .p 0 0), (2, .p 1 0), (3, .p 2 0), (4, .v (I (i : Int))), (25, .v (slv (acc).length q362.1)), (29, .v (pt ph.mons.1.b (ph.mons.1.off + i * 9)))], [GT.cells h ph, Zc THost, [slv (h.mem).length q88.1, slv (acc).length q362.1, slv ((([] : List TEntry) ++ h.buf)).length q91.1, slv ((([] : List TEntry) ++ h.iobuf)).length q94.1]]⟩) (by kernel_rfl) (by kernel_rfl) (.cons (Q_idx (RHost.mons (d := h) (S.arg hh)) (l := (h.mons).length) (k := i) (i := (i : Int)) rfl rfl (by omega) Tryz.underlying28 (by kernel_rfl)) .nil) (by kernel_rfl) ?_
    clear S; intro ac S
    refine S.hoist (i := 6) (path := [7, 6]) (keep := [1, 2, 3, 4, 25, 30]) (m := 3) (σ' := ⟨[(1, .p 0 0), (2, .p 1 0), (3, .p 2 0), (4, .v (I (i : Int))), (25, .v (slv (acc).length q362.1)), (30, .v (GT.val (el h.mons i) (ph.mons.2 i)))], [GT.cells h ph, Zc THost, [slv (h.mem).length q88.1, slv (acc).length q362.1, slv ((([] : List TEntry) ++ h.buf)).length q91.1, slv ((([] : List TEntry) ++ h.iobuf)).length q94.1]]⟩) (by kernel_rfl) (by kernel_rfl) (.cons (Q_el (RHost.mons (d := h) (S.arg hh)) (t := 56) (k := i) (by omega) rfl (by kernel_rfl) (by kernel_rfl)) .nil) (by kernel_rfl) ?_
    clear S; intro ac S
    refine WD.one (i := 7) (by kernel_rfl) ?_
    refine id (S.call1 (r := (el h.mons i)) (d := 31) (c_spec_l21Mon w (el h.mons i) (ph.mons.2 i) (S.rd (LRd.el (RHost.mons (d := h) (S.arg hh)) i (by omega)))) (by kernel_rfl) rfl ?_)
    clear S; intro ac w N q371 F372 S up o373 d374
    refine WD.next S up rfl ?_
    have d375 : Disj F363 F372 := fun b x y => d374 b (o364.sub b x) y
    have d376 : Disj F89 F372 := fun b x y => d374 b (o87.sub b x) y
    have d377 : Disj F92 F372 := fun b x y => d374 b (o90.sub b x) y
    have d378 : Disj F95 F372 := fun b x y => d374 b (o93.sub b x) y
    replace o364 := o364.up up
    replace o87 := o87.up up
    replace o90 := o90.up up
    replace o93 := o93.up up
    clear up d374
    have i394 : In64 (el h.mons i).pend := RMon.pend (d := (el h.mons i)) o373.rn
    have i395 : In64 (el h.mons i).traps := RMon.traps (d := (el h.mons i)) o373.rn
    have i399 : In64 (el h.mons i).owned := RMon.owned (d := (el h.mons i)) o373.rn
    obtain ⟨F379, F382, F385, F388, F391, F396, o380, o383, o386, o389, o392, o397, s381, s384, s387, s390, s393, s398, d400, d401, d402, d403, d404, d405, d406, d407, d408, d409, d410, d411, d412, d413, d414⟩ := sp_Mon o373
    refine WD.one (i := 8) (by kernel_rfl) ?_
    have o419 := ow_Mon (x := (el h.mons i)) (p := q371) o380 o383 o386 o389 o392 o397 d400 d401 d402 d403 d404 d405 d406 d407 d408 d409 d410 d411 d412 d413 d414 i394 i395 i399
    refine id (S.bs1 (α := TMon) (x := (el h.mons i)) (p := q371) o419.own o419.sub o419.young (d := 32) (by kernel_rfl) ?_)
    clear S; intro ac w N q415 F416 S up o417 d418
    refine WD.next S up rfl ?_
    have d420 : Disj F363 F416 := d418 _ (Disj.symm (Disj.or (Disj.part (Disj.symm d375) s381) (Disj.or (Disj.part (Disj.symm d375) s384) (Disj.or (Disj.part (Disj.symm d375) s387) (Disj.or (Disj.part (Disj.symm d375) s390) (Disj.or (Disj.part (Disj.symm d375) s393) (Disj.or (Disj.part (Disj.symm d375) s398) Disj.nob))))))) o364.sub
    have d421 : Disj F89 F416 := d418 _ (Disj.symm (Disj.or (Disj.part (Disj.symm d376) s381) (Disj.or (Disj.part (Disj.symm d376) s384) (Disj.or (Disj.part (Disj.symm d376) s387) (Disj.or (Disj.part (Disj.symm d376) s390) (Disj.or (Disj.part (Disj.symm d376) s393) (Disj.or (Disj.part (Disj.symm d376) s398) Disj.nob))))))) o87.sub
    have d422 : Disj F92 F416 := d418 _ (Disj.symm (Disj.or (Disj.part (Disj.symm d377) s381) (Disj.or (Disj.part (Disj.symm d377) s384) (Disj.or (Disj.part (Disj.symm d377) s387) (Disj.or (Disj.part (Disj.symm d377) s390) (Disj.or (Disj.part (Disj.symm d377) s393) (Disj.or (Disj.part (Disj.symm d377) s398) Disj.nob))))))) o90.sub
    have d423 : Disj F95 F416 := d418 _ (Disj.symm (Disj.or (Disj.part (Disj.symm d378) s381) (Disj.or (Disj.part (Disj.symm d378) s384) (Disj.or (Disj.part (Disj.symm d378) s387) (Disj.or (Disj.part (Disj.symm d378) s390) (Disj.or (Disj.part (Disj.symm d378) s393) (Disj.or (Disj.part (Disj.symm d378) s398) Disj.nob))))))) o93.sub
    replace o364 := o364.up up
    replace o87 := o87.up up
    replace o90 := o90.up up
    replace o93 := o93.up up
    clear up d418
    refine WD.one (i := 9) (by kernel_rfl) ?_
    refine id (S.appOwn (α := TMon) o364 o417 d420 (by' := 168) (d := 33) (lx := (acc).length) (ly := 1) rfl rfl (by kernel_rfl) (show _ ≤ 4194304 by simp only [List.length_append, List.length_cons, List.length_nil]; omega) ?_)
    clear S; intro ac w N q424 F425 S up o426 d427
    refine WD.last (by kernel_rfl) ?_
    have d428 : Disj F89 F425 := d427 _ (Disj.symm d366) d421 o87.sub
    have d429 : Disj F92 F425 := d427 _ (Disj.symm d367) d422 o90.sub
    have d430 : Disj F95 F425 := d427 _ (Disj.symm d368) d423 o93.sub
    replace o87 := o87.upF (Disj.symm d366) up
    replace o90 := o90.upF (Disj.symm d367) up
    replace o93 := o93.upF (Disj.symm d368) up
    clear up d427
    refine WD.one (i := 10) (by kernel_rfl) ?_
    refine S.stepq (i := 10) (keep := [1, 2, 3, 4, 33, 34]) (m := 3) (σ' := ⟨[(1, .p 0 0), (2, .p 1 0), (3, .p 2 0), (4, .v (I (i : Int))), (33, .v (slv ((acc ++ [(el h.mons i)])).length q424.1)), (34, .p 2 1)], [GT.cells h ph, Zc THost, [slv (h.mem).length q88.1, slv (acc).length q362.1, slv ((([] : List TEntry) ++ h.buf)).length q91.1, slv ((([] : List TEntry) ++ h.iobuf)).length q94.1]]⟩) .nil (by kernel_rfl) ?_
    clear S; intro ac w β S hβ
    refine WD.last (by kernel_rfl) ?_
    clear hβ
    refine WD.one (i := 11) (by kernel_rfl) ?_
    refine S.stepq (i := 11) (keep := [1, 2, 3, 4]) (m := 3) (σ' := ⟨[(1, .p 0 0), (2, .p 1 0), (3, .p 2 0), (4, .v (I (i : Int)))], [GT.cells h ph, Zc THost, [slv (h.mem).length q88.1, slv ((acc ++ [(el h.mons i)])).length q424.1, slv ((([] : List TEntry) ++ h.buf)).length q91.1, slv ((([] : List TEntry) ++ h.iobuf)).length q94.1]]⟩) .nil (by kernel_rfl) ?_
    clear S; intro ac w β S hβ
    refine WD.last (by kernel_rfl) ?_
    clear hβ
    refine WD.done (by kernel_rfl) ?_ _
    replace S := S.p [1, 2, 3, 4] 3 ⟨[(1, .p 0 0), (2, .p 1 0), (3, .p 2 0), (4, .v (I (i : Int)))], [GT.cells h ph, Zc THost, [slv (h.mem).length q88.1, slv ((acc ++ [(el h.mons i)])).length q424.1, slv ((([] : List TEntry) ++ h.buf)).length q91.1, slv ((([] : List TEntry) ++ h.iobuf)).length q94.1]]⟩
    refine id (nx_block (nx_then (RG.start ?_)))
    refine S.q 3 [1, 2, 3, 4] 3 ⟨[(1, .p 0 0), (2, .p 1 0), (3, .p 2 0), (4, .v (I ((i : Int) + 1)))], [GT.cells h ph, Zc THost, [slv (h.mem).length q88.1, slv ((acc ++ [(el h.mons i)])).length q424.1, slv ((([] : List TEntry) ++ h.buf)).length q91.1, slv ((([] : List TEntry) ++ h.iobuf)).length q94.1]]⟩ (.cons (Q_add (x := (i : Int)) (y := 1) ⟨by omega, by omega⟩) .nil) ?_; clear S; intro ac w β S
    refine RG.done rfl (nx_then ?_)
    replace S := S.p [1, 2, 3, 4] 3 ⟨[(1, .p 0 0), (2, .p 1 0), (3, .p 2 0), (4, .v (I ((i : Int) + 1)))], [GT.cells h ph, Zc THost, [slv (h.mem).length q88.1, slv ((acc ++ [(el h.mons i)])).length q424.1, slv ((([] : List TEntry) ++ h.buf)).length q91.1, slv ((([] : List TEntry) ++ h.iobuf)).length q94.1]]⟩
    refine ⟨h.mons.length - (i + 1), by omega, i + 1, (acc ++ [(el h.mons i)]), q424, F425, _, _, _, rfl, ?_, ?_, S.cast (by kernel_rfl), o426, o87, o90, o93, (Disj.symm d428), (Disj.symm d429), (Disj.symm d430)⟩
    · clear S; first | omega | (simp [*]; done) | (simp [*]; omega)
    · clear S; (first | (rw [take_el (by omega), hacc]; done) | (rw [take_el (by omega), hacc]; simp; done))
  · have g431 : ¬ ((i : Int) < ((h.mons).length : Int)) := of_decide_eq_false h369
    refine wp_exit (ex_then (ex_then (ex_hit (nx_then (wp_seq (RG.start ?_))))))
    refine S.q 2 [2] 2 ⟨[(2, .p 1 0)], [GT.cells h ph, [slv (h.mem).length q88.1, slv (acc).length q362.1, slv ((([] : List TEntry) ++ h.buf)).length q91.1, slv ((([] : List TEntry) ++ h.iobuf)).length q94.1]]⟩ .nil ?_; clear S; intro ac w β S
    refine RG.done rfl (nx_then (wp_ret ?_))
    refine S.r [GT.val (⟨h.mem, acc, (([] : List TEntry) ++ h.buf), (([] : List TEntry) ++ h.iobuf)⟩ : THost) (⟨q88, q362, q91, q94⟩ : PHost)] ?_
    have o432 := ow_Host (x := (⟨h.mem, acc, (([] : List TEntry) ++ h.buf), (([] : List TEntry) ++ h.iobuf)⟩ : THost)) (p := (⟨q88, q362, q91, q94⟩ : PHost)) o87 o364 o90 o93 (Disj.symm d366) (Disj.symm d360) (Disj.symm d361) d367 d368 d359 
    exact ret1_of S (show h = (⟨h.mem, acc, (([] : List TEntry) ++ h.buf), (([] : List TEntry) ++ h.iobuf)⟩ : THost) by clear S; (rw [hacc, take_all (by omega)]; first | rfl | (simp; done))) rfl o432

set_option maxRecDepth 100000 in
theorem c_spec_l01In (w0 : World) (x : Int) (a : Int) (b : Int) : Calls Tryz.prog 20 [I x, I a, I b].toArray w0 (fun e w' => e = .returned (B (f_within x a b)) ∧ Chg NoB w0 w') := by
  refine Calls.walk (args := [I x, I a, I b]) NoB Tryz.func20 rfl rfl ?_
  intro ac β S
  refine wp_seq (RG.start ?_)
  refine S.q 1 [0, 1, 2] 0 ⟨[(0, .v (I x)), (1, .v (I a)), (2, .v (I b))], []⟩ .nil ?_; clear S; intro ac w β S
  refine RG.done rfl (nx_then (wp_seq (RG.start ?_)))
  refine S.q 4 [0, 2, 10] 0 ⟨[(0, .v (I x)), (2, .v (I b)), (10, .v (B (decide (x ≥ a))))], []⟩ .nil ?_; clear S; intro ac w β S
  rcases Bool.eq_false_or_eq_true (decide (x ≥ a)) with h1 | h1 <;> rw [h1] at S
  · have g2 : x ≥ a := of_decide_eq_true h1
    refine S.q 5 [6] 0 ⟨[(6, .v (B (decide (x ≤ b))))], []⟩ .nil ?_; clear S; intro ac w β S
    refine RG.done rfl (nx_then (wp_ret ?_))
    refine S.r [B (decide (x ≤ b))] ?_
    exact ⟨retB (by clear S; first | rfl | (simp [f_within, *]; done) | (simp [f_within, *]; omega) | (simp_all [f_within]; done) | (simp_all [f_within]; omega)), S.chg⟩
  · have g3 : ¬ (x ≥ a) := of_decide_eq_false h1
    refine S.q 5 [6] 0 ⟨[(6, .v (B false))], []⟩ .nil ?_; clear S; intro ac w β S
    refine RG.done rfl (nx_then (wp_ret ?_))
    refine S.r [B false] ?_
    exact ⟨retB (by clear S; first | rfl | (simp [f_within, *]; done) | (simp [f_within, *]; omega) | (simp_all [f_within]; done) | (simp_all [f_within]; omega)), S.chg⟩

set_option maxRecDepth 100000 in
theorem c_spec_PageOk (w0 : World) (cells : List Int) (pcells : LP Int) (hcells : GT.rd KK (Lt w0.heap.size) w0 cells pcells) : Calls Tryz.prog 87 [slv (cells).length pcells.1].toArray w0 (fun e w' => e = .returned (B (f_pageOk cells)) ∧ Chg NoB w0 w') := by
  refine Calls.walk (args := [slv (cells).length pcells.1]) NoB Tryz.func87 rfl rfl ?_
  intro ac β S
  have hlecells : cells.length ≤ 4194304 := LRd.le hcells
  refine wp_seq (RG.start ?_)
  refine S.q 1 [0] 0 ⟨[(0, .v (slv (cells).length pcells.1))], []⟩ .nil ?_; clear S; intro ac w β S
  refine RG.done rfl (nx_then (wp_seq (wp_seq (RG.start ?_))))
  refine S.q 1 [0, 3] 0 ⟨[(0, .v (slv (cells).length pcells.1)), (3, .v (I 0))], []⟩ .nil ?_; clear S; intro ac w β S
  refine RG.done rfl (nx_then (wp_block ?_))
  replace S := S.p [0, 3] 0 ⟨[(0, .v (slv (cells).length pcells.1)), (3, .v (I 0))], []⟩
  refine wp_loop_down (fun mm ac w => ∃ (k : Nat)  (u : World) (N : Bl) (β : Nat → Nat), mm = (cells).length - k ∧ (k ≤ (cells).length) ∧ (((cells).take k).all (fun v => f_within v 0 99) = true) ∧ St Tryz.prog Tryz.f87.ntmps w0 NoB u N β ⟨[(0, .v (slv (cells).length pcells.1)), (3, .v (I (k : Int)))], []⟩ ac w) _ ⟨0, _, _, _, rfl, (by first | omega | (simp; done) | (simp; omega)), (by simp), S.cast (by kernel_rfl)⟩ ?_
  clear S
  rintro mm ac w ⟨k, u, N, β, rfl, hk, he, S⟩
  refine wp_seq (wp_seq (RG.start ?_))
  refine S.q 4 [0, 3, 7] 0 ⟨[(0, .v (slv (cells).length pcells.1)), (3, .v (I (k : Int))), (7, .v (B (decide ((k : Int) < ((cells).length : Int)))))], []⟩ .nil ?_; clear S; intro ac w β S
  refine RG.done rfl (nx_then ?_)
  refine S.c (decide ((k : Int) < ((cells).length : Int))) (fun h1 => ?_) (fun h1 => ?_)
  · have g2 : (k : Int) < ((cells).length : Int) := of_decide_eq_true h1
    refine wp_skip (nx_then (wp_seq (wp_block (wp_seq (RG.start ?_)))))
    refine S.q 6 [0, 3, 15] 0 ⟨[(0, .v (slv (cells).length pcells.1)), (3, .v (I (k : Int))), (15, .v (B (!(f_within (el cells k) 0 99))))], []⟩ (.cons (Q_idx (S.arg hcells) (l := (cells).length) (k := k) (i := (k : Int)) rfl rfl (by omega) Tryz.underlying53 (by kernel_rfl)) (.cons (Q_el1 (S.arg hcells) (t := 3) (k := k) (by omega) rfl (by kernel_rfl)) (.cons (Q_call fun w hw => c_spec_l01In w (el cells k) 0 99) .nil))) ?_; clear S; intro ac w β S
    refine RG.done rfl (nx_then ?_)
    refine S.c (!(f_within (el cells k) 0 99)) (fun h3 => ?_) (fun h3 => ?_)
    · have h4 : (f_within (el cells k) 0 99) = false := not_t h3
      have g5 := within_f h4
      refine wp_seq (RG.start ?_)
      refine S.q 1 [2] 0 ⟨[(2, .v (B false))], []⟩ .nil ?_; clear S; intro ac w β S
      refine RG.done rfl (nx_then (wp_ret (rt_block (rt_then (rt_then (rt_block (rt_then ?_)))))))
      refine S.r [B false] ?_
      exact ⟨retB (by clear S; (first | rfl | (unfold f_pageOk; rw [all_end (by omega) he]; simp; done) | (unfold f_pageOk; rw [all_bad (k := k) (by omega) (by first | assumption | (simp_all <;> fail))]; simp; done) | (unfold f_pageOk; rw [all_end (by omega) he]; simp [*]; done) | (unfold f_pageOk; rw [all_end (by omega) he]; simp; omega))), S.chg⟩
    · have h6 : (f_within (el cells k) 0 99) = true := not_f h3
      have g7 := within_t h6
      refine wp_skip (nx_block (nx_then (RG.start ?_)))
      refine S.q 3 [0, 3] 0 ⟨[(0, .v (slv (cells).length pcells.1)), (3, .v (I ((k : Int) + 1)))], []⟩ (.cons (Q_add (x := (k : Int)) (y := 1) ⟨by omega, by omega⟩) .nil) ?_; clear S; intro ac w β S
      refine RG.done rfl (nx_then ?_)
      replace S := S.p [0, 3] 0 ⟨[(0, .v (slv (cells).length pcells.1)), (3, .v (I ((k : Int) + 1)))], []⟩
      refine ⟨(cells).length - (k + 1), by omega, k + 1, _, _, _, rfl, ?_, ?_, S.cast (by kernel_rfl)⟩
      · clear S; first | omega | (simp [*]; done) | (simp [*]; omega)
      · clear S; exact all_step (by omega) he (by first | assumption | (simp only [f_slotOk, f_within] at *; simp_all; done) | (simp_all; done) | (simp_all; omega))
  · have g8 : ¬ ((k : Int) < ((cells).length : Int)) := of_decide_eq_false h1
    refine wp_exit (ex_then (ex_then (ex_hit (nx_then (wp_seq (RG.start ?_))))))
    refine S.q 4 [2] 0 ⟨[(2, .v (B (((cells).length : Int) == 4)))], []⟩ .nil ?_; clear S; intro ac w β S
    refine RG.done rfl (nx_then (wp_ret ?_))
    refine S.r [B (((cells).length : Int) == 4)] ?_
    exact ⟨retB (by clear S; (first | rfl | (unfold f_pageOk; rw [all_end (by omega) he]; simp; done) | (unfold f_pageOk; rw [all_bad (k := k) (by omega) (by first | assumption | (simp_all <;> fail))]; simp; done) | (unfold f_pageOk; rw [all_end (by omega) he]; simp [*]; done) | (unfold f_pageOk; rw [all_end (by omega) he]; simp; omega))), S.chg⟩

set_option maxRecDepth 100000 in
theorem c_spec_MemOk (w0 : World) (m : List (List Int)) (pm : LP (List Int)) (hm : GT.rd KK (Lt w0.heap.size) w0 m pm) (pages : Int) : Calls Tryz.prog 48 [slv (m).length pm.1, I pages].toArray w0 (fun e w' => e = .returned (B (f_memOk m pages)) ∧ Chg NoB w0 w') := by
  refine Calls.walk (args := [slv (m).length pm.1, I pages]) NoB Tryz.func48 rfl rfl ?_
  intro ac β S
  have hlem : m.length ≤ 4194304 := LRd.le hm
  refine wp_seq (RG.start ?_)
  refine S.q 1 [0, 1] 0 ⟨[(0, .v (slv (m).length pm.1)), (1, .v (I pages))], []⟩ .nil ?_; clear S; intro ac w β S
  refine RG.done rfl (nx_then (wp_seq (wp_seq (RG.start ?_))))
  refine S.q 1 [0, 1, 5] 0 ⟨[(0, .v (slv (m).length pm.1)), (1, .v (I pages)), (5, .v (I 0))], []⟩ .nil ?_; clear S; intro ac w β S
  refine RG.done rfl (nx_then (wp_block ?_))
  replace S := S.p [0, 1, 5] 0 ⟨[(0, .v (slv (m).length pm.1)), (1, .v (I pages)), (5, .v (I 0))], []⟩
  refine wp_loop_down (fun mm ac w => ∃ (k : Nat)  (u : World) (N : Bl) (β : Nat → Nat), mm = (m).length - k ∧ (k ≤ (m).length) ∧ (((m).take k).all f_pageOk = true) ∧ St Tryz.prog Tryz.f48.ntmps w0 NoB u N β ⟨[(0, .v (slv (m).length pm.1)), (1, .v (I pages)), (5, .v (I (k : Int)))], []⟩ ac w) _ ⟨0, _, _, _, rfl, (by first | omega | (simp; done) | (simp; omega)), (by simp), S.cast (by kernel_rfl)⟩ ?_
  clear S
  rintro mm ac w ⟨k, u, N, β, rfl, hk, he, S⟩
  refine wp_seq (wp_seq (RG.start ?_))
  refine S.q 4 [0, 1, 5, 9] 0 ⟨[(0, .v (slv (m).length pm.1)), (1, .v (I pages)), (5, .v (I (k : Int))), (9, .v (B (decide ((k : Int) < ((m).length : Int)))))], []⟩ .nil ?_; clear S; intro ac w β S
  refine RG.done rfl (nx_then ?_)
  refine S.c (decide ((k : Int) < ((m).length : Int))) (fun h1 => ?_) (fun h1 => ?_)
  · have g2 : (k : Int) < ((m).length : Int) := of_decide_eq_true h1
    refine wp_skip (nx_then (wp_seq (wp_block (wp_seq (RG.start ?_)))))
    refine S.q 6 [0, 1, 5, 17] 0 ⟨[(0, .v (slv (m).length pm.1)), (1, .v (I pages)), (5, .v (I (k : Int))), (17, .v (B (!(f_pageOk (el m k)))))], []⟩ (.cons (Q_idx (S.arg hm) (l := (m).length) (k := k) (i := (k : Int)) rfl rfl (by omega) Tryz.underlying22 (by kernel_rfl)) (.cons (Q_el1 (S.arg hm) (t := 53) (k := k) (by omega) rfl (by kernel_rfl)) (.cons (Q_call fun w hw => c_spec_PageOk w (el m k) (pm.2 k) (rd_of (LRd.el (S.arg hm) k (by omega)) hw)) .nil))) ?_; clear S; intro ac w β S
    refine RG.done rfl (nx_then ?_)
    refine S.c (!(f_pageOk (el m k))) (fun h3 => ?_) (fun h3 => ?_)
    · have h4 : (f_pageOk (el m k)) = false := not_t h3
      refine wp_seq (RG.start ?_)
      refine S.q 1 [4] 0 ⟨[(4, .v (B false))], []⟩ .nil ?_; clear S; intro ac w β S
      refine RG.done rfl (nx_then (wp_ret (rt_block (rt_then (rt_then (rt_block (rt_then ?_)))))))
      refine S.r [B false] ?_
      exact ⟨retB (by clear S; (first | rfl | (unfold f_memOk; rw [all_end (by omega) he]; simp; done) | (unfold f_memOk; rw [all_bad (k := k) (by omega) (by first | assumption | (simp_all <;> fail))]; simp; done) | (unfold f_memOk; rw [all_end (by omega) he]; simp [*]; done) | (unfold f_memOk; rw [all_end (by omega) he]; simp; omega))), S.chg⟩
    · have h5 : (f_pageOk (el m k)) = true := not_f h3
      refine wp_skip (nx_block (nx_then (RG.start ?_)))
      refine S.q 3 [0, 1, 5] 0 ⟨[(0, .v (slv (m).length pm.1)), (1, .v (I pages)), (5, .v (I ((k : Int) + 1)))], []⟩ (.cons (Q_add (x := (k : Int)) (y := 1) ⟨by omega, by omega⟩) .nil) ?_; clear S; intro ac w β S
      refine RG.done rfl (nx_then ?_)
      replace S := S.p [0, 1, 5] 0 ⟨[(0, .v (slv (m).length pm.1)), (1, .v (I pages)), (5, .v (I ((k : Int) + 1)))], []⟩
      refine ⟨(m).length - (k + 1), by omega, k + 1, _, _, _, rfl, ?_, ?_, S.cast (by kernel_rfl)⟩
      · clear S; first | omega | (simp [*]; done) | (simp [*]; omega)
      · clear S; exact all_step (by omega) he (by first | assumption | (simp only [f_slotOk, f_within] at *; simp_all; done) | (simp_all; done) | (simp_all; omega))
  · have g6 : ¬ ((k : Int) < ((m).length : Int)) := of_decide_eq_false h1
    refine wp_exit (ex_then (ex_then (ex_hit (nx_then (wp_seq (RG.start ?_))))))
    refine S.q 5 [4] 0 ⟨[(4, .v (B (((m).length : Int) == pages)))], []⟩ .nil ?_; clear S; intro ac w β S
    refine RG.done rfl (nx_then (wp_ret ?_))
    refine S.r [B (((m).length : Int) == pages)] ?_
    exact ⟨retB (by clear S; (first | rfl | (unfold f_memOk; rw [all_end (by omega) he]; simp; done) | (unfold f_memOk; rw [all_bad (k := k) (by omega) (by first | assumption | (simp_all <;> fail))]; simp; done) | (unfold f_memOk; rw [all_end (by omega) he]; simp [*]; done) | (unfold f_memOk; rw [all_end (by omega) he]; simp; omega))), S.chg⟩

set_option maxRecDepth 100000 in
theorem c_spec_BufferOk (w0 : World) (b : List TEntry) (pb : LP TEntry) (hb : GT.rd KK (Lt w0.heap.size) w0 b pb) : Calls Tryz.prog 49 [slv (b).length pb.1].toArray w0 (fun e w' => e = .returned (B (f_bufferOk b)) ∧ Chg NoB w0 w') := by
  refine Calls.walk (args := [slv (b).length pb.1]) NoB Tryz.func49 rfl rfl ?_
  intro ac β S
  have hleb : b.length ≤ 4194304 := LRd.le hb
  refine wp_seq (RG.start ?_)
  refine S.q 1 [0] 0 ⟨[(0, .v (slv (b).length pb.1))], []⟩ .nil ?_; clear S; intro ac w β S
  refine RG.done rfl (nx_then (wp_seq (wp_seq (RG.start ?_))))
  refine S.q 1 [0, 3] 0 ⟨[(0, .v (slv (b).length pb.1)), (3, .v (I 0))], []⟩ .nil ?_; clear S; intro ac w β S
  refine RG.done rfl (nx_then (wp_block ?_))
  replace S := S.p [0, 3] 0 ⟨[(0, .v (slv (b).length pb.1)), (3, .v (I 0))], []⟩
  refine wp_loop_down (fun mm ac w => ∃ (i : Nat)  (u : World) (N : Bl) (β : Nat → Nat), mm = b.length - i ∧ (i ≤ b.length) ∧ ((List.range i).all (fun i => (List.range i).all fun k => !(decide ((el b i).tag = (el b k).tag) && decide ((el b i).page = (el b k).page))) = true) ∧ St Tryz.prog Tryz.f49.ntmps w0 NoB u N β ⟨[(0, .v (slv (b).length pb.1)), (3, .v (I (i : Int)))], []⟩ ac w) _ ⟨0, _, _, _, rfl, (by first | omega | (simp; done) | (simp; omega)), (by rfl), S.cast (by kernel_rfl)⟩ ?_
  clear S
  rintro mm ac w ⟨i, u, N, β, rfl, hi, he, S⟩
  refine wp_seq (wp_seq (RG.start ?_))
  refine S.q 4 [0, 3, 8] 0 ⟨[(0, .v (slv (b).length pb.1)), (3, .v (I (i : Int))), (8, .v (B (decide ((i : Int) < ((b).length : Int)))))], []⟩ .nil ?_; clear S; intro ac w β S
  refine RG.done rfl (nx_then ?_)
  refine S.c (decide ((i : Int) < ((b).length : Int))) (fun h1 => ?_) (fun h1 => ?_)
  · have g2 : (i : Int) < ((b).length : Int) := of_decide_eq_true h1
    refine wp_skip (nx_then (wp_seq (wp_block (wp_seq (RG.start ?_)))))
    refine S.q 1 [0, 3, 4] 0 ⟨[(0, .v (slv (b).length pb.1)), (3, .v (I (i : Int))), (4, .v (I 0))], []⟩ .nil ?_; clear S; intro ac w β S
    refine RG.done rfl (nx_then (wp_block ?_))
    replace S := S.p [0, 3, 4] 0 ⟨[(0, .v (slv (b).length pb.1)), (3, .v (I (i : Int))), (4, .v (I 0))], []⟩
    refine wp_loop_down (fun mm ac w => ∃ (k : Nat)  (u : World) (N : Bl) (β : Nat → Nat), mm = i - k ∧ (k ≤ i) ∧ ((List.range k).all (fun k => !(decide ((el b i).tag = (el b k).tag) && decide ((el b i).page = (el b k).page))) = true) ∧ St Tryz.prog Tryz.f49.ntmps w0 NoB u N β ⟨[(0, .v (slv (b).length pb.1)), (3, .v (I (i : Int))), (4, .v (I (k : Int)))], []⟩ ac w) _ ⟨0, _, _, _, rfl, (by first | omega | (simp; done) | (simp; omega)), (by rfl), S.cast (by kernel_rfl)⟩ ?_
    clear S
    rintro mm ac w ⟨k, u, N, β, rfl, hk, he2, S⟩
    have eltk : k < i → el (b.take i) k = el b k := fun h => el_take h
    refine wp_seq (wp_seq (RG.start ?_))
    refine S.q 3 [0, 3, 4, 13] 0 ⟨[(0, .v (slv (b).length pb.1)), (3, .v (I (i : Int))), (4, .v (I (k : Int))), (13, .v (B (decide ((k : Int) < (i : Int)))))], []⟩ .nil ?_; clear S; intro ac w β S
    refine RG.done rfl (nx_then ?_)
    refine S.c (decide ((k : Int) < (i : Int))) (fun h3 => ?_) (fun h3 => ?_)
    · have g4 : (k : Int) < (i : Int) := of_decide_eq_true h3
      refine wp_skip (nx_then (wp_seq (wp_block (wp_seq ?_))))
      rcases Bool.eq_false_or_eq_true ((el b i).tag == (el b k).tag) with h5 | h5
      · have g6 : (el b i).tag = (el b k).tag := eq_of_beq h5
        refine S.drawnO [(11, true)] (keep := [0, 3, 4, 39]) (m := 0) (σ' := ⟨[(0, .v (slv (b).length pb.1)), (3, .v (I (i : Int))), (4, .v (I (k : Int))), (39, .v (B ((el b i).page == (el b k).page)))], []⟩) (.cons (Q_idx (S.arg hb) (l := (b).length) (k := i) (i := (i : Int)) rfl rfl (by omega) Tryz.underlying29 (by kernel_rfl)) (.cons (Q_cell (S.arg hb) (t := 3) (k := i) (j := 0) (v := I ((el b i).tag)) (by omega) (by kernel_rfl) (by kernel_rfl)) (.cons (Q_idx (S.arg hb) (l := (b).length) (k := k) (i := (k : Int)) rfl rfl (by omega) Tryz.underlying29 (by kernel_rfl)) (.cons (Q_cell (S.arg hb) (t := 3) (k := k) (j := 0) (v := I ((el b k).tag)) (by omega) (by kernel_rfl) (by kernel_rfl)) (.cons (Q_idx (S.arg hb) (l := (b).length) (k := i) (i := (i : Int)) rfl rfl (by omega) Tryz.underlying29 (by kernel_rfl)) (.cons (Q_cell (S.arg hb) (t := 3) (k := i) (j := 1) (v := I ((el b i).page)) (by omega) (by kernel_rfl) (by kernel_rfl)) (.cons (Q_idx (S.arg hb) (l := (b).length) (k := k) (i := (k : Int)) rfl rfl (by omega) Tryz.underlying29 (by kernel_rfl)) (.cons (Q_cell (S.arg hb) (t := 3) (k := k) (j := 1) (v := I ((el b k).page)) (by omega) (by kernel_rfl) (by kernel_rfl)) .nil)))))))) rfl (by kernel_rfl) (by kernel_rfl) (.cons h5 .nil) ?_
        clear S; intro ac w S
        refine id (nx_then ?_)
        refine S.c ((el b i).page == (el b k).page) (fun h7 => ?_) (fun h7 => ?_)
        · have g8 : (el b i).page = (el b k).page := eq_of_beq h7
          refine wp_seq (RG.start ?_)
          refine S.q 1 [2] 0 ⟨[(2, .v (B false))], []⟩ .nil ?_; clear S; intro ac w β S
          refine RG.done rfl (nx_then (wp_ret (rt_block (rt_then (rt_then (rt_block (rt_block (rt_then (rt_then (rt_block (rt_then ?_)))))))))))
          refine S.r [B false] ?_
          exact ⟨retB (by clear S; (first | (unfold f_bufferOk; rw [show b.length = i by omega, he]; first | rfl | (simp [*]; done) | (simp; omega) | (rw [Bool.eq_iff_iff]; simp; omega)) | (unfold f_bufferOk; rw [rng_bad (k := i) (by omega) (rng_bad (k := k) (by omega) (by simp_all <;> fail))]; rfl))), S.chg⟩
        · have g9 : ¬ ((el b i).page = (el b k).page) := ne_of_beq_false h7
          refine wp_skip (nx_block (nx_then (RG.start ?_)))
          refine S.q 3 [0, 3, 4] 0 ⟨[(0, .v (slv (b).length pb.1)), (3, .v (I (i : Int))), (4, .v (I ((k : Int) + 1)))], []⟩ (.cons (Q_add (x := (k : Int)) (y := 1) ⟨by omega, by omega⟩) .nil) ?_; clear S; intro ac w β S
          refine RG.done rfl (nx_then ?_)
          replace S := S.p [0, 3, 4] 0 ⟨[(0, .v (slv (b).length pb.1)), (3, .v (I (i : Int))), (4, .v (I ((k : Int) + 1)))], []⟩
          refine ⟨i - (k + 1), by omega, k + 1, _, _, _, rfl, ?_, ?_, S.cast (by kernel_rfl)⟩
          · clear S; first | omega | (simp [*]; done) | (simp [*]; omega)
          · clear S; (refine rng_step he2 ?_; simp_all)
      · have g10 : ¬ ((el b i).tag = (el b k).tag) := ne_of_beq_false h5
        refine S.drawnO [(11, false)] (keep := [0, 3, 4, 39]) (m := 0) (σ' := ⟨[(0, .v (slv (b).length pb.1)), (3, .v (I (i : Int))), (4, .v (I (k : Int))), (39, .v (B false))], []⟩) (.cons (Q_idx (S.arg hb) (l := (b).length) (k := i) (i := (i : Int)) rfl rfl (by omega) Tryz.underlying29 (by kernel_rfl)) (.cons (Q_cell (S.arg hb) (t := 3) (k := i) (j := 0) (v := I ((el b i).tag)) (by omega) (by kernel_rfl) (by kernel_rfl)) (.cons (Q_idx (S.arg hb) (l := (b).length) (k := k) (i := (k : Int)) rfl rfl (by omega) Tryz.underlying29 (by kernel_rfl)) (.cons (Q_cell (S.arg hb) (t := 3) (k := k) (j := 0) (v := I ((el b k).tag)) (by omega) (by kernel_rfl) (by kernel_rfl)) .nil)))) rfl (by kernel_rfl) (by kernel_rfl) (.cons h5 .nil) ?_
        clear S; intro ac w S
        refine id (nx_then ?_)
        refine S.c false (fun hx => by cases hx) (fun _ => ?_)
        refine wp_skip (nx_block (nx_then (RG.start ?_)))
        refine S.q 3 [0, 3, 4] 0 ⟨[(0, .v (slv (b).length pb.1)), (3, .v (I (i : Int))), (4, .v (I ((k : Int) + 1)))], []⟩ (.cons (Q_add (x := (k : Int)) (y := 1) ⟨by omega, by omega⟩) .nil) ?_; clear S; intro ac w β S
        refine RG.done rfl (nx_then ?_)
        replace S := S.p [0, 3, 4] 0 ⟨[(0, .v (slv (b).length pb.1)), (3, .v (I (i : Int))), (4, .v (I ((k : Int) + 1)))], []⟩
        refine ⟨i - (k + 1), by omega, k + 1, _, _, _, rfl, ?_, ?_, S.cast (by kernel_rfl)⟩
        · clear S; first | omega | (simp [*]; done) | (simp [*]; omega)
        · clear S; (refine rng_step he2 ?_; simp_all)
    · have g11 : ¬ ((k : Int) < (i : Int)) := of_decide_eq_false h3
      refine wp_exit (ex_then (ex_then (ex_hit (nx_block (nx_then (RG.start ?_))))))
      refine S.q 3 [0, 3] 0 ⟨[(0, .v (slv (b).length pb.1)), (3, .v (I ((i : Int) + 1)))], []⟩ (.cons (Q_add (x := (i : Int)) (y := 1) ⟨by omega, by omega⟩) .nil) ?_; clear S; intro ac w β S
      refine RG.done rfl (nx_then ?_)
      replace S := S.p [0, 3] 0 ⟨[(0, .v (slv (b).length pb.1)), (3, .v (I ((i : Int) + 1)))], []⟩
      refine ⟨b.length - (i + 1), by omega, i + 1, _, _, _, rfl, ?_, ?_, S.cast (by kernel_rfl)⟩
      · clear S; first | omega | (simp [*]; done) | (simp [*]; omega)
      · clear S; (refine rng_step he ?_); (have e : k = i := (by omega)); rw [e] at he2; exact he2
  · have g12 : ¬ ((i : Int) < ((b).length : Int)) := of_decide_eq_false h1
    refine wp_exit (ex_then (ex_then (ex_hit (nx_then (wp_seq (RG.start ?_))))))
    refine S.q 4 [2] 0 ⟨[(2, .v (B (decide (((b).length : Int) ≤ 6))))], []⟩ .nil ?_; clear S; intro ac w β S
    refine RG.done rfl (nx_then (wp_ret ?_))
    refine S.r [B (decide (((b).length : Int) ≤ 6))] ?_
    exact ⟨retB (by clear S; (first | (unfold f_bufferOk; rw [show b.length = i by omega, he]; first | rfl | (simp [*]; done) | (simp; omega) | (rw [Bool.eq_iff_iff]; simp; omega)) | (unfold f_bufferOk; rw [rng_bad (k := i) (by omega) (rng_bad (k := k) (by omega) (by simp_all <;> fail))]; rfl))), S.chg⟩

set_option maxRecDepth 100000 in
theorem c_spec_NoSlot (w0 : World)  : Calls Tryz.prog 90 [].toArray w0 (fun e w' => e = .returned (GT.val (⟨-1, 0⟩ : TSlot) ()) ∧ Chg NoB w0 w') := by
  refine Calls.walk (args := []) NoB Tryz.func90 rfl rfl ?_
  intro ac β S
  refine wp_seq (RG.start ?_)
  refine S.q 1 [0] 1 ⟨[(0, .p 0 0)], [Zc TSlot]⟩ .nil ?_; clear S; intro ac w β S
  refine RG.done rfl (nx_then (wp_seq (RG.start ?_)))
  refine S.q 2 [0] 1 ⟨[(0, .p 0 0)], [[I (-1), I 0]]⟩ (.cons (Q_sem (s := Instr.build 87 [(0, I (-1))].toArray) (v := .agg [I (-1), I 0].toArray) (fun w => by kernel_rfl)) .nil) ?_; clear S; intro ac w β S
  refine RG.done rfl (nx_then (wp_ret ?_))
  refine S.r [GT.val (⟨(-1), 0⟩ : TSlot) ()] ?_
  exact ⟨retV (p := ()) (by clear S; first | rfl | (simp [id, *]; done) | (simp [id, *]; omega) | (simp_all [id]; done) | (simp_all [id]; omega)), S.chg⟩

set_option maxRecDepth 100000 in
theorem c_spec_SlotOk (w0 : World) (s : TSlot) (pages : Int) (pre0 : 0 ≤ pages) (pre1 : pages ≤ 1000) : Calls Tryz.prog 126 [GT.val s (), I pages].toArray w0 (fun e w' => e = .returned (B (f_slotOk s pages)) ∧ Chg NoB w0 w') := by
  refine Calls.walk (args := [GT.val s (), I pages]) NoB Tryz.func126 rfl rfl ?_
  intro ac β S
  refine wp_seq (RG.start ?_)
  refine S.q 2 [1, 2] 1 ⟨[(1, .v (I pages)), (2, .p 0 0)], [GT.cells s ()]⟩ .nil ?_; clear S; intro ac w β S
  refine RG.done rfl (nx_then (wp_seq ?_))
  rcases Bool.eq_false_or_eq_true (decide (s = ((⟨-1, 0⟩ : TSlot)))) with h1 | h1
  · refine S.drawnO [(3, true)] (keep := [4]) (m := 0) (σ' := ⟨[(4, .v (B true))], []⟩) (.cons (Q_call fun w hw => c_spec_NoSlot w ) (.cons (Eq_eq_Slot (t := 87) s ((⟨-1, 0⟩ : TSlot)) (by kernel_rfl)) .nil)) rfl (by kernel_rfl) (by kernel_rfl) (.cons h1 .nil) ?_
    clear S; intro ac w S
    refine id (nx_then (wp_ret ?_))
    refine S.r [B true] ?_
    exact ⟨retB (by clear S; first | rfl | (simp [f_slotOk, *]; done) | (simp [f_slotOk, *]; omega) | (simp_all [f_slotOk]; done) | (simp_all [f_slotOk]; omega)), S.chg⟩
  · rcases Bool.eq_false_or_eq_true (f_within s.page 0 (pages - 1)) with h2 | h2
    · have g3 := within_t h2
      rcases Bool.eq_false_or_eq_true (decide (pages > 0)) with h4 | h4
      · have g5 : pages > 0 := of_decide_eq_true h4
        refine S.drawnO [(3, false), (9, true), (13, true)] (keep := [4]) (m := 0) (σ' := ⟨[(4, .v (B (f_within s.rights 1 3)))], []⟩) (.cons (Q_call fun w hw => c_spec_NoSlot w ) (.cons (Eq_eq_Slot (t := 87) s ((⟨-1, 0⟩ : TSlot)) (by kernel_rfl)) (.cons (Q_sub (x := pages) (y := 1) ⟨by omega, by omega⟩) (.cons (Q_call fun w hw => c_spec_l01In w s.page 0 (pages - 1)) (.cons (Q_call fun w hw => c_spec_l01In w s.rights 1 3) .nil))))) rfl (by kernel_rfl) (by kernel_rfl) (.cons h1 (.cons h2 (.cons h4 .nil))) ?_
        clear S; intro ac w S
        refine id (nx_then (wp_ret ?_))
        refine S.r [B (f_within s.rights 1 3)] ?_
        exact ⟨retB (by clear S; first | rfl | (simp [f_slotOk, *]; done) | (simp [f_slotOk, *]; omega) | (simp_all [f_slotOk]; done) | (simp_all [f_slotOk]; omega)), S.chg⟩
      · have g6 : ¬ (pages > 0) := of_decide_eq_false h4
        refine S.drawnO [(3, false), (9, true), (13, false)] (keep := [4]) (m := 0) (σ' := ⟨[(4, .v (B false))], []⟩) (.cons (Q_call fun w hw => c_spec_NoSlot w ) (.cons (Eq_eq_Slot (t := 87) s ((⟨-1, 0⟩ : TSlot)) (by kernel_rfl)) (.cons (Q_sub (x := pages) (y := 1) ⟨by omega, by omega⟩) (.cons (Q_call fun w hw => c_spec_l01In w s.page 0 (pages - 1)) .nil)))) rfl (by kernel_rfl) (by kernel_rfl) (.cons h1 (.cons h2 (.cons h4 .nil))) ?_
        clear S; intro ac w S
        refine id (nx_then (wp_ret ?_))
        refine S.r [B false] ?_
        exact ⟨retB (by clear S; first | rfl | (simp [f_slotOk, *]; done) | (simp [f_slotOk, *]; omega) | (simp_all [f_slotOk]; done) | (simp_all [f_slotOk]; omega)), S.chg⟩
    · have g7 := within_f h2
      refine S.drawnO [(3, false), (9, false)] (keep := [4]) (m := 0) (σ' := ⟨[(4, .v (B false))], []⟩) (.cons (Q_call fun w hw => c_spec_NoSlot w ) (.cons (Eq_eq_Slot (t := 87) s ((⟨-1, 0⟩ : TSlot)) (by kernel_rfl)) (.cons (Q_sub (x := pages) (y := 1) ⟨by omega, by omega⟩) (.cons (Q_call fun w hw => c_spec_l01In w s.page 0 (pages - 1)) .nil)))) rfl (by kernel_rfl) (by kernel_rfl) (.cons h1 (.cons h2 .nil)) ?_
      clear S; intro ac w S
      refine id (nx_then (wp_ret ?_))
      refine S.r [B false] ?_
      exact ⟨retB (by clear S; first | rfl | (simp [f_slotOk, *]; done) | (simp [f_slotOk, *]; omega) | (simp_all [f_slotOk]; done) | (simp_all [f_slotOk]; omega)), S.chg⟩

set_option maxRecDepth 100000 in
theorem c_spec_TableOk (w0 : World) (t : List TSlot) (pt : LP TSlot) (ht : GT.rd KK (Lt w0.heap.size) w0 t pt) (size : Int) (pages : Int) (pre0 : 0 ≤ pages) (pre1 : pages ≤ 1000) : Calls Tryz.prog 88 [slv (t).length pt.1, I size, I pages].toArray w0 (fun e w' => e = .returned (B (f_tableOk t size pages)) ∧ Chg NoB w0 w') := by
  refine Calls.walk (args := [slv (t).length pt.1, I size, I pages]) NoB Tryz.func88 rfl rfl ?_
  intro ac β S
  have hlet : t.length ≤ 4194304 := LRd.le ht
  refine wp_seq (RG.start ?_)
  refine S.q 1 [0, 1, 2] 0 ⟨[(0, .v (slv (t).length pt.1)), (1, .v (I size)), (2, .v (I pages))], []⟩ .nil ?_; clear S; intro ac w β S
  refine RG.done rfl (nx_then (wp_seq (wp_seq (RG.start ?_))))
  refine S.q 1 [0, 1, 2, 7] 0 ⟨[(0, .v (slv (t).length pt.1)), (1, .v (I size)), (2, .v (I pages)), (7, .v (I 0))], []⟩ .nil ?_; clear S; intro ac w β S
  refine RG.done rfl (nx_then (wp_block ?_))
  replace S := S.p [0, 1, 2, 7] 0 ⟨[(0, .v (slv (t).length pt.1)), (1, .v (I size)), (2, .v (I pages)), (7, .v (I 0))], []⟩
  refine wp_loop_down (fun mm ac w => ∃ (k : Nat)  (u : World) (N : Bl) (β : Nat → Nat), mm = (t).length - k ∧ (k ≤ (t).length) ∧ (((t).take k).all (fun s => f_slotOk s pages) = true) ∧ St Tryz.prog Tryz.f88.ntmps w0 NoB u N β ⟨[(0, .v (slv (t).length pt.1)), (1, .v (I size)), (2, .v (I pages)), (7, .v (I (k : Int)))], []⟩ ac w) _ ⟨0, _, _, _, rfl, (by first | omega | (simp; done) | (simp; omega)), (by simp), S.cast (by kernel_rfl)⟩ ?_
  clear S
  rintro mm ac w ⟨k, u, N, β, rfl, hk, he, S⟩
  refine wp_seq (wp_seq (RG.start ?_))
  refine S.q 4 [0, 1, 2, 7, 11] 0 ⟨[(0, .v (slv (t).length pt.1)), (1, .v (I size)), (2, .v (I pages)), (7, .v (I (k : Int))), (11, .v (B (decide ((k : Int) < ((t).length : Int)))))], []⟩ .nil ?_; clear S; intro ac w β S
  refine RG.done rfl (nx_then ?_)
  refine S.c (decide ((k : Int) < ((t).length : Int))) (fun h1 => ?_) (fun h1 => ?_)
  · have g2 : (k : Int) < ((t).length : Int) := of_decide_eq_true h1
    refine wp_skip (nx_then (wp_seq (wp_block (wp_seq (RG.start ?_)))))
    refine S.q 7 [0, 1, 2, 7, 20] 0 ⟨[(0, .v (slv (t).length pt.1)), (1, .v (I size)), (2, .v (I pages)), (7, .v (I (k : Int))), (20, .v (B (!(f_slotOk (el t k) pages))))], []⟩ (.cons (Q_idx (S.arg ht) (l := (t).length) (k := k) (i := (k : Int)) rfl rfl (by omega) Tryz.underlying50 (by kernel_rfl)) (.cons (Q_el (S.arg ht) (t := 87) (k := k) (by omega) rfl (by kernel_rfl) (by kernel_rfl)) (.cons (Q_call fun w hw => c_spec_SlotOk w (el t k) pages (by omega) (by omega)) .nil))) ?_; clear S; intro ac w β S
    refine RG.done rfl (nx_then ?_)
    refine S.c (!(f_slotOk (el t k) pages)) (fun h3 => ?_) (fun h3 => ?_)
    · have h4 : (f_slotOk (el t k) pages) = false := not_t h3
      refine wp_seq (RG.start ?_)
      refine S.q 1 [6] 0 ⟨[(6, .v (B false))], []⟩ .nil ?_; clear S; intro ac w β S
      refine RG.done rfl (nx_then (wp_ret (rt_block (rt_then (rt_then (rt_block (rt_then ?_)))))))
      refine S.r [B false] ?_
      exact ⟨retB (by clear S; (first | rfl | (unfold f_tableOk; rw [all_end (by omega) he]; simp; done) | (unfold f_tableOk; rw [all_bad (k := k) (by omega) (by first | assumption | (simp_all <;> fail))]; simp; done) | (unfold f_tableOk; rw [all_end (by omega) he]; simp [*]; done) | (unfold f_tableOk; rw [all_end (by omega) he]; simp; omega))), S.chg⟩
    · have h5 : (f_slotOk (el t k) pages) = true := not_f h3
      refine wp_skip (nx_block (nx_then (RG.start ?_)))
      refine S.q 3 [0, 1, 2, 7] 0 ⟨[(0, .v (slv (t).length pt.1)), (1, .v (I size)), (2, .v (I pages)), (7, .v (I ((k : Int) + 1)))], []⟩ (.cons (Q_add (x := (k : Int)) (y := 1) ⟨by omega, by omega⟩) .nil) ?_; clear S; intro ac w β S
      refine RG.done rfl (nx_then ?_)
      replace S := S.p [0, 1, 2, 7] 0 ⟨[(0, .v (slv (t).length pt.1)), (1, .v (I size)), (2, .v (I pages)), (7, .v (I ((k : Int) + 1)))], []⟩
      refine ⟨(t).length - (k + 1), by omega, k + 1, _, _, _, rfl, ?_, ?_, S.cast (by kernel_rfl)⟩
      · clear S; first | omega | (simp [*]; done) | (simp [*]; omega)
      · clear S; exact all_step (by omega) he (by first | assumption | (simp only [f_slotOk, f_within] at *; simp_all; done) | (simp_all; done) | (simp_all; omega))
  · have g6 : ¬ ((k : Int) < ((t).length : Int)) := of_decide_eq_false h1
    refine wp_exit (ex_then (ex_then (ex_hit (nx_then (wp_seq (RG.start ?_))))))
    refine S.q 5 [6] 0 ⟨[(6, .v (B (((t).length : Int) == size)))], []⟩ .nil ?_; clear S; intro ac w β S
    refine RG.done rfl (nx_then (wp_ret ?_))
    refine S.r [B (((t).length : Int) == size)] ?_
    exact ⟨retB (by clear S; (first | rfl | (unfold f_tableOk; rw [all_end (by omega) he]; simp; done) | (unfold f_tableOk; rw [all_bad (k := k) (by omega) (by first | assumption | (simp_all <;> fail))]; simp; done) | (unfold f_tableOk; rw [all_end (by omega) he]; simp [*]; done) | (unfold f_tableOk; rw [all_end (by omega) he]; simp; omega))), S.chg⟩

set_option maxRecDepth 100000 in
theorem c_spec_InsOk (w0 : World) (i : TIns) : Calls Tryz.prog 144 [GT.val i ()].toArray w0 (fun e w' => e = .returned (B (f_insOk i)) ∧ Chg NoB w0 w') := by
  refine Calls.walk (args := [GT.val i ()]) NoB Tryz.func144 rfl rfl ?_
  intro ac β S
  refine wp_seq (RG.start ?_)
  refine S.q 2 [1] 1 ⟨[(1, .p 0 0)], [GT.cells i ()]⟩ .nil ?_; clear S; intro ac w β S
  refine RG.done rfl (nx_then (wp_seq (wp_seq (RG.start ?_))))
  refine S.q 2 [1, 4] 1 ⟨[(1, .p 0 0), (4, .v (I i.opc))], [GT.cells i ()]⟩ .nil ?_; clear S; intro ac w β S
  refine RG.done rfl (nx_then (wp_block (wp_seq (wp_seq (RG.start ?_)))))
  refine S.q 2 [1, 4, 5] 1 ⟨[(1, .p 0 0), (4, .v (I i.opc)), (5, .v (B (i.opc == 1)))], [GT.cells i ()]⟩ .nil ?_; clear S; intro ac w β S
  refine RG.done rfl (nx_then ?_)
  refine S.c (i.opc == 1) (fun h1 => ?_) (fun h1 => ?_)
  · rw [h1] at S
    have g2 : i.opc = 1 := eq_of_beq h1
    refine wp_skip (nx_then ?_)
    refine S.c true (fun _ => ?_) (fun hx => by cases hx)
    refine wp_seq (RG.start ?_)
    refine S.q 4 [2] 0 ⟨[(2, .v (B (f_within i.x 0 99)))], []⟩ (.cons (Q_call fun w hw => c_spec_l01In w i.x 0 99) .nil) ?_; clear S; intro ac w β S
    refine RG.done rfl (nx_then (wp_ret (rt_block (rt_then ?_))))
    refine S.r [B (f_within i.x 0 99)] ?_
    exact ⟨retB (by clear S; first | rfl | (simp [f_insOk, *]; done) | (simp [f_insOk, *]; omega) | (simp_all [f_insOk]; done) | (simp_all [f_insOk]; omega)), S.chg⟩
  · have g3 : ¬ (i.opc = 1) := ne_of_beq_false h1
    refine wp_seq (RG.start ?_)
    refine S.q 2 [1, 4, 5] 1 ⟨[(1, .p 0 0), (4, .v (I i.opc)), (5, .v (B (i.opc == 2)))], [GT.cells i ()]⟩ .nil ?_; clear S; intro ac w β S
    refine RG.done rfl (nx_then ?_)
    refine S.c (i.opc == 2) (fun h4 => ?_) (fun h4 => ?_)
    · rw [h4] at S
      have g5 : i.opc = 2 := eq_of_beq h4
      refine wp_skip (nx_then ?_)
      refine S.c true (fun _ => ?_) (fun hx => by cases hx)
      refine wp_seq (RG.start ?_)
      refine S.q 4 [2] 0 ⟨[(2, .v (B (f_within i.x 0 99)))], []⟩ (.cons (Q_call fun w hw => c_spec_l01In w i.x 0 99) .nil) ?_; clear S; intro ac w β S
      refine RG.done rfl (nx_then (wp_ret (rt_block (rt_then ?_))))
      refine S.r [B (f_within i.x 0 99)] ?_
      exact ⟨retB (by clear S; first | rfl | (simp [f_insOk, *]; done) | (simp [f_insOk, *]; omega) | (simp_all [f_insOk]; done) | (simp_all [f_insOk]; omega)), S.chg⟩
    · have g6 : ¬ (i.opc = 2) := ne_of_beq_false h4
      refine wp_seq (RG.start ?_)
      refine S.q 2 [1, 4, 5] 1 ⟨[(1, .p 0 0), (4, .v (I i.opc)), (5, .v (B (i.opc == 5)))], [GT.cells i ()]⟩ .nil ?_; clear S; intro ac w β S
      refine RG.done rfl (nx_then ?_)
      refine S.c (i.opc == 5) (fun h7 => ?_) (fun h7 => ?_)
      · rw [h7] at S
        have g8 : i.opc = 5 := eq_of_beq h7
        refine wp_skip (nx_then ?_)
        refine S.c true (fun _ => ?_) (fun hx => by cases hx)
        refine wp_seq (RG.start ?_)
        refine S.q 4 [2] 0 ⟨[(2, .v (B (f_within i.x 0 99)))], []⟩ (.cons (Q_call fun w hw => c_spec_l01In w i.x 0 99) .nil) ?_; clear S; intro ac w β S
        refine RG.done rfl (nx_then (wp_ret (rt_block (rt_then ?_))))
        refine S.r [B (f_within i.x 0 99)] ?_
        exact ⟨retB (by clear S; first | rfl | (simp [f_insOk, *]; done) | (simp [f_insOk, *]; omega) | (simp_all [f_insOk]; done) | (simp_all [f_insOk]; omega)), S.chg⟩
      · have g9 : ¬ (i.opc = 5) := ne_of_beq_false h7
        refine RG.start ?_
        refine S.q 2 [1, 4, 5] 1 ⟨[(1, .p 0 0), (4, .v (I i.opc)), (5, .v (B (i.opc == 6)))], [GT.cells i ()]⟩ .nil ?_; clear S; intro ac w β S
        refine RG.done rfl (nx_then ?_)
        refine S.c (i.opc == 6) (fun h10 => ?_) (fun h10 => ?_)
        · have g11 : i.opc = 6 := eq_of_beq h10
          refine wp_seq (RG.start ?_)
          refine S.q 4 [2] 0 ⟨[(2, .v (B (f_within i.x 0 99)))], []⟩ (.cons (Q_call fun w hw => c_spec_l01In w i.x 0 99) .nil) ?_; clear S; intro ac w β S
          refine RG.done rfl (nx_then (wp_ret (rt_block (rt_then ?_))))
          refine S.r [B (f_within i.x 0 99)] ?_
          exact ⟨retB (by clear S; first | rfl | (simp [f_insOk, *]; done) | (simp [f_insOk, *]; omega) | (simp_all [f_insOk]; done) | (simp_all [f_insOk]; omega)), S.chg⟩
        · have g12 : ¬ (i.opc = 6) := ne_of_beq_false h10
          refine wp_seq (wp_seq (RG.start ?_))
          refine S.q 2 [1, 4, 13] 1 ⟨[(1, .p 0 0), (4, .v (I i.opc)), (13, .v (B (i.opc == 3)))], [GT.cells i ()]⟩ .nil ?_; clear S; intro ac w β S
          refine RG.done rfl (nx_then ?_)
          refine S.c (i.opc == 3) (fun h13 => ?_) (fun h13 => ?_)
          · rw [h13] at S
            have g14 : i.opc = 3 := eq_of_beq h13
            refine wp_skip (nx_then ?_)
            refine S.c true (fun _ => ?_) (fun hx => by cases hx)
            refine wp_seq (RG.start ?_)
            refine S.q 4 [2] 0 ⟨[(2, .v (B (f_within i.x 0 15)))], []⟩ (.cons (Q_call fun w hw => c_spec_l01In w i.x 0 15) .nil) ?_; clear S; intro ac w β S
            refine RG.done rfl (nx_then (wp_ret (rt_block (rt_then ?_))))
            refine S.r [B (f_within i.x 0 15)] ?_
            exact ⟨retB (by clear S; first | rfl | (simp [f_insOk, *]; done) | (simp [f_insOk, *]; omega) | (simp_all [f_insOk]; done) | (simp_all [f_insOk]; omega)), S.chg⟩
          · have g15 : ¬ (i.opc = 3) := ne_of_beq_false h13
            refine RG.start ?_
            refine S.q 2 [1, 4, 13] 1 ⟨[(1, .p 0 0), (4, .v (I i.opc)), (13, .v (B (i.opc == 4)))], [GT.cells i ()]⟩ .nil ?_; clear S; intro ac w β S
            refine RG.done rfl (nx_then ?_)
            refine S.c (i.opc == 4) (fun h16 => ?_) (fun h16 => ?_)
            · have g17 : i.opc = 4 := eq_of_beq h16
              refine wp_seq (RG.start ?_)
              refine S.q 4 [2] 0 ⟨[(2, .v (B (f_within i.x 0 15)))], []⟩ (.cons (Q_call fun w hw => c_spec_l01In w i.x 0 15) .nil) ?_; clear S; intro ac w β S
              refine RG.done rfl (nx_then (wp_ret (rt_block (rt_then ?_))))
              refine S.r [B (f_within i.x 0 15)] ?_
              exact ⟨retB (by clear S; first | rfl | (simp [f_insOk, *]; done) | (simp [f_insOk, *]; omega) | (simp_all [f_insOk]; done) | (simp_all [f_insOk]; omega)), S.chg⟩
            · have g18 : ¬ (i.opc = 4) := ne_of_beq_false h16
              refine wp_seq (RG.start ?_)
              refine S.q 2 [1, 4, 19] 1 ⟨[(1, .p 0 0), (4, .v (I i.opc)), (19, .v (B (i.opc == 7)))], [GT.cells i ()]⟩ .nil ?_; clear S; intro ac w β S
              refine RG.done rfl (nx_then ?_)
              refine S.c (i.opc == 7) (fun h19 => ?_) (fun h19 => ?_)
              · have g20 : i.opc = 7 := eq_of_beq h19
                refine wp_seq (RG.start ?_)
                refine S.q 4 [2] 0 ⟨[(2, .v (B (i.x == 0)))], []⟩ .nil ?_; clear S; intro ac w β S
                refine RG.done rfl (nx_then (wp_ret (rt_block (rt_then ?_))))
                refine S.r [B (i.x == 0)] ?_
                exact ⟨retB (by clear S; first | rfl | (simp [f_insOk, *]; done) | (simp [f_insOk, *]; omega) | (simp_all [f_insOk]; done) | (simp_all [f_insOk]; omega)), S.chg⟩
              · have g21 : ¬ (i.opc = 7) := ne_of_beq_false h19
                refine wp_seq (RG.start ?_)
                refine S.q 2 [1, 24] 1 ⟨[(1, .p 0 0), (24, .v (B (i.opc == 8)))], [GT.cells i ()]⟩ .nil ?_; clear S; intro ac w β S
                refine RG.done rfl (nx_then ?_)
                refine S.c (i.opc == 8) (fun h22 => ?_) (fun h22 => ?_)
                · have g23 : i.opc = 8 := eq_of_beq h22
                  refine wp_seq (RG.start ?_)
                  refine S.q 4 [2] 0 ⟨[(2, .v (B (f_within i.x 0 11)))], []⟩ (.cons (Q_call fun w hw => c_spec_l01In w i.x 0 11) .nil) ?_; clear S; intro ac w β S
                  refine RG.done rfl (nx_then (wp_ret (rt_block (rt_then ?_))))
                  refine S.r [B (f_within i.x 0 11)] ?_
                  exact ⟨retB (by clear S; first | rfl | (simp [f_insOk, *]; done) | (simp [f_insOk, *]; omega) | (simp_all [f_insOk]; done) | (simp_all [f_insOk]; omega)), S.chg⟩
                · have g24 : ¬ (i.opc = 8) := ne_of_beq_false h22
                  refine wp_skip (nx_block (nx_then (wp_seq (RG.start ?_))))
                  refine S.q 1 [2] 0 ⟨[(2, .v (B false))], []⟩ .nil ?_; clear S; intro ac w β S
                  refine RG.done rfl (nx_then (wp_ret ?_))
                  refine S.r [B false] ?_
                  exact ⟨retB (by clear S; first | rfl | (simp [f_insOk, *]; done) | (simp [f_insOk, *]; omega) | (simp_all [f_insOk]; done) | (simp_all [f_insOk]; omega)), S.chg⟩

set_option maxRecDepth 100000 in
theorem c_spec_ProgOk (w0 : World) (p : List TIns) (pp : LP TIns) (hp : GT.rd KK (Lt w0.heap.size) w0 p pp) : Calls Tryz.prog 127 [slv (p).length pp.1].toArray w0 (fun e w' => e = .returned (B (f_progOk p)) ∧ Chg NoB w0 w') := by
  refine Calls.walk (args := [slv (p).length pp.1]) NoB Tryz.func127 rfl rfl ?_
  intro ac β S
  have hlep : p.length ≤ 4194304 := LRd.le hp
  refine wp_seq (RG.start ?_)
  refine S.q 1 [0] 0 ⟨[(0, .v (slv (p).length pp.1))], []⟩ .nil ?_; clear S; intro ac w β S
  refine RG.done rfl (nx_then (wp_seq (wp_seq (RG.start ?_))))
  refine S.q 1 [0, 3] 0 ⟨[(0, .v (slv (p).length pp.1)), (3, .v (I 0))], []⟩ .nil ?_; clear S; intro ac w β S
  refine RG.done rfl (nx_then (wp_block ?_))
  replace S := S.p [0, 3] 0 ⟨[(0, .v (slv (p).length pp.1)), (3, .v (I 0))], []⟩
  refine wp_loop_down (fun mm ac w => ∃ (k : Nat)  (u : World) (N : Bl) (β : Nat → Nat), mm = (p).length - k ∧ (k ≤ (p).length) ∧ (((p).take k).all f_insOk = true) ∧ St Tryz.prog Tryz.f127.ntmps w0 NoB u N β ⟨[(0, .v (slv (p).length pp.1)), (3, .v (I (k : Int)))], []⟩ ac w) _ ⟨0, _, _, _, rfl, (by first | omega | (simp; done) | (simp; omega)), (by simp), S.cast (by kernel_rfl)⟩ ?_
  clear S
  rintro mm ac w ⟨k, u, N, β, rfl, hk, he, S⟩
  refine wp_seq (wp_seq (RG.start ?_))
  refine S.q 4 [0, 3, 7] 0 ⟨[(0, .v (slv (p).length pp.1)), (3, .v (I (k : Int))), (7, .v (B (decide ((k : Int) < ((p).length : Int)))))], []⟩ .nil ?_; clear S; intro ac w β S
  refine RG.done rfl (nx_then ?_)
  refine S.c (decide ((k : Int) < ((p).length : Int))) (fun h1 => ?_) (fun h1 => ?_)
  · have g2 : (k : Int) < ((p).length : Int) := of_decide_eq_true h1
    refine wp_skip (nx_then (wp_seq (wp_block (wp_seq (RG.start ?_)))))
    refine S.q 6 [0, 3, 15] 0 ⟨[(0, .v (slv (p).length pp.1)), (3, .v (I (k : Int))), (15, .v (B (!(f_insOk (el p k)))))], []⟩ (.cons (Q_idx (S.arg hp) (l := (p).length) (k := k) (i := (k : Int)) rfl rfl (by omega) Tryz.underlying104 (by kernel_rfl)) (.cons (Q_el (S.arg hp) (t := 163) (k := k) (by omega) rfl (by kernel_rfl) (by kernel_rfl)) (.cons (Q_call fun w hw => c_spec_InsOk w (el p k)) .nil))) ?_; clear S; intro ac w β S
    refine RG.done rfl (nx_then ?_)
    refine S.c (!(f_insOk (el p k))) (fun h3 => ?_) (fun h3 => ?_)
    · have h4 : (f_insOk (el p k)) = false := not_t h3
      refine wp_seq (RG.start ?_)
      refine S.q 1 [2] 0 ⟨[(2, .v (B false))], []⟩ .nil ?_; clear S; intro ac w β S
      refine RG.done rfl (nx_then (wp_ret (rt_block (rt_then (rt_then (rt_block (rt_then ?_)))))))
      refine S.r [B false] ?_
      exact ⟨retB (by clear S; (first | rfl | (unfold f_progOk; rw [all_end (by omega) he]; simp; done) | (unfold f_progOk; rw [all_bad (k := k) (by omega) (by first | assumption | (simp_all <;> fail))]; simp; done) | (unfold f_progOk; rw [all_end (by omega) he]; simp [*]; done) | (unfold f_progOk; rw [all_end (by omega) he]; simp; omega))), S.chg⟩
    · have h5 : (f_insOk (el p k)) = true := not_f h3
      refine wp_skip (nx_block (nx_then (RG.start ?_)))
      refine S.q 3 [0, 3] 0 ⟨[(0, .v (slv (p).length pp.1)), (3, .v (I ((k : Int) + 1)))], []⟩ (.cons (Q_add (x := (k : Int)) (y := 1) ⟨by omega, by omega⟩) .nil) ?_; clear S; intro ac w β S
      refine RG.done rfl (nx_then ?_)
      replace S := S.p [0, 3] 0 ⟨[(0, .v (slv (p).length pp.1)), (3, .v (I ((k : Int) + 1)))], []⟩
      refine ⟨(p).length - (k + 1), by omega, k + 1, _, _, _, rfl, ?_, ?_, S.cast (by kernel_rfl)⟩
      · clear S; first | omega | (simp [*]; done) | (simp [*]; omega)
      · clear S; exact all_step (by omega) he (by first | assumption | (simp only [f_slotOk, f_within] at *; simp_all; done) | (simp_all; done) | (simp_all; omega))
  · have g6 : ¬ ((k : Int) < ((p).length : Int)) := of_decide_eq_false h1
    refine wp_exit (ex_then (ex_then (ex_hit (nx_then (wp_seq (RG.start ?_))))))
    refine S.q 4 [2] 0 ⟨[(2, .v (B (f_within ((p).length : Int) 1 12)))], []⟩ (.cons (Q_call fun w hw => c_spec_l01In w ((p).length : Int) 1 12) .nil) ?_; clear S; intro ac w β S
    refine RG.done rfl (nx_then (wp_ret ?_))
    refine S.r [B (f_within ((p).length : Int) 1 12)] ?_
    exact ⟨retB (by clear S; (first | rfl | (unfold f_progOk; rw [all_end (by omega) he]; simp; done) | (unfold f_progOk; rw [all_bad (k := k) (by omega) (by first | assumption | (simp_all <;> fail))]; simp; done) | (unfold f_progOk; rw [all_end (by omega) he]; simp [*]; done) | (unfold f_progOk; rw [all_end (by omega) he]; simp; omega))), S.chg⟩

set_option maxRecDepth 100000 in
theorem c_spec_CtlFaults (w0 : World) (c : TCtl) : Calls Tryz.prog 113 [GT.val c ()].toArray w0 (Ret1 NoB w0 (f_ctlFaults c : List Int)) := by
  refine Calls.walk (args := [GT.val c ()]) NoB Tryz.func113 rfl rfl ?_
  intro ac β S
  refine wp_seq (RG.start ?_)
  refine S.q 2 [1] 1 ⟨[(1, .p 0 0)], [GT.cells c ()]⟩ .nil ?_; clear S; intro ac w β S
  refine RG.done rfl (nx_then (wp_seq (RG.start ?_)))
  refine RG.op rfl (S.bs0 (α := Int) (d := 4) (by kernel_rfl) ?_)
  clear S; intro ac w N q1 F2 S up o3 d4
  clear up d4
  refine S.q 1 [1, 3] 1 ⟨[(1, .p 0 0), (3, .v (slv 0 q1.1))], [GT.cells c ()]⟩ .nil ?_; clear S; intro ac w β S
  refine RG.done rfl (nx_then (wp_seq (wp_seq (RG.start ?_))))
  refine S.q 4 [1, 3, 8] 1 ⟨[(1, .p 0 0), (3, .v (slv 0 q1.1)), (8, .v (B (!(f_within c.traps 0 3))))], [GT.cells c ()]⟩ (.cons (Q_call fun w hw => c_spec_l01In w c.traps 0 3) .nil) ?_; clear S; intro ac w β S
  refine RG.done rfl (nx_then ?_)
  refine wp_region_cut (fun ac w => ∃ (acc1 : List Int) (q5 : GT.Ptr (List Int)) (F6 : Bl) (u : World) (N : Bl) (β : Nat → Nat), (acc1 = (if f_within c.traps 0 3 then [] else [1])) ∧ St Tryz.prog Tryz.f113.ntmps w0 NoB u N β ⟨[(1, .p 0 0), (3, .v (slv (acc1).length q5.1))], [GT.cells c ()]⟩ ac w ∧ Ow w0 NoB u N F6 acc1 q5) ?_ ?_
  · refine S.c (!(f_within c.traps 0 3)) (fun h8 => ?_) (fun h8 => ?_)
    · have h9 : (f_within c.traps 0 3) = false := not_t h8
      have g10 := within_f h9
      refine RG.start ?_
      refine S.q 1 [1, 9] 1 ⟨[(1, .p 0 0), (9, .v (slv 0 q1.1))], [GT.cells c ()]⟩ .nil ?_; clear S; intro ac w β S
      refine RG.op rfl (S.bs1 (α := Int) (x := 1) (p := ()) (F := NoB) (show In64 1 from ⟨by decide, by decide⟩) (fun b h => False.elim h) (fun b h => False.elim h) (d := 10) (by kernel_rfl) ?_)
      clear S; intro ac w N q11 F12 S up o13 d14
      have d15 : Disj F2 F12 := d14 _ (fun b _ h => False.elim h) o3.sub
      replace o3 := o3.up up
      clear up d14
      refine RG.op rfl (S.appFlat (α := Int) o3 (o13.rn) (fun _ _ h => h) (by' := 8) (d := 11) (lx := 0) (ly := 1) rfl rfl (by kernel_rfl) (show _ ≤ 4194304 by simp only [List.length_append, List.length_cons, List.length_nil]; omega) ?_)
      clear S; intro ac w N q16 F17 S up o18 d19
      have d20 : Disj F12 F17 := d19 _ (Disj.symm d15) o13.sub
      replace o13 := o13.upF (Disj.symm d15) up
      clear up d19
      refine S.q 1 [1, 3] 1 ⟨[(1, .p 0 0), (3, .v (slv ((([] : List Int) ++ [1])).length q16.1))], [GT.cells c ()]⟩ .nil ?_; clear S; intro ac w β S
      refine RG.done rfl ?_
      replace S := S.p [1, 3] 1 ⟨[(1, .p 0 0), (3, .v (slv ((([] : List Int) ++ [1])).length q16.1))], [GT.cells c ()]⟩
      exact ⟨rfl, (([] : List Int) ++ [1]), q16, F17, _, _, _, (by clear S; (first | (rw [if_pos (by assumption)]; simp [*]; done) | (rw [if_neg (by simp [*])]; simp [*]; done) | ((repeat' split) <;> first | rfl | (simp; done) | (exfalso; simp_all; done) | (simp_all; done)))), S.cast (by kernel_rfl), o18⟩
    · have h21 : (f_within c.traps 0 3) = true := not_f h8
      have g22 := within_t h21
      refine wp_skip ?_
      replace S := S.p [1, 3] 1 ⟨[(1, .p 0 0), (3, .v (slv 0 q1.1))], [GT.cells c ()]⟩
      exact ⟨rfl, ([] : List Int), q1, F2, _, _, _, (by clear S; (first | (rw [if_pos (by assumption)]; simp [*]; done) | (rw [if_neg (by simp [*])]; simp [*]; done) | ((repeat' split) <;> first | rfl | (simp; done) | (exfalso; simp_all; done) | (simp_all; done)))), S.cast (by kernel_rfl), o3⟩
  clear S o3
  rintro ac w ⟨acc1, q5, F6, u, N, β, ha1, S, o7⟩
  have hl1 : acc1.length ≤ 1 := by rw [ha1]; (repeat' split) <;> simp
  refine id (nx_then (wp_seq (wp_seq (RG.start ?_))))
  refine S.q 4 [1, 3, 15] 1 ⟨[(1, .p 0 0), (3, .v (slv (acc1).length q5.1)), (15, .v (B (!(f_within c.post 0 255))))], [GT.cells c ()]⟩ (.cons (Q_call fun w hw => c_spec_l01In w c.post 0 255) .nil) ?_; clear S; intro ac w β S
  refine RG.done rfl (nx_then ?_)
  refine wp_region_cut (fun ac w => ∃ (acc2 : List Int) (q23 : GT.Ptr (List Int)) (F24 : Bl) (u : World) (N : Bl) (β : Nat → Nat), (acc2 = (if f_within c.traps 0 3 then [] else [1]) ++ (if f_within c.post 0 255 then [] else [2])) ∧ St Tryz.prog Tryz.f113.ntmps w0 NoB u N β ⟨[(1, .p 0 0), (3, .v (slv (acc2).length q23.1))], [GT.cells c ()]⟩ ac w ∧ Ow w0 NoB u N F24 acc2 q23) ?_ ?_
  · refine S.c (!(f_within c.post 0 255)) (fun h26 => ?_) (fun h26 => ?_)
    · have h27 : (f_within c.post 0 255) = false := not_t h26
      have g28 := within_f h27
      refine RG.start ?_
      refine S.q 1 [1, 16] 1 ⟨[(1, .p 0 0), (16, .v (slv (acc1).length q5.1))], [GT.cells c ()]⟩ .nil ?_; clear S; intro ac w β S
      refine RG.op rfl (S.bs1 (α := Int) (x := 2) (p := ()) (F := NoB) (show In64 2 from ⟨by decide, by decide⟩) (fun b h => False.elim h) (fun b h => False.elim h) (d := 17) (by kernel_rfl) ?_)
      clear S; intro ac w N q29 F30 S up o31 d32
      have d33 : Disj F6 F30 := d32 _ (fun b _ h => False.elim h) o7.sub
      replace o7 := o7.up up
      clear up d32
      refine RG.op rfl (S.appFlat (α := Int) o7 (o31.rn) (fun _ _ h => h) (by' := 8) (d := 18) (lx := (acc1).length) (ly := 1) rfl rfl (by kernel_rfl) (show _ ≤ 4194304 by simp only [List.length_append, List.length_cons, List.length_nil]; omega) ?_)
      clear S; intro ac w N q34 F35 S up o36 d37
      have d38 : Disj F30 F35 := d37 _ (Disj.symm d33) o31.sub
      replace o31 := o31.upF (Disj.symm d33) up
      clear up d37
      refine S.q 1 [1, 3] 1 ⟨[(1, .p 0 0), (3, .v (slv ((acc1 ++ [2])).length q34.1))], [GT.cells c ()]⟩ .nil ?_; clear S; intro ac w β S
      refine RG.done rfl ?_
      replace S := S.p [1, 3] 1 ⟨[(1, .p 0 0), (3, .v (slv ((acc1 ++ [2])).length q34.1))], [GT.cells c ()]⟩
      exact ⟨rfl, (acc1 ++ [2]), q34, F35, _, _, _, (by clear S; (first | (rw [if_pos (by assumption)]; simp [*]; done) | (rw [if_neg (by simp [*])]; simp [*]; done) | (rw [ha1]; (repeat' split) <;> first | rfl | (simp; done) | (exfalso; simp_all; done) | (simp_all; done)))), S.cast (by kernel_rfl), o36⟩
    · have h39 : (f_within c.post 0 255) = true := not_f h26
      have g40 := within_t h39
      refine wp_skip ?_
      replace S := S.p [1, 3] 1 ⟨[(1, .p 0 0), (3, .v (slv (acc1).length q5.1))], [GT.cells c ()]⟩
      exact ⟨rfl, acc1, q5, F6, _, _, _, (by clear S; (first | (rw [if_pos (by assumption)]; simp [*]; done) | (rw [if_neg (by simp [*])]; simp [*]; done) | (rw [ha1]; (repeat' split) <;> first | rfl | (simp; done) | (exfalso; simp_all; done) | (simp_all; done)))), S.cast (by kernel_rfl), o7⟩
  clear S o7
  rintro ac w ⟨acc2, q23, F24, u, N, β, ha2, S, o25⟩
  have hl2 : acc2.length ≤ 2 := by rw [ha2]; (repeat' split) <;> simp
  refine id (nx_then (wp_seq (wp_seq (RG.start ?_))))
  refine S.q 4 [1, 3, 22] 1 ⟨[(1, .p 0 0), (3, .v (slv (acc2).length q23.1)), (22, .v (B (c.post != 0)))], [GT.cells c ()]⟩ .nil ?_; clear S; intro ac w β S
  rcases Bool.eq_false_or_eq_true (c.post != 0) with h41 | h41 <;> rw [h41] at S
  · have g42 : ¬ (c.post = 0) := bne_iff_ne.1 h41
    refine S.q 4 [1, 3, 26] 1 ⟨[(1, .p 0 0), (3, .v (slv (acc2).length q23.1)), (26, .v (B (!c.opn)))], [GT.cells c ()]⟩ .nil ?_; clear S; intro ac w β S
    refine RG.done rfl (nx_then ?_)
    refine wp_region_cut (fun ac w => ∃ (acc3 : List Int) (q43 : GT.Ptr (List Int)) (F44 : Bl) (u : World) (N : Bl) (β : Nat → Nat), (acc3 = (if f_within c.traps 0 3 then [] else [1]) ++ (if f_within c.post 0 255 then [] else [2]) ++ (if c.post ≠ 0 ∧ c.opn = false then [3] else [])) ∧ St Tryz.prog Tryz.f113.ntmps w0 NoB u N β ⟨[(1, .p 0 0), (3, .v (slv (acc3).length q43.1))], [GT.cells c ()]⟩ ac w ∧ Ow w0 NoB u N F44 acc3 q43) ?_ ?_
    · refine S.c (!c.opn) (fun h46 => ?_) (fun h46 => ?_)
      · have h47 : c.opn = false := not_t h46
        refine RG.start ?_
        refine S.q 1 [1, 27] 1 ⟨[(1, .p 0 0), (27, .v (slv (acc2).length q23.1))], [GT.cells c ()]⟩ .nil ?_; clear S; intro ac w β S
        refine RG.op rfl (S.bs1 (α := Int) (x := 3) (p := ()) (F := NoB) (show In64 3 from ⟨by decide, by decide⟩) (fun b h => False.elim h) (fun b h => False.elim h) (d := 28) (by kernel_rfl) ?_)
        clear S; intro ac w N q48 F49 S up o50 d51
        have d52 : Disj F24 F49 := d51 _ (fun b _ h => False.elim h) o25.sub
        replace o25 := o25.up up
        clear up d51
        refine RG.op rfl (S.appFlat (α := Int) o25 (o50.rn) (fun _ _ h => h) (by' := 8) (d := 29) (lx := (acc2).length) (ly := 1) rfl rfl (by kernel_rfl) (show _ ≤ 4194304 by simp only [List.length_append, List.length_cons, List.length_nil]; omega) ?_)
        clear S; intro ac w N q53 F54 S up o55 d56
        have d57 : Disj F49 F54 := d56 _ (Disj.symm d52) o50.sub
        replace o50 := o50.upF (Disj.symm d52) up
        clear up d56
        refine S.q 1 [1, 3] 1 ⟨[(1, .p 0 0), (3, .v (slv ((acc2 ++ [3])).length q53.1))], [GT.cells c ()]⟩ .nil ?_; clear S; intro ac w β S
        refine RG.done rfl ?_
        replace S := S.p [1, 3] 1 ⟨[(1, .p 0 0), (3, .v (slv ((acc2 ++ [3])).length q53.1))], [GT.cells c ()]⟩
        exact ⟨rfl, (acc2 ++ [3]), q53, F54, _, _, _, (by clear S; (first | (rw [if_pos (by assumption)]; simp [*]; done) | (rw [if_neg (by simp [*])]; simp [*]; done) | (rw [ha2]; (repeat' split) <;> first | rfl | (simp; done) | (exfalso; simp_all; done) | (simp_all; done)))), S.cast (by kernel_rfl), o55⟩
      · have h58 : c.opn = true := not_f h46
        refine wp_skip ?_
        replace S := S.p [1, 3] 1 ⟨[(1, .p 0 0), (3, .v (slv (acc2).length q23.1))], [GT.cells c ()]⟩
        exact ⟨rfl, acc2, q23, F24, _, _, _, (by clear S; (first | (rw [if_pos (by assumption)]; simp [*]; done) | (rw [if_neg (by simp [*])]; simp [*]; done) | (rw [ha2]; (repeat' split) <;> first | rfl | (simp; done) | (exfalso; simp_all; done) | (simp_all; done)))), S.cast (by kernel_rfl), o25⟩
    clear S o25
    rintro ac w ⟨acc3, q43, F44, u, N, β, ha3, S, o45⟩
    have hl3 : acc3.length ≤ 3 := by rw [ha3]; (repeat' split) <;> simp
    refine id (nx_then (wp_seq (wp_seq (RG.start ?_))))
    refine S.q 4 [1, 3, 33] 1 ⟨[(1, .p 0 0), (3, .v (slv (acc3).length q43.1)), (33, .v (B (c.traps == 2)))], [GT.cells c ()]⟩ .nil ?_; clear S; intro ac w β S
    rcases Bool.eq_false_or_eq_true (c.traps == 2) with h59 | h59 <;> rw [h59] at S
    · have g60 : c.traps = 2 := eq_of_beq h59
      refine S.q 4 [3, 37] 0 ⟨[(3, .v (slv (acc3).length q43.1)), (37, .v (B (c.post != 0)))], []⟩ .nil ?_; clear S; intro ac w β S
      refine RG.done rfl (nx_then ?_)
      refine wp_region_cut (fun ac w => ∃ (acc4 : List Int) (q61 : GT.Ptr (List Int)) (F62 : Bl) (u : World) (N : Bl) (β : Nat → Nat), (acc4 = (if f_within c.traps 0 3 then [] else [1]) ++ (if f_within c.post 0 255 then [] else [2]) ++ (if c.post ≠ 0 ∧ c.opn = false then [3] else []) ++ (if c.traps = 2 ∧ c.post ≠ 0 then [4] else [])) ∧ St Tryz.prog Tryz.f113.ntmps w0 NoB u N β ⟨[(3, .v (slv (acc4).length q61.1))], []⟩ ac w ∧ Ow w0 NoB u N F62 acc4 q61) ?_ ?_
      · refine S.c (c.post != 0) (fun h64 => ?_) (fun h64 => ?_)
        · have g65 : ¬ (c.post = 0) := bne_iff_ne.1 h64
          refine RG.start ?_
          refine S.q 1 [38] 0 ⟨[(38, .v (slv (acc3).length q43.1))], []⟩ .nil ?_; clear S; intro ac w β S
          refine RG.op rfl (S.bs1 (α := Int) (x := 4) (p := ()) (F := NoB) (show In64 4 from ⟨by decide, by decide⟩) (fun b h => False.elim h) (fun b h => False.elim h) (d := 39) (by kernel_rfl) ?_)
          clear S; intro ac w N q66 F67 S up o68 d69
          have d70 : Disj F44 F67 := d69 _ (fun b _ h => False.elim h) o45.sub
          replace o45 := o45.up up
          clear up d69
          refine RG.op rfl (S.appFlat (α := Int) o45 (o68.rn) (fun _ _ h => h) (by' := 8) (d := 40) (lx := (acc3).length) (ly := 1) rfl rfl (by kernel_rfl) (show _ ≤ 4194304 by simp only [List.length_append, List.length_cons, List.length_nil]; omega) ?_)
          clear S; intro ac w N q71 F72 S up o73 d74
          have d75 : Disj F67 F72 := d74 _ (Disj.symm d70) o68.sub
          replace o68 := o68.upF (Disj.symm d70) up
          clear up d74
          refine S.q 1 [3] 0 ⟨[(3, .v (slv ((acc3 ++ [4])).length q71.1))], []⟩ .nil ?_; clear S; intro ac w β S
          refine RG.done rfl ?_
          replace S := S.p [3] 0 ⟨[(3, .v (slv ((acc3 ++ [4])).length q71.1))], []⟩
          exact ⟨rfl, (acc3 ++ [4]), q71, F72, _, _, _, (by clear S; (first | (rw [if_pos (by assumption)]; simp [*]; done) | (rw [if_neg (by simp [*])]; simp [*]; done) | (rw [ha3]; (repeat' split) <;> first | rfl | (simp; done) | (exfalso; simp_all; done) | (simp_all; done)))), S.cast (by kernel_rfl), o73⟩
        · have g76 : c.post = 0 := ne_f h64
          refine wp_skip ?_
          replace S := S.p [3] 0 ⟨[(3, .v (slv (acc3).length q43.1))], []⟩
          exact ⟨rfl, acc3, q43, F44, _, _, _, (by clear S; (first | (rw [if_pos (by assumption)]; simp [*]; done) | (rw [if_neg (by simp [*])]; simp [*]; done) | (rw [ha3]; (repeat' split) <;> first | rfl | (simp; done) | (exfalso; simp_all; done) | (simp_all; done)))), S.cast (by kernel_rfl), o45⟩
      clear S o45
      rintro ac w ⟨acc4, q61, F62, u, N, β, ha4, S, o63⟩
      have hl4 : acc4.length ≤ 4 := by rw [ha4]; (repeat' split) <;> simp
      refine id (nx_then (wp_seq (RG.start ?_)))
      refine S.q 2 [2] 0 ⟨[(2, .v (slv (acc4).length q61.1))], []⟩ .nil ?_; clear S; intro ac w β S
      refine RG.done rfl (nx_then (wp_ret ?_))
      refine S.r [slv (acc4).length q61.1] ?_
      exact ret1_of S (show f_ctlFaults c = acc4 by clear S; (rw [ha4]; rfl)) rfl o63
    · have g77 : ¬ (c.traps = 2) := ne_of_beq_false h59
      refine S.q 4 [3, 37] 0 ⟨[(3, .v (slv (acc3).length q43.1)), (37, .v (B false))], []⟩ .nil ?_; clear S; intro ac w β S
      refine RG.done rfl (nx_then ?_)
      refine wp_region_cut (fun ac w => ∃ (acc4 : List Int) (q78 : GT.Ptr (List Int)) (F79 : Bl) (u : World) (N : Bl) (β : Nat → Nat), (acc4 = (if f_within c.traps 0 3 then [] else [1]) ++ (if f_within c.post 0 255 then [] else [2]) ++ (if c.post ≠ 0 ∧ c.opn = false then [3] else []) ++ (if c.traps = 2 ∧ c.post ≠ 0 then [4] else [])) ∧ St Tryz.prog Tryz.f113.ntmps w0 NoB u N β ⟨[(3, .v (slv (acc4).length q78.1))], []⟩ ac w ∧ Ow w0 NoB u N F79 acc4 q78) ?_ ?_
      · refine S.c false (fun hx => by cases hx) (fun _ => ?_)
        refine wp_skip ?_
        replace S := S.p [3] 0 ⟨[(3, .v (slv (acc3).length q43.1))], []⟩
        exact ⟨rfl, acc3, q43, F44, _, _, _, (by clear S; (first | (rw [if_pos (by assumption)]; simp [*]; done) | (rw [if_neg (by simp [*])]; simp [*]; done) | (rw [ha3]; (repeat' split) <;> first | rfl | (simp; done) | (exfalso; simp_all; done) | (simp_all; done)))), S.cast (by kernel_rfl), o45⟩
      clear S o45
      rintro ac w ⟨acc4, q78, F79, u, N, β, ha4, S, o80⟩
      have hl4 : acc4.length ≤ 4 := by rw [ha4]; (repeat' split) <;> simp
      refine id (nx_then (wp_seq (RG.start ?_)))
      refine S.q 2 [2] 0 ⟨[(2, .v (slv (acc4).length q78.1))], []⟩ .nil ?_; clear S; intro ac w β S
      refine RG.done rfl (nx_then (wp_ret ?_))
      refine S.r [slv (acc4).length q78.1] ?_
      exact ret1_of S (show f_ctlFaults c = acc4 by clear S; (rw [ha4]; rfl)) rfl o80
  · have g81 : c.post = 0 := ne_f h41
    refine S.q 4 [1, 3, 26] 1 ⟨[(1, .p 0 0), (3, .v (slv (acc2).length q23.1)), (26, .v (B false))], [GT.cells c ()]⟩ .nil ?_; clear S; intro ac w β S
    refine RG.done rfl (nx_then ?_)
    refine wp_region_cut (fun ac w => ∃ (acc3 : List Int) (q82 : GT.Ptr (List Int)) (F83 : Bl) (u : World) (N : Bl) (β : Nat → Nat), (acc3 = (if f_within c.traps 0 3 then [] else [1]) ++ (if f_within c.post 0 255 then [] else [2]) ++ (if c.post ≠ 0 ∧ c.opn = false then [3] else [])) ∧ St Tryz.prog Tryz.f113.ntmps w0 NoB u N β ⟨[(1, .p 0 0), (3, .v (slv (acc3).length q82.1))], [GT.cells c ()]⟩ ac w ∧ Ow w0 NoB u N F83 acc3 q82) ?_ ?_
    · refine S.c false (fun hx => by cases hx) (fun _ => ?_)
      refine wp_skip ?_
      replace S := S.p [1, 3] 1 ⟨[(1, .p 0 0), (3, .v (slv (acc2).length q23.1))], [GT.cells c ()]⟩
      exact ⟨rfl, acc2, q23, F24, _, _, _, (by clear S; (first | (rw [if_pos (by assumption)]; simp [*]; done) | (rw [if_neg (by simp [*])]; simp [*]; done) | (rw [ha2]; (repeat' split) <;> first | rfl | (simp; done) | (exfalso; simp_all; done) | (simp_all; done)))), S.cast (by kernel_rfl), o25⟩
    clear S o25
    rintro ac w ⟨acc3, q82, F83, u, N, β, ha3, S, o84⟩
    have hl3 : acc3.length ≤ 3 := by rw [ha3]; (repeat' split) <;> simp
    refine id (nx_then (wp_seq (wp_seq (RG.start ?_))))
    refine S.q 4 [1, 3, 33] 1 ⟨[(1, .p 0 0), (3, .v (slv (acc3).length q82.1)), (33, .v (B (c.traps == 2)))], [GT.cells c ()]⟩ .nil ?_; clear S; intro ac w β S
    rcases Bool.eq_false_or_eq_true (c.traps == 2) with h85 | h85 <;> rw [h85] at S
    · have g86 : c.traps = 2 := eq_of_beq h85
      refine S.q 4 [3, 37] 0 ⟨[(3, .v (slv (acc3).length q82.1)), (37, .v (B (c.post != 0)))], []⟩ .nil ?_; clear S; intro ac w β S
      refine RG.done rfl (nx_then ?_)
      refine wp_region_cut (fun ac w => ∃ (acc4 : List Int) (q87 : GT.Ptr (List Int)) (F88 : Bl) (u : World) (N : Bl) (β : Nat → Nat), (acc4 = (if f_within c.traps 0 3 then [] else [1]) ++ (if f_within c.post 0 255 then [] else [2]) ++ (if c.post ≠ 0 ∧ c.opn = false then [3] else []) ++ (if c.traps = 2 ∧ c.post ≠ 0 then [4] else [])) ∧ St Tryz.prog Tryz.f113.ntmps w0 NoB u N β ⟨[(3, .v (slv (acc4).length q87.1))], []⟩ ac w ∧ Ow w0 NoB u N F88 acc4 q87) ?_ ?_
      · refine S.c (c.post != 0) (fun h90 => ?_) (fun h90 => ?_)
        · have g91 : ¬ (c.post = 0) := bne_iff_ne.1 h90
          refine RG.start ?_
          refine S.q 1 [38] 0 ⟨[(38, .v (slv (acc3).length q82.1))], []⟩ .nil ?_; clear S; intro ac w β S
          refine RG.op rfl (S.bs1 (α := Int) (x := 4) (p := ()) (F := NoB) (show In64 4 from ⟨by decide, by decide⟩) (fun b h => False.elim h) (fun b h => False.elim h) (d := 39) (by kernel_rfl) ?_)
          clear S; intro ac w N q92 F93 S up o94 d95
          have d96 : Disj F83 F93 := d95 _ (fun b _ h => False.elim h) o84.sub
          replace o84 := o84.up up
          clear up d95
          refine RG.op rfl (S.appFlat (α := Int) o84 (o94.rn) (fun _ _ h => h) (by' := 8) (d := 40) (lx := (acc3).length) (ly := 1) rfl rfl (by kernel_rfl) (show _ ≤ 4194304 by simp only [List.length_append, List.length_cons, List.length_nil]; omega) ?_)
          clear S; intro ac w N q97 F98 S up o99 d100
          have d101 : Disj F93 F98 := d100 _ (Disj.symm d96) o94.sub
          replace o94 := o94.upF (Disj.symm d96) up
          clear up d100
          refine S.q 1 [3] 0 ⟨[(3, .v (slv ((acc3 ++ [4])).length q97.1))], []⟩ .nil ?_; clear S; intro ac w β S
          refine RG.done rfl ?_
          replace S := S.p [3] 0 ⟨[(3, .v (slv ((acc3 ++ [4])).length q97.1))], []⟩
          exact ⟨rfl, (acc3 ++ [4]), q97, F98, _, _, _, (by clear S; (first | (rw [if_pos (by assumption)]; simp [*]; done) | (rw [if_neg (by simp [*])]; simp [*]; done) | (rw [ha3]; (repeat' split) <;> first | rfl | (simp; done) | (exfalso; simp_all; done) | (simp_all; done)))), S.cast (by kernel_rfl), o99⟩
        · have g102 : c.post = 0 := ne_f h90
          refine wp_skip ?_
          replace S := S.p [3] 0 ⟨[(3, .v (slv (acc3).length q82.1))], []⟩
          exact ⟨rfl, acc3, q82, F83, _, _, _, (by clear S; (first | (rw [if_pos (by assumption)]; simp [*]; done) | (rw [if_neg (by simp [*])]; simp [*]; done) | (rw [ha3]; (repeat' split) <;> first | rfl | (simp; done) | (exfalso; simp_all; done) | (simp_all; done)))), S.cast (by kernel_rfl), o84⟩
      clear S o84
      rintro ac w ⟨acc4, q87, F88, u, N, β, ha4, S, o89⟩
      have hl4 : acc4.length ≤ 4 := by rw [ha4]; (repeat' split) <;> simp
      refine id (nx_then (wp_seq (RG.start ?_)))
      refine S.q 2 [2] 0 ⟨[(2, .v (slv (acc4).length q87.1))], []⟩ .nil ?_; clear S; intro ac w β S
      refine RG.done rfl (nx_then (wp_ret ?_))
      refine S.r [slv (acc4).length q87.1] ?_
      exact ret1_of S (show f_ctlFaults c = acc4 by clear S; (rw [ha4]; rfl)) rfl o89
    · have g103 : ¬ (c.traps = 2) := ne_of_beq_false h85
      refine S.q 4 [3, 37] 0 ⟨[(3, .v (slv (acc3).length q82.1)), (37, .v (B false))], []⟩ .nil ?_; clear S; intro ac w β S
      refine RG.done rfl (nx_then ?_)
      refine wp_region_cut (fun ac w => ∃ (acc4 : List Int) (q104 : GT.Ptr (List Int)) (F105 : Bl) (u : World) (N : Bl) (β : Nat → Nat), (acc4 = (if f_within c.traps 0 3 then [] else [1]) ++ (if f_within c.post 0 255 then [] else [2]) ++ (if c.post ≠ 0 ∧ c.opn = false then [3] else []) ++ (if c.traps = 2 ∧ c.post ≠ 0 then [4] else [])) ∧ St Tryz.prog Tryz.f113.ntmps w0 NoB u N β ⟨[(3, .v (slv (acc4).length q104.1))], []⟩ ac w ∧ Ow w0 NoB u N F105 acc4 q104) ?_ ?_
      · refine S.c false (fun hx => by cases hx) (fun _ => ?_)
        refine wp_skip ?_
        replace S := S.p [3] 0 ⟨[(3, .v (slv (acc3).length q82.1))], []⟩
        exact ⟨rfl, acc3, q82, F83, _, _, _, (by clear S; (first | (rw [if_pos (by assumption)]; simp [*]; done) | (rw [if_neg (by simp [*])]; simp [*]; done) | (rw [ha3]; (repeat' split) <;> first | rfl | (simp; done) | (exfalso; simp_all; done) | (simp_all; done)))), S.cast (by kernel_rfl), o84⟩
      clear S o84
      rintro ac w ⟨acc4, q104, F105, u, N, β, ha4, S, o106⟩
      have hl4 : acc4.length ≤ 4 := by rw [ha4]; (repeat' split) <;> simp
      refine id (nx_then (wp_seq (RG.start ?_)))
      refine S.q 2 [2] 0 ⟨[(2, .v (slv (acc4).length q104.1))], []⟩ .nil ?_; clear S; intro ac w β S
      refine RG.done rfl (nx_then (wp_ret ?_))
      refine S.r [slv (acc4).length q104.1] ?_
      exact ret1_of S (show f_ctlFaults c = acc4 by clear S; (rw [ha4]; rfl)) rfl o106

set_option maxRecDepth 100000 in
theorem c_spec_CtlOk (w0 : World) (c : TCtl) : Calls Tryz.prog 74 [GT.val c ()].toArray w0 (fun e w' => e = .returned (B (f_ctlOk c)) ∧ Chg NoB w0 w') := by
  refine Calls.walk (args := [GT.val c ()]) NoB Tryz.func74 rfl rfl ?_
  intro ac β S
  refine wp_seq (RG.start ?_)
  refine S.q 2 [1] 1 ⟨[(1, .p 0 0)], [GT.cells c ()]⟩ .nil ?_; clear S; intro ac w β S
  refine RG.done rfl (nx_then (wp_seq (RG.start ?_)))
  refine S.q 1 [3] 0 ⟨[(3, .v (GT.val c ()))], []⟩ .nil ?_; clear S; intro ac w β S
  refine RG.op rfl (S.call1 (r := f_ctlFaults c) (d := 4) (c_spec_CtlFaults w c) (by kernel_rfl) rfl ?_)
  clear S; intro ac w N q1 F2 S up o3 d4
  clear up d4
  refine S.q 3 [2] 0 ⟨[(2, .v (B ((((f_ctlFaults c)).length : Int) == 0)))], []⟩ .nil ?_; clear S; intro ac w β S
  refine RG.done rfl (nx_then (wp_ret ?_))
  refine S.r [B ((((f_ctlFaults c)).length : Int) == 0)] ?_
  exact ⟨retB (by clear S; first | rfl | (simp [f_ctlOk, *]; done) | (simp [f_ctlOk, *]; omega) | (simp_all [f_ctlOk]; done) | (simp_all [f_ctlOk]; omega)), S.chg⟩

set_option maxRecDepth 100000 in
theorem c_spec_PendOk (w0 : World) (p : Int) : Calls Tryz.prog 92 [I p].toArray w0 (fun e w' => e = .returned (B (f_within p 0 255)) ∧ Chg NoB w0 w') := by
  refine Calls.walk (args := [I p]) NoB Tryz.func92 rfl rfl ?_
  intro ac β S
  refine wp_seq (RG.start ?_)
  refine S.q 1 [0] 0 ⟨[(0, .v (I p))], []⟩ .nil ?_; clear S; intro ac w β S
  refine RG.done rfl (nx_then (wp_seq (RG.start ?_)))
  refine S.q 3 [2] 0 ⟨[(2, .v (B (f_within p 0 255)))], []⟩ (.cons (Q_call fun w hw => c_spec_l01In w p 0 255) .nil) ?_; clear S; intro ac w β S
  refine RG.done rfl (nx_then (wp_ret ?_))
  refine S.r [B (f_within p 0 255)] ?_
  exact ⟨retB (by clear S; first | rfl | (simp [f_within, *]; done) | (simp [f_within, *]; omega) | (simp_all [f_within]; done) | (simp_all [f_within]; omega)), S.chg⟩

set_option maxRecDepth 100000 in
theorem c_spec_ExitOk (w0 : World) (x : TExit) : Calls Tryz.prog 128 [GT.val x ()].toArray w0 (fun e w' => e = .returned (B (f_exitOk x)) ∧ Chg NoB w0 w') := by
  refine Calls.walk (args := [GT.val x ()]) NoB Tryz.func128 rfl rfl ?_
  intro ac β S
  refine wp_seq (RG.start ?_)
  refine S.q 2 [1] 1 ⟨[(1, .p 0 0)], [GT.cells x ()]⟩ .nil ?_; clear S; intro ac w β S
  refine RG.done rfl (nx_then (wp_seq (wp_seq (RG.start ?_))))
  refine S.q 2 [1, 4] 1 ⟨[(1, .p 0 0), (4, .v (I x.kind))], [GT.cells x ()]⟩ .nil ?_; clear S; intro ac w β S
  refine RG.done rfl (nx_then (wp_block (wp_seq (wp_seq (RG.start ?_)))))
  refine S.q 2 [1, 4, 5] 1 ⟨[(1, .p 0 0), (4, .v (I x.kind)), (5, .v (B (x.kind == 0)))], [GT.cells x ()]⟩ .nil ?_; clear S; intro ac w β S
  refine RG.done rfl (nx_then ?_)
  refine S.c (x.kind == 0) (fun h1 => ?_) (fun h1 => ?_)
  · rw [h1] at S
    have g2 : x.kind = 0 := eq_of_beq h1
    refine wp_skip (nx_then ?_)
    refine S.c true (fun _ => ?_) (fun hx => by cases hx)
    refine wp_seq (RG.start ?_)
    refine S.q 6 [2] 0 ⟨[(2, .v (B (decide (x = (⟨x.kind, 0, false, 0⟩ : TExit)))))], []⟩ (.cons (Q_sem (s := Instr.build 106 [(0, I x.kind)].toArray) (v := .agg [I x.kind, I 0, B false, I 0].toArray) (fun w => by kernel_rfl)) (.cons (Eq_eq_Exit (t := 106) x (⟨x.kind, 0, false, 0⟩ : TExit) (by kernel_rfl)) .nil)) ?_; clear S; intro ac w β S
    refine RG.done rfl (nx_then (wp_ret (rt_block (rt_then ?_))))
    refine S.r [B (decide (x = (⟨x.kind, 0, false, 0⟩ : TExit)))] ?_
    exact ⟨retB (by clear S; (unfold f_exitOk; (repeat' split) <;> first | rfl | (exfalso; simp_all; done) | (exfalso; omega) | (rw [Bool.eq_iff_iff]; simp [TExit.ext_iff, *]; done) | (rw [Bool.eq_iff_iff]; simp_all [TExit.ext_iff, and_assoc]; done) | (rw [Bool.eq_iff_iff]; simp_all [TExit.ext_iff, and_assoc]; omega))), S.chg⟩
  · have g3 : ¬ (x.kind = 0) := ne_of_beq_false h1
    refine RG.start ?_
    refine S.q 2 [1, 4, 5] 1 ⟨[(1, .p 0 0), (4, .v (I x.kind)), (5, .v (B (x.kind == 4)))], [GT.cells x ()]⟩ .nil ?_; clear S; intro ac w β S
    refine RG.done rfl (nx_then ?_)
    refine S.c (x.kind == 4) (fun h4 => ?_) (fun h4 => ?_)
    · have g5 : x.kind = 4 := eq_of_beq h4
      refine wp_seq (RG.start ?_)
      refine S.q 6 [2] 0 ⟨[(2, .v (B (decide (x = (⟨x.kind, 0, false, 0⟩ : TExit)))))], []⟩ (.cons (Q_sem (s := Instr.build 106 [(0, I x.kind)].toArray) (v := .agg [I x.kind, I 0, B false, I 0].toArray) (fun w => by kernel_rfl)) (.cons (Eq_eq_Exit (t := 106) x (⟨x.kind, 0, false, 0⟩ : TExit) (by kernel_rfl)) .nil)) ?_; clear S; intro ac w β S
      refine RG.done rfl (nx_then (wp_ret (rt_block (rt_then ?_))))
      refine S.r [B (decide (x = (⟨x.kind, 0, false, 0⟩ : TExit)))] ?_
      exact ⟨retB (by clear S; (unfold f_exitOk; (repeat' split) <;> first | rfl | (exfalso; simp_all; done) | (exfalso; omega) | (rw [Bool.eq_iff_iff]; simp [TExit.ext_iff, *]; done) | (rw [Bool.eq_iff_iff]; simp_all [TExit.ext_iff, and_assoc]; done) | (rw [Bool.eq_iff_iff]; simp_all [TExit.ext_iff, and_assoc]; omega))), S.chg⟩
    · have g6 : ¬ (x.kind = 4) := ne_of_beq_false h4
      refine wp_seq (RG.start ?_)
      refine S.q 2 [1, 4, 13] 1 ⟨[(1, .p 0 0), (4, .v (I x.kind)), (13, .v (B (x.kind == 1)))], [GT.cells x ()]⟩ .nil ?_; clear S; intro ac w β S
      refine RG.done rfl (nx_then ?_)
      refine S.c (x.kind == 1) (fun h7 => ?_) (fun h7 => ?_)
      · have g8 : x.kind = 1 := eq_of_beq h7
        refine wp_seq (RG.start ?_)
        refine S.q 4 [1, 18] 1 ⟨[(1, .p 0 0), (18, .v (B (f_within x.page 0 3)))], [GT.cells x ()]⟩ (.cons (Q_call fun w hw => c_spec_l01In w x.page 0 3) .nil) ?_; clear S; intro ac w β S
        rcases Bool.eq_false_or_eq_true (f_within x.page 0 3) with h9 | h9 <;> rw [h9] at S
        · have g10 := within_t h9
          refine S.q 5 [2] 0 ⟨[(2, .v (B (x.n == 0)))], []⟩ .nil ?_; clear S; intro ac w β S
          refine RG.done rfl (nx_then (wp_ret (rt_block (rt_then ?_))))
          refine S.r [B (x.n == 0)] ?_
          exact ⟨retB (by clear S; (unfold f_exitOk; (repeat' split) <;> first | rfl | (exfalso; simp_all; done) | (exfalso; omega) | (rw [Bool.eq_iff_iff]; simp [TExit.ext_iff, *]; done) | (rw [Bool.eq_iff_iff]; simp_all [TExit.ext_iff, and_assoc]; done) | (rw [Bool.eq_iff_iff]; simp_all [TExit.ext_iff, and_assoc]; omega))), S.chg⟩
        · have g11 := within_f h9
          refine S.q 5 [2] 0 ⟨[(2, .v (B false))], []⟩ .nil ?_; clear S; intro ac w β S
          refine RG.done rfl (nx_then (wp_ret (rt_block (rt_then ?_))))
          refine S.r [B false] ?_
          exact ⟨retB (by clear S; (unfold f_exitOk; (repeat' split) <;> first | rfl | (exfalso; simp_all; done) | (exfalso; omega) | (rw [Bool.eq_iff_iff]; simp [TExit.ext_iff, *]; done) | (rw [Bool.eq_iff_iff]; simp_all [TExit.ext_iff, and_assoc]; done) | (rw [Bool.eq_iff_iff]; simp_all [TExit.ext_iff, and_assoc]; omega))), S.chg⟩
      · have g12 : ¬ (x.kind = 1) := ne_of_beq_false h7
        refine wp_seq (wp_seq (RG.start ?_))
        refine S.q 2 [1, 4, 23] 1 ⟨[(1, .p 0 0), (4, .v (I x.kind)), (23, .v (B (x.kind == 2)))], [GT.cells x ()]⟩ .nil ?_; clear S; intro ac w β S
        refine RG.done rfl (nx_then ?_)
        refine S.c (x.kind == 2) (fun h13 => ?_) (fun h13 => ?_)
        · rw [h13] at S
          have g14 : x.kind = 2 := eq_of_beq h13
          refine wp_skip (nx_then ?_)
          refine S.c true (fun _ => ?_) (fun hx => by cases hx)
          refine wp_seq (RG.start ?_)
          refine S.q 4 [1, 29] 1 ⟨[(1, .p 0 0), (29, .v (B (f_within x.n 0 99)))], [GT.cells x ()]⟩ (.cons (Q_call fun w hw => c_spec_l01In w x.n 0 99) .nil) ?_; clear S; intro ac w β S
          rcases Bool.eq_false_or_eq_true (f_within x.n 0 99) with h15 | h15 <;> rw [h15] at S
          · have g16 := within_t h15
            refine S.q 5 [1, 34] 1 ⟨[(1, .p 0 0), (34, .v (B (x.page == 0)))], [GT.cells x ()]⟩ .nil ?_; clear S; intro ac w β S
            rcases Bool.eq_false_or_eq_true (x.page == 0) with h17 | h17 <;> rw [h17] at S
            · have g18 : x.page = 0 := eq_of_beq h17
              refine S.q 5 [2] 0 ⟨[(2, .v (B (!x.wr)))], []⟩ .nil ?_; clear S; intro ac w β S
              refine RG.done rfl (nx_then (wp_ret (rt_block (rt_then ?_))))
              refine S.r [B (!x.wr)] ?_
              exact ⟨retB (by clear S; (unfold f_exitOk; (repeat' split) <;> first | rfl | (exfalso; simp_all; done) | (exfalso; omega) | (rw [Bool.eq_iff_iff]; simp [TExit.ext_iff, *]; done) | (rw [Bool.eq_iff_iff]; simp_all [TExit.ext_iff, and_assoc]; done) | (rw [Bool.eq_iff_iff]; simp_all [TExit.ext_iff, and_assoc]; omega))), S.chg⟩
            · have g19 : ¬ (x.page = 0) := ne_of_beq_false h17
              refine S.q 5 [2] 0 ⟨[(2, .v (B false))], []⟩ .nil ?_; clear S; intro ac w β S
              refine RG.done rfl (nx_then (wp_ret (rt_block (rt_then ?_))))
              refine S.r [B false] ?_
              exact ⟨retB (by clear S; (unfold f_exitOk; (repeat' split) <;> first | rfl | (exfalso; simp_all; done) | (exfalso; omega) | (rw [Bool.eq_iff_iff]; simp [TExit.ext_iff, *]; done) | (rw [Bool.eq_iff_iff]; simp_all [TExit.ext_iff, and_assoc]; done) | (rw [Bool.eq_iff_iff]; simp_all [TExit.ext_iff, and_assoc]; omega))), S.chg⟩
          · have g20 := within_f h15
            refine S.q 10 [2] 0 ⟨[(2, .v (B false))], []⟩ .nil ?_; clear S; intro ac w β S
            refine RG.done rfl (nx_then (wp_ret (rt_block (rt_then ?_))))
            refine S.r [B false] ?_
            exact ⟨retB (by clear S; (unfold f_exitOk; (repeat' split) <;> first | rfl | (exfalso; simp_all; done) | (exfalso; omega) | (rw [Bool.eq_iff_iff]; simp [TExit.ext_iff, *]; done) | (rw [Bool.eq_iff_iff]; simp_all [TExit.ext_iff, and_assoc]; done) | (rw [Bool.eq_iff_iff]; simp_all [TExit.ext_iff, and_assoc]; omega))), S.chg⟩
        · have g21 : ¬ (x.kind = 2) := ne_of_beq_false h13
          refine RG.start ?_
          refine S.q 2 [1, 23] 1 ⟨[(1, .p 0 0), (23, .v (B (x.kind == 3)))], [GT.cells x ()]⟩ .nil ?_; clear S; intro ac w β S
          refine RG.done rfl (nx_then ?_)
          refine S.c (x.kind == 3) (fun h22 => ?_) (fun h22 => ?_)
          · have g23 : x.kind = 3 := eq_of_beq h22
            refine wp_seq (RG.start ?_)
            refine S.q 4 [1, 29] 1 ⟨[(1, .p 0 0), (29, .v (B (f_within x.n 0 99)))], [GT.cells x ()]⟩ (.cons (Q_call fun w hw => c_spec_l01In w x.n 0 99) .nil) ?_; clear S; intro ac w β S
            rcases Bool.eq_false_or_eq_true (f_within x.n 0 99) with h24 | h24 <;> rw [h24] at S
            · have g25 := within_t h24
              refine S.q 5 [1, 34] 1 ⟨[(1, .p 0 0), (34, .v (B (x.page == 0)))], [GT.cells x ()]⟩ .nil ?_; clear S; intro ac w β S
              rcases Bool.eq_false_or_eq_true (x.page == 0) with h26 | h26 <;> rw [h26] at S
              · have g27 : x.page = 0 := eq_of_beq h26
                refine S.q 5 [2] 0 ⟨[(2, .v (B (!x.wr)))], []⟩ .nil ?_; clear S; intro ac w β S
                refine RG.done rfl (nx_then (wp_ret (rt_block (rt_then ?_))))
                refine S.r [B (!x.wr)] ?_
                exact ⟨retB (by clear S; (unfold f_exitOk; (repeat' split) <;> first | rfl | (exfalso; simp_all; done) | (exfalso; omega) | (rw [Bool.eq_iff_iff]; simp [TExit.ext_iff, *]; done) | (rw [Bool.eq_iff_iff]; simp_all [TExit.ext_iff, and_assoc]; done) | (rw [Bool.eq_iff_iff]; simp_all [TExit.ext_iff, and_assoc]; omega))), S.chg⟩
              · have g28 : ¬ (x.page = 0) := ne_of_beq_false h26
                refine S.q 5 [2] 0 ⟨[(2, .v (B false))], []⟩ .nil ?_; clear S; intro ac w β S
                refine RG.done rfl (nx_then (wp_ret (rt_block (rt_then ?_))))
                refine S.r [B false] ?_
                exact ⟨retB (by clear S; (unfold f_exitOk; (repeat' split) <;> first | rfl | (exfalso; simp_all; done) | (exfalso; omega) | (rw [Bool.eq_iff_iff]; simp [TExit.ext_iff, *]; done) | (rw [Bool.eq_iff_iff]; simp_all [TExit.ext_iff, and_assoc]; done) | (rw [Bool.eq_iff_iff]; simp_all [TExit.ext_iff, and_assoc]; omega))), S.chg⟩
            · have g29 := within_f h24
              refine S.q 10 [2] 0 ⟨[(2, .v (B false))], []⟩ .nil ?_; clear S; intro ac w β S
              refine RG.done rfl (nx_then (wp_ret (rt_block (rt_then ?_))))
              refine S.r [B false] ?_
              exact ⟨retB (by clear S; (unfold f_exitOk; (repeat' split) <;> first | rfl | (exfalso; simp_all; done) | (exfalso; omega) | (rw [Bool.eq_iff_iff]; simp [TExit.ext_iff, *]; done) | (rw [Bool.eq_iff_iff]; simp_all [TExit.ext_iff, and_assoc]; done) | (rw [Bool.eq_iff_iff]; simp_all [TExit.ext_iff, and_assoc]; omega))), S.chg⟩
          · have g30 : ¬ (x.kind = 3) := ne_of_beq_false h22
            refine wp_skip (nx_block (nx_then (wp_seq (RG.start ?_))))
            refine S.q 1 [2] 0 ⟨[(2, .v (B false))], []⟩ .nil ?_; clear S; intro ac w β S
            refine RG.done rfl (nx_then (wp_ret ?_))
            refine S.r [B false] ?_
            exact ⟨retB (by clear S; (unfold f_exitOk; (repeat' split) <;> first | rfl | (exfalso; simp_all; done) | (exfalso; omega) | (rw [Bool.eq_iff_iff]; simp [TExit.ext_iff, *]; done) | (rw [Bool.eq_iff_iff]; simp_all [TExit.ext_iff, and_assoc]; done) | (rw [Bool.eq_iff_iff]; simp_all [TExit.ext_iff, and_assoc]; omega))), S.chg⟩

set_option maxRecDepth 100000 in
theorem c_spec_GuestOk (w0 : World) (g : TGuest) (pg : PGuest) (hg : GT.rd KK (Lt w0.heap.size) w0 g pg) : Calls Tryz.prog 89 [GT.val g pg].toArray w0 (fun e w' => e = .returned (B (f_guestOk g)) ∧ Chg NoB w0 w') := by
  refine Calls.walk (args := [GT.val g pg]) NoB Tryz.func89 rfl rfl ?_
  intro ac β S
  have hleg_prog : g.prog.length ≤ 4194304 := LRd.le (RGuest.prog (d := g) hg)
  have hleg_written : g.written.length ≤ 4194304 := LRd.le (RGuest.written (d := g) hg)
  have hleg_live : g.live.length ≤ 4194304 := LRd.le (RGuest.live (d := g) hg)
  have hleg_seen : g.seen.length ≤ 4194304 := LRd.le (RGuest.seen (d := g) hg)
  refine wp_seq (RG.start ?_)
  refine S.q 2 [1] 1 ⟨[(1, .p 0 0)], [GT.cells g pg]⟩ .nil ?_; clear S; intro ac w β S
  refine RG.done rfl (nx_then (wp_seq (RG.start ?_)))
  refine S.q 4 [1, 6] 1 ⟨[(1, .p 0 0), (6, .v (B (f_progOk g.prog)))], [GT.cells g pg]⟩ (.cons (Q_call fun w hw => c_spec_ProgOk w g.prog pg.prog (rd_of (RGuest.prog (d := g) (S.arg hg)) hw)) .nil) ?_; clear S; intro ac w β S
  rcases Bool.eq_false_or_eq_true (f_progOk g.prog) with h1 | h1 <;> rw [h1] at S
  · refine S.q 5 [1, 11] 1 ⟨[(1, .p 0 0), (11, .v (B (f_within g.acc 0 99)))], [GT.cells g pg]⟩ (.cons (Q_call fun w hw => c_spec_l01In w g.acc 0 99) .nil) ?_; clear S; intro ac w β S
    rcases Bool.eq_false_or_eq_true (f_within g.acc 0 99) with h2 | h2 <;> rw [h2] at S
    · have g3 := within_t h2
      refine S.q 5 [1, 16] 1 ⟨[(1, .p 0 0), (16, .v (B (f_within g.pc 0 12)))], [GT.cells g pg]⟩ (.cons (Q_call fun w hw => c_spec_l01In w g.pc 0 12) .nil) ?_; clear S; intro ac w β S
      rcases Bool.eq_false_or_eq_true (f_within g.pc 0 12) with h4 | h4 <;> rw [h4] at S
      · have g5 := within_t h4
        refine S.q 5 [1, 21] 1 ⟨[(1, .p 0 0), (21, .v (B (f_tableOk g.written 4 8)))], [GT.cells g pg]⟩ (.cons (Q_call fun w hw => c_spec_TableOk w g.written pg.written (rd_of (RGuest.written (d := g) (S.arg hg)) hw) 4 8 (by omega) (by omega)) .nil) ?_; clear S; intro ac w β S
        rcases Bool.eq_false_or_eq_true (f_tableOk g.written 4 8) with h6 | h6 <;> rw [h6] at S
        · have g7 := tableOk_t h6
          refine S.q 5 [1, 26] 1 ⟨[(1, .p 0 0), (26, .v (B (f_tableOk g.live 4 8)))], [GT.cells g pg]⟩ (.cons (Q_call fun w hw => c_spec_TableOk w g.live pg.live (rd_of (RGuest.live (d := g) (S.arg hg)) hw) 4 8 (by omega) (by omega)) .nil) ?_; clear S; intro ac w β S
          rcases Bool.eq_false_or_eq_true (f_tableOk g.live 4 8) with h8 | h8 <;> rw [h8] at S
          · have g9 := tableOk_t h8
            refine S.q 5 [1, 31] 1 ⟨[(1, .p 0 0), (31, .v (B (f_ctlOk g.ctl)))], [GT.cells g pg]⟩ (.cons (Q_call fun w hw => c_spec_CtlOk w g.ctl) .nil) ?_; clear S; intro ac w β S
            rcases Bool.eq_false_or_eq_true (f_ctlOk g.ctl) with h10 | h10 <;> rw [h10] at S
            · refine S.q 5 [1, 36] 1 ⟨[(1, .p 0 0), (36, .v (B (f_within g.pend 0 255)))], [GT.cells g pg]⟩ (.cons (Q_call fun w hw => c_spec_PendOk w g.pend) .nil) ?_; clear S; intro ac w β S
              rcases Bool.eq_false_or_eq_true (f_within g.pend 0 255) with h11 | h11 <;> rw [h11] at S
              · have g12 := within_t h11
                refine S.q 5 [1, 41] 1 ⟨[(1, .p 0 0), (41, .v (B (f_exitOk g.exit)))], [GT.cells g pg]⟩ (.cons (Q_call fun w hw => c_spec_ExitOk w g.exit) .nil) ?_; clear S; intro ac w β S
                rcases Bool.eq_false_or_eq_true (f_exitOk g.exit) with h13 | h13 <;> rw [h13] at S
                · refine S.q 6 [2] 0 ⟨[(2, .v (B (decide (((g.seen).length : Int) ≤ 40))))], []⟩ .nil ?_; clear S; intro ac w β S
                  refine RG.done rfl (nx_then (wp_ret ?_))
                  refine S.r [B (decide (((g.seen).length : Int) ≤ 40))] ?_
                  exact ⟨retB (by clear S; first | rfl | (simp [f_guestOk, *]; done) | (simp [f_guestOk, *]; omega) | (simp_all [f_guestOk]; done) | (simp_all [f_guestOk]; omega)), S.chg⟩
                · refine S.q 6 [2] 0 ⟨[(2, .v (B false))], []⟩ .nil ?_; clear S; intro ac w β S
                  refine RG.done rfl (nx_then (wp_ret ?_))
                  refine S.r [B false] ?_
                  exact ⟨retB (by clear S; first | rfl | (simp [f_guestOk, *]; done) | (simp [f_guestOk, *]; omega) | (simp_all [f_guestOk]; done) | (simp_all [f_guestOk]; omega)), S.chg⟩
              · have g14 := within_f h11
                refine S.q 11 [2] 0 ⟨[(2, .v (B false))], []⟩ .nil ?_; clear S; intro ac w β S
                refine RG.done rfl (nx_then (wp_ret ?_))
                refine S.r [B false] ?_
                exact ⟨retB (by clear S; first | rfl | (simp [f_guestOk, *]; done) | (simp [f_guestOk, *]; omega) | (simp_all [f_guestOk]; done) | (simp_all [f_guestOk]; omega)), S.chg⟩
            · refine S.q 16 [2] 0 ⟨[(2, .v (B false))], []⟩ .nil ?_; clear S; intro ac w β S
              refine RG.done rfl (nx_then (wp_ret ?_))
              refine S.r [B false] ?_
              exact ⟨retB (by clear S; first | rfl | (simp [f_guestOk, *]; done) | (simp [f_guestOk, *]; omega) | (simp_all [f_guestOk]; done) | (simp_all [f_guestOk]; omega)), S.chg⟩
          · refine S.q 21 [2] 0 ⟨[(2, .v (B false))], []⟩ .nil ?_; clear S; intro ac w β S
            refine RG.done rfl (nx_then (wp_ret ?_))
            refine S.r [B false] ?_
            exact ⟨retB (by clear S; first | rfl | (simp [f_guestOk, *]; done) | (simp [f_guestOk, *]; omega) | (simp_all [f_guestOk]; done) | (simp_all [f_guestOk]; omega)), S.chg⟩
        · refine S.q 26 [2] 0 ⟨[(2, .v (B false))], []⟩ .nil ?_; clear S; intro ac w β S
          refine RG.done rfl (nx_then (wp_ret ?_))
          refine S.r [B false] ?_
          exact ⟨retB (by clear S; first | rfl | (simp [f_guestOk, *]; done) | (simp [f_guestOk, *]; omega) | (simp_all [f_guestOk]; done) | (simp_all [f_guestOk]; omega)), S.chg⟩
      · have g15 := within_f h4
        refine S.q 31 [2] 0 ⟨[(2, .v (B false))], []⟩ .nil ?_; clear S; intro ac w β S
        refine RG.done rfl (nx_then (wp_ret ?_))
        refine S.r [B false] ?_
        exact ⟨retB (by clear S; first | rfl | (simp [f_guestOk, *]; done) | (simp [f_guestOk, *]; omega) | (simp_all [f_guestOk]; done) | (simp_all [f_guestOk]; omega)), S.chg⟩
    · have g16 := within_f h2
      refine S.q 36 [2] 0 ⟨[(2, .v (B false))], []⟩ .nil ?_; clear S; intro ac w β S
      refine RG.done rfl (nx_then (wp_ret ?_))
      refine S.r [B false] ?_
      exact ⟨retB (by clear S; first | rfl | (simp [f_guestOk, *]; done) | (simp [f_guestOk, *]; omega) | (simp_all [f_guestOk]; done) | (simp_all [f_guestOk]; omega)), S.chg⟩
  · refine S.q 41 [2] 0 ⟨[(2, .v (B false))], []⟩ .nil ?_; clear S; intro ac w β S
    refine RG.done rfl (nx_then (wp_ret ?_))
    refine S.r [B false] ?_
    exact ⟨retB (by clear S; first | rfl | (simp [f_guestOk, *]; done) | (simp [f_guestOk, *]; omega) | (simp_all [f_guestOk]; done) | (simp_all [f_guestOk]; omega)), S.chg⟩

set_option maxRecDepth 100000 in
theorem c_spec_RightsOk (w0 : World) (r : Int) : Calls Tryz.prog 129 [I r].toArray w0 (fun e w' => e = .returned (B (f_within r 0 3)) ∧ Chg NoB w0 w') := by
  refine Calls.walk (args := [I r]) NoB Tryz.func129 rfl rfl ?_
  intro ac β S
  refine wp_seq (RG.start ?_)
  refine S.q 1 [0] 0 ⟨[(0, .v (I r))], []⟩ .nil ?_; clear S; intro ac w β S
  refine RG.done rfl (nx_then (wp_seq (RG.start ?_)))
  refine S.q 3 [2] 0 ⟨[(2, .v (B (f_within r 0 3)))], []⟩ (.cons (Q_call fun w hw => c_spec_l01In w r 0 3) .nil) ?_; clear S; intro ac w β S
  refine RG.done rfl (nx_then (wp_ret ?_))
  refine S.r [B (f_within r 0 3)] ?_
  exact ⟨retB (by clear S; first | rfl | (simp [f_within, *]; done) | (simp [f_within, *]; omega) | (simp_all [f_within]; done) | (simp_all [f_within]; omega)), S.chg⟩

set_option maxRecDepth 100000 in
theorem c_spec_Enough (w0 : World) (rights : Int) (need : Int) : Calls Tryz.prog 91 [I rights, I need].toArray w0 (fun e w' => e = .returned (B (f_enough rights need)) ∧ Chg NoB w0 w') := by
  refine Calls.walk (args := [I rights, I need]) NoB Tryz.func91 rfl rfl ?_
  intro ac β S
  refine wp_seq (RG.start ?_)
  refine S.q 1 [0, 1] 0 ⟨[(0, .v (I rights)), (1, .v (I need))], []⟩ .nil ?_; clear S; intro ac w β S
  refine RG.done rfl (nx_then (wp_seq (RG.start ?_)))
  refine S.q 3 [0, 1, 7] 0 ⟨[(0, .v (I rights)), (1, .v (I need)), (7, .v (B (f_within rights 0 3)))], []⟩ (.cons (Q_call fun w hw => c_spec_RightsOk w rights) .nil) ?_; clear S; intro ac w β S
  rcases Bool.eq_false_or_eq_true (f_within rights 0 3) with h1 | h1 <;> rw [h1] at S
  · have g2 := within_t h1
    refine S.q 4 [0, 1, 11] 0 ⟨[(0, .v (I rights)), (1, .v (I need)), (11, .v (B (f_within need 0 3)))], []⟩ (.cons (Q_call fun w hw => c_spec_RightsOk w need) .nil) ?_; clear S; intro ac w β S
    rcases Bool.eq_false_or_eq_true (f_within need 0 3) with h3 | h3 <;> rw [h3] at S
    · have g4 := within_t h3
      refine S.q 7 [4] 0 ⟨[(4, .v (B ((land64 rights need) == need)))], []⟩ (.cons (Q_land64 (x := rights) (y := need)) .nil) ?_; clear S; intro ac w β S
      refine RG.done rfl (nx_then (wp_ret ?_))
      refine S.r [B ((land64 rights need) == need)] ?_
      exact ⟨retB (by clear S; first | rfl | (simp [f_enough, *]; done) | (simp [f_enough, *]; omega) | (simp_all [f_enough]; done) | (simp_all [f_enough]; omega)), S.chg⟩
    · have g5 := within_f h3
      refine S.q 7 [4] 0 ⟨[(4, .v (B false))], []⟩ .nil ?_; clear S; intro ac w β S
      refine RG.done rfl (nx_then (wp_ret ?_))
      refine S.r [B false] ?_
      exact ⟨retB (by clear S; first | rfl | (simp [f_enough, *]; done) | (simp [f_enough, *]; omega) | (simp_all [f_enough]; done) | (simp_all [f_enough]; omega)), S.chg⟩
  · have g6 := within_f h1
    refine S.q 11 [4] 0 ⟨[(4, .v (B false))], []⟩ .nil ?_; clear S; intro ac w β S
    refine RG.done rfl (nx_then (wp_ret ?_))
    refine S.r [B false] ?_
    exact ⟨retB (by clear S; first | rfl | (simp [f_enough, *]; done) | (simp [f_enough, *]; omega) | (simp_all [f_enough]; done) | (simp_all [f_enough]; omega)), S.chg⟩

set_option maxRecDepth 100000 in
theorem c_spec_MonOk (w0 : World) (m : TMon) (pm : PMon) (hm : GT.rd KK (Lt w0.heap.size) w0 m pm) : Calls Tryz.prog 50 [GT.val m pm].toArray w0 (fun e w' => e = .returned (B (f_monOk m)) ∧ Chg NoB w0 w') := by
  refine Calls.walk (args := [GT.val m pm]) NoB Tryz.func50 rfl rfl ?_
  intro ac β S
  have hlem_outer : m.outer.length ≤ 4194304 := LRd.le (RMon.outer (d := m) hm)
  have hlem_out : m.out.length ≤ 4194304 := LRd.le (RMon.out (d := m) hm)
  have hlem_dirty : m.dirty.length ≤ 4194304 := LRd.le (RMon.dirty (d := m) hm)
  have hlem_guests : m.guests.length ≤ 4194304 := LRd.le (RMon.guests (d := m) hm)
  have hlem_outs : m.outs.length ≤ 4194304 := LRd.le (RMon.outs (d := m) hm)
  have hlem_tables : m.tables.length ≤ 4194304 := LRd.le (RMon.tables (d := m) hm)
  refine wp_seq (RG.start ?_)
  refine S.q 2 [1] 1 ⟨[(1, .p 0 0)], [GT.cells m pm]⟩ .nil ?_; clear S; intro ac w β S
  refine RG.done rfl (nx_then (wp_seq (wp_seq (RG.start ?_))))
  refine S.q 6 [1, 11] 1 ⟨[(1, .p 0 0), (11, .v (B (!(f_within ((m.guests).length : Int) 1 2))))], [GT.cells m pm]⟩ (.cons (Q_call fun w hw => c_spec_l01In w ((m.guests).length : Int) 1 2) .nil) ?_; clear S; intro ac w β S
  rcases Bool.eq_false_or_eq_true (!(f_within ((m.guests).length : Int) 1 2)) with h1 | h1 <;> rw [h1] at S
  · have h2 : (f_within ((m.guests).length : Int) 1 2) = false := not_t h1
    have g3 := within_f h2
    refine S.q 26 [1, 37] 1 ⟨[(1, .p 0 0), (37, .v (B true))], [GT.cells m pm]⟩ .nil ?_; clear S; intro ac w β S
    refine RG.done rfl (nx_then ?_)
    refine S.c true (fun _ => ?_) (fun hx => by cases hx)
    refine wp_seq (RG.start ?_)
    refine S.q 1 [2] 0 ⟨[(2, .v (B false))], []⟩ .nil ?_; clear S; intro ac w β S
    refine RG.done rfl (nx_then (wp_ret (rt_then ?_)))
    refine S.r [B false] ?_
    exact ⟨retB (by clear S; (symm; rw [← Bool.not_eq_true]; intro hc; simp only [f_monOk, f_monHead, f_monTail, Bool.and_eq_true, decide_eq_true_eq, beq_iff_eq] at hc; first | omega | (simp_all; done) | (simp_all; omega) | (have hx := all_el (k := k) hc.1.2 (by omega); simp_all; done) | (have hx := rng_el (k := j) hc.2 (by omega); unfold f_pageSlot at hx; split at hx <;> first | (simp_all; done) | (simp_all; omega)))), S.chg⟩
  · have h4 : (f_within ((m.guests).length : Int) 1 2) = true := not_f h1
    have g5 := within_t h4
    refine S.q 9 [1, 20] 1 ⟨[(1, .p 0 0), (20, .v (B (((m.tables).length : Int) != ((m.guests).length : Int))))], [GT.cells m pm]⟩ .nil ?_; clear S; intro ac w β S
    rcases Bool.eq_false_or_eq_true (((m.tables).length : Int) != ((m.guests).length : Int)) with h6 | h6 <;> rw [h6] at S
    · have g7 : ¬ (((m.tables).length : Int) = ((m.guests).length : Int)) := bne_iff_ne.1 h6
      refine S.q 17 [1, 37] 1 ⟨[(1, .p 0 0), (37, .v (B true))], [GT.cells m pm]⟩ .nil ?_; clear S; intro ac w β S
      refine RG.done rfl (nx_then ?_)
      refine S.c true (fun _ => ?_) (fun hx => by cases hx)
      refine wp_seq (RG.start ?_)
      refine S.q 1 [2] 0 ⟨[(2, .v (B false))], []⟩ .nil ?_; clear S; intro ac w β S
      refine RG.done rfl (nx_then (wp_ret (rt_then ?_)))
      refine S.r [B false] ?_
      exact ⟨retB (by clear S; (symm; rw [← Bool.not_eq_true]; intro hc; simp only [f_monOk, f_monHead, f_monTail, Bool.and_eq_true, decide_eq_true_eq, beq_iff_eq] at hc; first | omega | (simp_all; done) | (simp_all; omega) | (have hx := all_el (k := k) hc.1.2 (by omega); simp_all; done) | (have hx := rng_el (k := j) hc.2 (by omega); unfold f_pageSlot at hx; split at hx <;> first | (simp_all; done) | (simp_all; omega)))), S.chg⟩
    · have g8 : ((m.tables).length : Int) = ((m.guests).length : Int) := ne_f h6
      refine S.q 6 [1, 26] 1 ⟨[(1, .p 0 0), (26, .v (B (!(f_tableOk m.outer 8 12))))], [GT.cells m pm]⟩ (.cons (Q_call fun w hw => c_spec_TableOk w m.outer pm.outer (rd_of (RMon.outer (d := m) (S.arg hm)) hw) 8 12 (by omega) (by omega)) .nil) ?_; clear S; intro ac w β S
      rcases Bool.eq_false_or_eq_true (!(f_tableOk m.outer 8 12)) with h9 | h9 <;> rw [h9] at S
      · have h10 : (f_tableOk m.outer 8 12) = false := not_t h9
        refine S.q 11 [1, 37] 1 ⟨[(1, .p 0 0), (37, .v (B true))], [GT.cells m pm]⟩ .nil ?_; clear S; intro ac w β S
        refine RG.done rfl (nx_then ?_)
        refine S.c true (fun _ => ?_) (fun hx => by cases hx)
        refine wp_seq (RG.start ?_)
        refine S.q 1 [2] 0 ⟨[(2, .v (B false))], []⟩ .nil ?_; clear S; intro ac w β S
        refine RG.done rfl (nx_then (wp_ret (rt_then ?_)))
        refine S.r [B false] ?_
        exact ⟨retB (by clear S; (symm; rw [← Bool.not_eq_true]; intro hc; simp only [f_monOk, f_monHead, f_monTail, Bool.and_eq_true, decide_eq_true_eq, beq_iff_eq] at hc; first | omega | (simp_all; done) | (simp_all; omega) | (have hx := all_el (k := k) hc.1.2 (by omega); simp_all; done) | (have hx := rng_el (k := j) hc.2 (by omega); unfold f_pageSlot at hx; split at hx <;> first | (simp_all; done) | (simp_all; omega)))), S.chg⟩
      · have h11 : (f_tableOk m.outer 8 12) = true := not_f h9
        have g12 := tableOk_t h11
        refine S.q 6 [1, 32] 1 ⟨[(1, .p 0 0), (32, .v (B (((m.out).length : Int) != 8)))], [GT.cells m pm]⟩ .nil ?_; clear S; intro ac w β S
        rcases Bool.eq_false_or_eq_true (((m.out).length : Int) != 8) with h13 | h13 <;> rw [h13] at S
        · have g14 : ¬ (((m.out).length : Int) = 8) := bne_iff_ne.1 h13
          refine S.q 5 [1, 37] 1 ⟨[(1, .p 0 0), (37, .v (B true))], [GT.cells m pm]⟩ .nil ?_; clear S; intro ac w β S
          refine RG.done rfl (nx_then ?_)
          refine S.c true (fun _ => ?_) (fun hx => by cases hx)
          refine wp_seq (RG.start ?_)
          refine S.q 1 [2] 0 ⟨[(2, .v (B false))], []⟩ .nil ?_; clear S; intro ac w β S
          refine RG.done rfl (nx_then (wp_ret (rt_then ?_)))
          refine S.r [B false] ?_
          exact ⟨retB (by clear S; (symm; rw [← Bool.not_eq_true]; intro hc; simp only [f_monOk, f_monHead, f_monTail, Bool.and_eq_true, decide_eq_true_eq, beq_iff_eq] at hc; first | omega | (simp_all; done) | (simp_all; omega) | (have hx := all_el (k := k) hc.1.2 (by omega); simp_all; done) | (have hx := rng_el (k := j) hc.2 (by omega); unfold f_pageSlot at hx; split at hx <;> first | (simp_all; done) | (simp_all; omega)))), S.chg⟩
        · have g15 : ((m.out).length : Int) = 8 := ne_f h13
          refine S.q 5 [1, 37] 1 ⟨[(1, .p 0 0), (37, .v (B (((m.dirty).length : Int) != 8)))], [GT.cells m pm]⟩ .nil ?_; clear S; intro ac w β S
          refine RG.done rfl (nx_then ?_)
          refine S.c (((m.dirty).length : Int) != 8) (fun h16 => ?_) (fun h16 => ?_)
          · have g17 : ¬ (((m.dirty).length : Int) = 8) := bne_iff_ne.1 h16
            refine wp_seq (RG.start ?_)
            refine S.q 1 [2] 0 ⟨[(2, .v (B false))], []⟩ .nil ?_; clear S; intro ac w β S
            refine RG.done rfl (nx_then (wp_ret (rt_then ?_)))
            refine S.r [B false] ?_
            exact ⟨retB (by clear S; (symm; rw [← Bool.not_eq_true]; intro hc; simp only [f_monOk, f_monHead, f_monTail, Bool.and_eq_true, decide_eq_true_eq, beq_iff_eq] at hc; first | omega | (simp_all; done) | (simp_all; omega) | (have hx := all_el (k := k) hc.1.2 (by omega); simp_all; done) | (have hx := rng_el (k := j) hc.2 (by omega); unfold f_pageSlot at hx; split at hx <;> first | (simp_all; done) | (simp_all; omega)))), S.chg⟩
          · have g18 : ((m.dirty).length : Int) = 8 := ne_f h16
            refine wp_skip (nx_then (wp_seq (wp_seq (RG.start ?_))))
            refine S.q 1 [1, 3] 1 ⟨[(1, .p 0 0), (3, .v (I 0))], [GT.cells m pm]⟩ .nil ?_; clear S; intro ac w β S
            refine RG.done rfl (nx_then (wp_block ?_))
            replace S := S.p [1, 3] 1 ⟨[(1, .p 0 0), (3, .v (I 0))], [GT.cells m pm]⟩
            refine wp_loop_down (fun mm ac w => ∃ (k : Nat)  (u : World) (N : Bl) (β : Nat → Nat), mm = (m.guests).length - k ∧ (k ≤ (m.guests).length) ∧ (((m.guests).take k).all f_guestOk = true) ∧ St Tryz.prog Tryz.f50.ntmps w0 NoB u N β ⟨[(1, .p 0 0), (3, .v (I (k : Int)))], [GT.cells m pm]⟩ ac w) _ ⟨0, _, _, _, rfl, (by first | omega | (simp; done) | (simp; omega)), (by simp), S.cast (by kernel_rfl)⟩ ?_
            clear S
            rintro mm ac w ⟨k, u, N, β, rfl, hk, he, S⟩
            refine wp_seq (wp_seq (RG.start ?_))
            refine S.q 5 [1, 3, 42] 1 ⟨[(1, .p 0 0), (3, .v (I (k : Int))), (42, .v (B (decide ((k : Int) < ((m.guests).length : Int)))))], [GT.cells m pm]⟩ .nil ?_; clear S; intro ac w β S
            refine RG.done rfl (nx_then ?_)
            refine S.c (decide ((k : Int) < ((m.guests).length : Int))) (fun h19 => ?_) (fun h19 => ?_)
            · have g20 : (k : Int) < ((m.guests).length : Int) := of_decide_eq_true h19
              refine wp_skip (nx_then (wp_seq (wp_block (wp_seq (RG.start ?_)))))
              refine S.q 7 [1, 3, 51] 1 ⟨[(1, .p 0 0), (3, .v (I (k : Int))), (51, .v (B (!(f_guestOk (el m.guests k)))))], [GT.cells m pm]⟩ (.cons (Q_idx (RMon.guests (d := m) (S.arg hm)) (l := (m.guests).length) (k := k) (i := (k : Int)) rfl rfl (by omega) Tryz.underlying52 (by kernel_rfl)) (.cons (Q_el (RMon.guests (d := m) (S.arg hm)) (t := 108) (k := k) (by omega) rfl (by kernel_rfl) (by kernel_rfl)) (.cons (Q_call fun w hw => c_spec_GuestOk w (el m.guests k) (pm.guests.2 k) (rd_of (LRd.el (RMon.guests (d := m) (S.arg hm)) k (by omega)) hw)) .nil))) ?_; clear S; intro ac w β S
              refine RG.done rfl (nx_then ?_)
              refine S.c (!(f_guestOk (el m.guests k))) (fun h21 => ?_) (fun h21 => ?_)
              · have h22 : (f_guestOk (el m.guests k)) = false := not_t h21
                refine wp_seq (RG.start ?_)
                refine S.q 1 [2] 0 ⟨[(2, .v (B false))], []⟩ .nil ?_; clear S; intro ac w β S
                refine RG.done rfl (nx_then (wp_ret (rt_block (rt_then (rt_then (rt_block (rt_then ?_)))))))
                refine S.r [B false] ?_
                exact ⟨retB (by clear S; (symm; rw [← Bool.not_eq_true]; intro hc; simp only [f_monOk, f_monHead, f_monTail, Bool.and_eq_true, decide_eq_true_eq, beq_iff_eq] at hc; first | omega | (simp_all; done) | (simp_all; omega) | (have hx := all_el (k := k) hc.1.2 (by omega); simp_all; done) | (have hx := rng_el (k := j) hc.2 (by omega); unfold f_pageSlot at hx; split at hx <;> first | (simp_all; done) | (simp_all; omega)))), S.chg⟩
              · have h23 : (f_guestOk (el m.guests k)) = true := not_f h21
                refine wp_skip (nx_block (nx_then (RG.start ?_)))
                refine S.q 3 [1, 3] 1 ⟨[(1, .p 0 0), (3, .v (I ((k : Int) + 1)))], [GT.cells m pm]⟩ (.cons (Q_add (x := (k : Int)) (y := 1) ⟨by omega, by omega⟩) .nil) ?_; clear S; intro ac w β S
                refine RG.done rfl (nx_then ?_)
                replace S := S.p [1, 3] 1 ⟨[(1, .p 0 0), (3, .v (I ((k : Int) + 1)))], [GT.cells m pm]⟩
                refine ⟨(m.guests).length - (k + 1), by omega, k + 1, _, _, _, rfl, ?_, ?_, S.cast (by kernel_rfl)⟩
                · clear S; first | omega | (simp [*]; done) | (simp [*]; omega)
                · clear S; exact all_step (by omega) he (by first | assumption | (simp only [f_slotOk, f_within] at *; simp_all; done) | (simp_all; done) | (simp_all; omega))
            · have g24 : ¬ ((k : Int) < ((m.guests).length : Int)) := of_decide_eq_false h19
              refine wp_exit (ex_then (ex_then (ex_hit (nx_then (wp_seq (wp_seq (RG.start ?_)))))))
              refine S.q 1 [1, 4] 1 ⟨[(1, .p 0 0), (4, .v (I 0))], [GT.cells m pm]⟩ .nil ?_; clear S; intro ac w β S
              refine RG.done rfl (nx_then (wp_block ?_))
              replace S := S.p [1, 4] 1 ⟨[(1, .p 0 0), (4, .v (I 0))], [GT.cells m pm]⟩
              refine wp_loop_down (fun mm ac w => ∃ (j : Nat)  (u : World) (N : Bl) (β : Nat → Nat), mm = 8 - j ∧ (j ≤ 8) ∧ ((List.range j).all (f_pageSlot m) = true) ∧ St Tryz.prog Tryz.f50.ntmps w0 NoB u N β ⟨[(1, .p 0 0), (4, .v (I (j : Int)))], [GT.cells m pm]⟩ ac w) _ ⟨0, _, _, _, rfl, (by first | omega | (simp; done) | (simp; omega)), (by rfl), S.cast (by kernel_rfl)⟩ ?_
              clear S
              rintro mm ac w ⟨j, u, N, β, rfl, hj, hp, S⟩
              have hlo : m.outer.length = 8 := by omega
              have hlu : m.out.length = 8 := by omega
              refine wp_seq (wp_seq (RG.start ?_))
              refine S.q 2 [1, 4, 53] 1 ⟨[(1, .p 0 0), (4, .v (I (j : Int))), (53, .v (B (decide ((j : Int) < 8))))], [GT.cells m pm]⟩ .nil ?_; clear S; intro ac w β S
              refine RG.done rfl (nx_then ?_)
              refine S.c (decide ((j : Int) < 8)) (fun h25 => ?_) (fun h25 => ?_)
              · have g26 : (j : Int) < 8 := of_decide_eq_true h25
                refine wp_skip (nx_then (wp_seq (wp_block (wp_seq ?_))))
                refine S.drawn (keep := [1, 4, 5]) (m := 1) (σ' := ⟨[(1, .p 0 0), (4, .v (I (j : Int))), (5, .v (B (!decide ((el m.outer j) = ((⟨-1, 0⟩ : TSlot))))))], [GT.cells m pm]⟩) (.cons (Q_idx (RMon.outer (d := m) (S.arg hm)) (l := (m.outer).length) (k := j) (i := (j : Int)) rfl rfl (by omega) Tryz.underlying50 (by kernel_rfl)) (.cons (Q_el (RMon.outer (d := m) (S.arg hm)) (t := 87) (k := j) (by omega) rfl (by kernel_rfl) (by kernel_rfl)) (.cons (Q_call fun w hw => c_spec_NoSlot w ) (.cons (Eq_ne_Slot (t := 87) (el m.outer j) ((⟨-1, 0⟩ : TSlot)) (by kernel_rfl)) .nil)))) rfl (by kernel_rfl) (by kernel_rfl) ?_
                clear S; intro ac w S
                refine id (nx_then (wp_seq (RG.start ?_)))
                refine S.q 2 [1, 4, 5, 64] 1 ⟨[(1, .p 0 0), (4, .v (I (j : Int))), (5, .v (B (!decide ((el m.outer j) = ((⟨-1, 0⟩ : TSlot)))))), (64, .v (B (!decide ((el m.outer j) = ((⟨-1, 0⟩ : TSlot))))))], [GT.cells m pm]⟩ .nil ?_; clear S; intro ac w β S
                rcases Bool.eq_false_or_eq_true (!decide ((el m.outer j) = ((⟨-1, 0⟩ : TSlot)))) with h27 | h27 <;> rw [h27] at S
                · refine S.q 8 [1, 4, 5, 64, 72] 1 ⟨[(1, .p 0 0), (4, .v (I (j : Int))), (5, .v (B true)), (64, .v (B true)), (72, .v (B (decide ((((el m.out j)).length : Int) > 0))))], [GT.cells m pm]⟩ (.cons (Q_idx (RMon.out (d := m) (S.arg hm)) (l := (m.out).length) (k := j) (i := (j : Int)) rfl rfl (by omega) Tryz.underlying22 (by kernel_rfl)) (.cons (Q_el1 (RMon.out (d := m) (S.arg hm)) (t := 53) (k := j) (by omega) rfl (by kernel_rfl)) .nil)) ?_; clear S; intro ac w β S
                  rcases Bool.eq_false_or_eq_true (decide ((((el m.out j)).length : Int) > 0)) with h28 | h28 <;> rw [h28] at S
                  · have g29 : (((el m.out j)).length : Int) > 0 := of_decide_eq_true h28
                    refine S.q 23 [1, 4, 95] 1 ⟨[(1, .p 0 0), (4, .v (I (j : Int))), (95, .v (B true))], [GT.cells m pm]⟩ .nil ?_; clear S; intro ac w β S
                    refine RG.done rfl (nx_then ?_)
                    refine S.c true (fun _ => ?_) (fun hx => by cases hx)
                    refine wp_seq (RG.start ?_)
                    refine S.q 1 [2] 0 ⟨[(2, .v (B false))], []⟩ .nil ?_; clear S; intro ac w β S
                    refine RG.done rfl (nx_then (wp_ret (rt_block (rt_then (rt_then (rt_block (rt_then ?_)))))))
                    refine S.r [B false] ?_
                    exact ⟨retB (by clear S; (symm; rw [← Bool.not_eq_true]; intro hc; simp only [f_monOk, f_monHead, f_monTail, Bool.and_eq_true, decide_eq_true_eq, beq_iff_eq] at hc; first | omega | (simp_all; done) | (simp_all; omega) | (have hx := all_el (k := k) hc.1.2 (by omega); simp_all; done) | (have hx := rng_el (k := j) hc.2 (by omega); unfold f_pageSlot at hx; split at hx <;> first | (simp_all; done) | (simp_all; omega)))), S.chg⟩
                  · have g30 : ¬ ((((el m.out j)).length : Int) > 0) := of_decide_eq_false h28
                    refine S.q 11 [1, 4, 5, 83] 1 ⟨[(1, .p 0 0), (4, .v (I (j : Int))), (5, .v (B true)), (83, .v (B (!(f_enough ((el m.outer j).rights) 1))))], [GT.cells m pm]⟩ (.cons (Q_idx (RMon.outer (d := m) (S.arg hm)) (l := (m.outer).length) (k := j) (i := (j : Int)) rfl rfl (by omega) Tryz.underlying50 (by kernel_rfl)) (.cons (Q_cell (RMon.outer (d := m) (S.arg hm)) (t := 3) (k := j) (j := 1) (v := I ((el m.outer j).rights)) (by omega) (by kernel_rfl) (by kernel_rfl)) (.cons (Q_call fun w hw => c_spec_Enough w ((el m.outer j).rights) 1) .nil))) ?_; clear S; intro ac w β S
                    rcases Bool.eq_false_or_eq_true (!(f_enough ((el m.outer j).rights) 1)) with h31 | h31 <;> rw [h31] at S
                    · have h32 : (f_enough ((el m.outer j).rights) 1) = false := not_t h31
                      refine S.q 12 [1, 4, 95] 1 ⟨[(1, .p 0 0), (4, .v (I (j : Int))), (95, .v (B true))], [GT.cells m pm]⟩ .nil ?_; clear S; intro ac w β S
                      refine RG.done rfl (nx_then ?_)
                      refine S.c true (fun _ => ?_) (fun hx => by cases hx)
                      refine wp_seq (RG.start ?_)
                      refine S.q 1 [2] 0 ⟨[(2, .v (B false))], []⟩ .nil ?_; clear S; intro ac w β S
                      refine RG.done rfl (nx_then (wp_ret (rt_block (rt_then (rt_then (rt_block (rt_then ?_)))))))
                      refine S.r [B false] ?_
                      exact ⟨retB (by clear S; (symm; rw [← Bool.not_eq_true]; intro hc; simp only [f_monOk, f_monHead, f_monTail, Bool.and_eq_true, decide_eq_true_eq, beq_iff_eq] at hc; first | omega | (simp_all; done) | (simp_all; omega) | (have hx := all_el (k := k) hc.1.2 (by omega); simp_all; done) | (have hx := rng_el (k := j) hc.2 (by omega); unfold f_pageSlot at hx; split at hx <;> first | (simp_all; done) | (simp_all; omega)))), S.chg⟩
                    · have h33 : (f_enough ((el m.outer j).rights) 1) = true := not_f h31
                      refine S.q 12 [1, 4, 95] 1 ⟨[(1, .p 0 0), (4, .v (I (j : Int))), (95, .v (B false))], [GT.cells m pm]⟩ .nil ?_; clear S; intro ac w β S
                      refine RG.done rfl (nx_then ?_)
                      refine S.c false (fun hx => by cases hx) (fun _ => ?_)
                      refine wp_skip (nx_block (nx_then (RG.start ?_)))
                      refine S.q 3 [1, 4] 1 ⟨[(1, .p 0 0), (4, .v (I ((j : Int) + 1)))], [GT.cells m pm]⟩ (.cons (Q_add (x := (j : Int)) (y := 1) ⟨by omega, by omega⟩) .nil) ?_; clear S; intro ac w β S
                      refine RG.done rfl (nx_then ?_)
                      replace S := S.p [1, 4] 1 ⟨[(1, .p 0 0), (4, .v (I ((j : Int) + 1)))], [GT.cells m pm]⟩
                      refine ⟨8 - (j + 1), by omega, j + 1, _, _, _, rfl, ?_, ?_, S.cast (by kernel_rfl)⟩
                      · clear S; first | omega | (simp [*]; done) | (simp [*]; omega)
                      · clear S; (refine rng_step hp ?_; unfold f_pageSlot; (repeat' split) <;> first | (exfalso; simp_all; done) | (simp_all; done) | (simp_all; omega))
                · refine S.q 31 [1, 4, 95] 1 ⟨[(1, .p 0 0), (4, .v (I (j : Int))), (95, .v (B (!(f_pageOk (el m.out j)))))], [GT.cells m pm]⟩ (.cons (Q_idx (RMon.out (d := m) (S.arg hm)) (l := (m.out).length) (k := j) (i := (j : Int)) rfl rfl (by omega) Tryz.underlying22 (by kernel_rfl)) (.cons (Q_el1 (RMon.out (d := m) (S.arg hm)) (t := 53) (k := j) (by omega) rfl (by kernel_rfl)) (.cons (Q_call fun w hw => c_spec_PageOk w (el m.out j) (pm.out.2 j) (rd_of (LRd.el (RMon.out (d := m) (S.arg hm)) j (by omega)) hw)) .nil))) ?_; clear S; intro ac w β S
                  refine RG.done rfl (nx_then ?_)
                  refine S.c (!(f_pageOk (el m.out j))) (fun h34 => ?_) (fun h34 => ?_)
                  · have h35 : (f_pageOk (el m.out j)) = false := not_t h34
                    refine wp_seq (RG.start ?_)
                    refine S.q 1 [2] 0 ⟨[(2, .v (B false))], []⟩ .nil ?_; clear S; intro ac w β S
                    refine RG.done rfl (nx_then (wp_ret (rt_block (rt_then (rt_then (rt_block (rt_then ?_)))))))
                    refine S.r [B false] ?_
                    exact ⟨retB (by clear S; (symm; rw [← Bool.not_eq_true]; intro hc; simp only [f_monOk, f_monHead, f_monTail, Bool.and_eq_true, decide_eq_true_eq, beq_iff_eq] at hc; first | omega | (simp_all; done) | (simp_all; omega) | (have hx := all_el (k := k) hc.1.2 (by omega); simp_all; done) | (have hx := rng_el (k := j) hc.2 (by omega); unfold f_pageSlot at hx; split at hx <;> first | (simp_all; done) | (simp_all; omega)))), S.chg⟩
                  · have h36 : (f_pageOk (el m.out j)) = true := not_f h34
                    refine wp_skip (nx_block (nx_then (RG.start ?_)))
                    refine S.q 3 [1, 4] 1 ⟨[(1, .p 0 0), (4, .v (I ((j : Int) + 1)))], [GT.cells m pm]⟩ (.cons (Q_add (x := (j : Int)) (y := 1) ⟨by omega, by omega⟩) .nil) ?_; clear S; intro ac w β S
                    refine RG.done rfl (nx_then ?_)
                    replace S := S.p [1, 4] 1 ⟨[(1, .p 0 0), (4, .v (I ((j : Int) + 1)))], [GT.cells m pm]⟩
                    refine ⟨8 - (j + 1), by omega, j + 1, _, _, _, rfl, ?_, ?_, S.cast (by kernel_rfl)⟩
                    · clear S; first | omega | (simp [*]; done) | (simp [*]; omega)
                    · clear S; (refine rng_step hp ?_; unfold f_pageSlot; (repeat' split) <;> first | (exfalso; simp_all; done) | (simp_all; done) | (simp_all; omega))
              · have g37 : ¬ ((j : Int) < 8) := of_decide_eq_false h25
                refine wp_exit (ex_then (ex_then (ex_hit (nx_then (wp_seq (RG.start ?_))))))
                refine S.q 5 [1, 100] 1 ⟨[(1, .p 0 0), (100, .v (B (decide (((m.outs).length : Int) ≤ 40))))], [GT.cells m pm]⟩ .nil ?_; clear S; intro ac w β S
                rcases Bool.eq_false_or_eq_true (decide (((m.outs).length : Int) ≤ 40)) with h38 | h38 <;> rw [h38] at S
                · have g39 : ((m.outs).length : Int) ≤ 40 := of_decide_eq_true h38
                  refine S.q 5 [1, 105] 1 ⟨[(1, .p 0 0), (105, .v (B (f_within m.pend 0 255)))], [GT.cells m pm]⟩ (.cons (Q_call fun w hw => c_spec_PendOk w m.pend) .nil) ?_; clear S; intro ac w β S
                  rcases Bool.eq_false_or_eq_true (f_within m.pend 0 255) with h40 | h40 <;> rw [h40] at S
                  · have g41 := within_t h40
                    refine S.q 5 [1, 110] 1 ⟨[(1, .p 0 0), (110, .v (B (f_within m.traps 0 3)))], [GT.cells m pm]⟩ (.cons (Q_call fun w hw => c_spec_l01In w m.traps 0 3) .nil) ?_; clear S; intro ac w β S
                    rcases Bool.eq_false_or_eq_true (f_within m.traps 0 3) with h42 | h42 <;> rw [h42] at S
                    · have g43 := within_t h42
                      refine S.q 5 [2] 0 ⟨[(2, .v (B (f_within m.owned 0 1000000000)))], []⟩ (.cons (Q_call fun w hw => c_spec_l01In w m.owned 0 1000000000) .nil) ?_; clear S; intro ac w β S
                      refine RG.done rfl (nx_then (wp_ret ?_))
                      refine S.r [B (f_within m.owned 0 1000000000)] ?_
                      exact ⟨retB (by clear S; (first | rfl | (symm; rw [← Bool.not_eq_true]; intro hc; simp only [f_monOk, f_monHead, f_monTail, Bool.and_eq_true, decide_eq_true_eq, beq_iff_eq] at hc; first | omega | (simp_all; done) | (simp_all; omega) | (have hx := all_el (k := k) hc.1.2 (by omega); simp_all; done) | (have hx := rng_el (k := j) hc.2 (by omega); unfold f_pageSlot at hx; split at hx <;> first | (simp_all; done) | (simp_all; omega))) | (symm; simp only [f_monOk, f_monHead, f_monTail, Bool.and_eq_true, decide_eq_true_eq, beq_iff_eq]; (repeat' apply And.intro); all_goals first | assumption | omega | (simp_all; done) | (simp_all; omega) | (exact all_end (by omega) he) | ((have e8 : j = 8 := (by omega)); subst e8; exact hp)) | (rw [Bool.eq_iff_iff]; simp only [f_monOk, f_monHead, f_monTail, Bool.and_eq_true, decide_eq_true_eq, beq_iff_eq]; refine ⟨fun hr => ?_, fun hc => ?_⟩ <;> ((repeat' apply And.intro); all_goals first | assumption | omega | (simp_all; done) | (simp_all; omega) | (exact all_end (by omega) he) | ((have e8 : j = 8 := (by omega)); subst e8; exact hp))))), S.chg⟩
                    · have g44 := within_f h42
                      refine S.q 5 [2] 0 ⟨[(2, .v (B false))], []⟩ .nil ?_; clear S; intro ac w β S
                      refine RG.done rfl (nx_then (wp_ret ?_))
                      refine S.r [B false] ?_
                      exact ⟨retB (by clear S; (symm; rw [← Bool.not_eq_true]; intro hc; simp only [f_monOk, f_monHead, f_monTail, Bool.and_eq_true, decide_eq_true_eq, beq_iff_eq] at hc; first | omega | (simp_all; done) | (simp_all; omega) | (have hx := all_el (k := k) hc.1.2 (by omega); simp_all; done) | (have hx := rng_el (k := j) hc.2 (by omega); unfold f_pageSlot at hx; split at hx <;> first | (simp_all; done) | (simp_all; omega)))), S.chg⟩
                  · have g45 := within_f h40
                    refine S.q 10 [2] 0 ⟨[(2, .v (B false))], []⟩ .nil ?_; clear S; intro ac w β S
                    refine RG.done rfl (nx_then (wp_ret ?_))
                    refine S.r [B false] ?_
                    exact ⟨retB (by clear S; (symm; rw [← Bool.not_eq_true]; intro hc; simp only [f_monOk, f_monHead, f_monTail, Bool.and_eq_true, decide_eq_true_eq, beq_iff_eq] at hc; first | omega | (simp_all; done) | (simp_all; omega) | (have hx := all_el (k := k) hc.1.2 (by omega); simp_all; done) | (have hx := rng_el (k := j) hc.2 (by omega); unfold f_pageSlot at hx; split at hx <;> first | (simp_all; done) | (simp_all; omega)))), S.chg⟩
                · have g46 : ¬ (((m.outs).length : Int) ≤ 40) := of_decide_eq_false h38
                  refine S.q 15 [2] 0 ⟨[(2, .v (B false))], []⟩ .nil ?_; clear S; intro ac w β S
                  refine RG.done rfl (nx_then (wp_ret ?_))
                  refine S.r [B false] ?_
                  exact ⟨retB (by clear S; (symm; rw [← Bool.not_eq_true]; intro hc; simp only [f_monOk, f_monHead, f_monTail, Bool.and_eq_true, decide_eq_true_eq, beq_iff_eq] at hc; first | omega | (simp_all; done) | (simp_all; omega) | (have hx := all_el (k := k) hc.1.2 (by omega); simp_all; done) | (have hx := rng_el (k := j) hc.2 (by omega); unfold f_pageSlot at hx; split at hx <;> first | (simp_all; done) | (simp_all; omega)))), S.chg⟩

set_option maxRecDepth 100000 in
theorem c_spec_HostOk (w0 : World) (h : THost) (ph : PHost) (hh : GT.rd KK (Lt w0.heap.size) w0 h ph) : Calls Tryz.prog 19 [GT.val h ph].toArray w0 (fun e w' => e = .returned (B (f_hostOk h)) ∧ Chg NoB w0 w') := by
  refine Calls.walk (args := [GT.val h ph]) NoB Tryz.func19 rfl rfl ?_
  intro ac β S
  have hleh_mem : h.mem.length ≤ 4194304 := LRd.le (RHost.mem (d := h) hh)
  have hleh_mons : h.mons.length ≤ 4194304 := LRd.le (RHost.mons (d := h) hh)
  have hleh_buf : h.buf.length ≤ 4194304 := LRd.le (RHost.buf (d := h) hh)
  have hleh_iobuf : h.iobuf.length ≤ 4194304 := LRd.le (RHost.iobuf (d := h) hh)
  refine wp_seq (RG.start ?_)
  refine S.q 2 [1] 1 ⟨[(1, .p 0 0)], [GT.cells h ph]⟩ .nil ?_; clear S; intro ac w β S
  refine RG.done rfl (nx_then (wp_seq (wp_seq (RG.start ?_))))
  refine S.q 5 [1, 11] 1 ⟨[(1, .p 0 0), (11, .v (B (!(f_memOk h.mem 12))))], [GT.cells h ph]⟩ (.cons (Q_call fun w hw => c_spec_MemOk w h.mem ph.mem (rd_of (RHost.mem (d := h) (S.arg hh)) hw) 12) .nil) ?_; clear S; intro ac w β S
  rcases Bool.eq_false_or_eq_true (!(f_memOk h.mem 12)) with h1 | h1 <;> rw [h1] at S
  · have h2 : (f_memOk h.mem 12) = false := not_t h1
    refine S.q 18 [1, 29] 1 ⟨[(1, .p 0 0), (29, .v (B true))], [GT.cells h ph]⟩ .nil ?_; clear S; intro ac w β S
    refine RG.done rfl (nx_then ?_)
    refine S.c true (fun _ => ?_) (fun hx => by cases hx)
    refine wp_seq (RG.start ?_)
    refine S.q 1 [2] 0 ⟨[(2, .v (B false))], []⟩ .nil ?_; clear S; intro ac w β S
    refine RG.done rfl (nx_then (wp_ret (rt_then ?_)))
    refine S.r [B false] ?_
    exact ⟨retB (by clear S; (first | (symm; rw [← Bool.not_eq_true]; intro hc; simp only [f_hostOk, f_hostHead, Bool.and_eq_true] at hc; (first | (simp_all; done) | (simp_all; omega))) | (rw [hostOk_dead (fold_dead (k := i) (by omega) stepMon_none hu (stepMon_bad (by assumption)))]) | (rw [hostOk_dead (fold_dead (k := i) (by omega) stepMon_none hu ((stepMon_ok hmok).trans (fold_dead (k := k) (by omega) stepSlot_none hu2 (stepSlot_hit (by omega) (by assumption)))))]) | (unfold f_hostOk f_hostUsed f_hostHead; rw [take_all (by omega)] at hu; rw [hu]; simp_all; done))), S.chg⟩
  · have h3 : (f_memOk h.mem 12) = true := not_f h1
    refine S.q 7 [1, 18] 1 ⟨[(1, .p 0 0), (18, .v (B (!(f_within ((h.mons).length : Int) 1 3))))], [GT.cells h ph]⟩ (.cons (Q_call fun w hw => c_spec_l01In w ((h.mons).length : Int) 1 3) .nil) ?_; clear S; intro ac w β S
    rcases Bool.eq_false_or_eq_true (!(f_within ((h.mons).length : Int) 1 3)) with h4 | h4 <;> rw [h4] at S
    · have h5 : (f_within ((h.mons).length : Int) 1 3) = false := not_t h4
      have g6 := within_f h5
      refine S.q 11 [1, 29] 1 ⟨[(1, .p 0 0), (29, .v (B true))], [GT.cells h ph]⟩ .nil ?_; clear S; intro ac w β S
      refine RG.done rfl (nx_then ?_)
      refine S.c true (fun _ => ?_) (fun hx => by cases hx)
      refine wp_seq (RG.start ?_)
      refine S.q 1 [2] 0 ⟨[(2, .v (B false))], []⟩ .nil ?_; clear S; intro ac w β S
      refine RG.done rfl (nx_then (wp_ret (rt_then ?_)))
      refine S.r [B false] ?_
      exact ⟨retB (by clear S; (first | (symm; rw [← Bool.not_eq_true]; intro hc; simp only [f_hostOk, f_hostHead, Bool.and_eq_true] at hc; (first | (simp_all; done) | (simp_all; omega))) | (rw [hostOk_dead (fold_dead (k := i) (by omega) stepMon_none hu (stepMon_bad (by assumption)))]) | (rw [hostOk_dead (fold_dead (k := i) (by omega) stepMon_none hu ((stepMon_ok hmok).trans (fold_dead (k := k) (by omega) stepSlot_none hu2 (stepSlot_hit (by omega) (by assumption)))))]) | (unfold f_hostOk f_hostUsed f_hostHead; rw [take_all (by omega)] at hu; rw [hu]; simp_all; done))), S.chg⟩
    · have h7 : (f_within ((h.mons).length : Int) 1 3) = true := not_f h4
      have g8 := within_t h7
      refine S.q 6 [1, 24] 1 ⟨[(1, .p 0 0), (24, .v (B (!(f_bufferOk h.buf))))], [GT.cells h ph]⟩ (.cons (Q_call fun w hw => c_spec_BufferOk w h.buf ph.buf (rd_of (RHost.buf (d := h) (S.arg hh)) hw)) .nil) ?_; clear S; intro ac w β S
      rcases Bool.eq_false_or_eq_true (!(f_bufferOk h.buf)) with h9 | h9 <;> rw [h9] at S
      · have h10 : (f_bufferOk h.buf) = false := not_t h9
        refine S.q 5 [1, 29] 1 ⟨[(1, .p 0 0), (29, .v (B true))], [GT.cells h ph]⟩ .nil ?_; clear S; intro ac w β S
        refine RG.done rfl (nx_then ?_)
        refine S.c true (fun _ => ?_) (fun hx => by cases hx)
        refine wp_seq (RG.start ?_)
        refine S.q 1 [2] 0 ⟨[(2, .v (B false))], []⟩ .nil ?_; clear S; intro ac w β S
        refine RG.done rfl (nx_then (wp_ret (rt_then ?_)))
        refine S.r [B false] ?_
        exact ⟨retB (by clear S; (first | (symm; rw [← Bool.not_eq_true]; intro hc; simp only [f_hostOk, f_hostHead, Bool.and_eq_true] at hc; (first | (simp_all; done) | (simp_all; omega))) | (rw [hostOk_dead (fold_dead (k := i) (by omega) stepMon_none hu (stepMon_bad (by assumption)))]) | (rw [hostOk_dead (fold_dead (k := i) (by omega) stepMon_none hu ((stepMon_ok hmok).trans (fold_dead (k := k) (by omega) stepSlot_none hu2 (stepSlot_hit (by omega) (by assumption)))))]) | (unfold f_hostOk f_hostUsed f_hostHead; rw [take_all (by omega)] at hu; rw [hu]; simp_all; done))), S.chg⟩
      · have h11 : (f_bufferOk h.buf) = true := not_f h9
        refine S.q 5 [1, 29] 1 ⟨[(1, .p 0 0), (29, .v (B (!(f_bufferOk h.iobuf))))], [GT.cells h ph]⟩ (.cons (Q_call fun w hw => c_spec_BufferOk w h.iobuf ph.iobuf (rd_of (RHost.iobuf (d := h) (S.arg hh)) hw)) .nil) ?_; clear S; intro ac w β S
        refine RG.done rfl (nx_then ?_)
        refine S.c (!(f_bufferOk h.iobuf)) (fun h12 => ?_) (fun h12 => ?_)
        · have h13 : (f_bufferOk h.iobuf) = false := not_t h12
          refine wp_seq (RG.start ?_)
          refine S.q 1 [2] 0 ⟨[(2, .v (B false))], []⟩ .nil ?_; clear S; intro ac w β S
          refine RG.done rfl (nx_then (wp_ret (rt_then ?_)))
          refine S.r [B false] ?_
          exact ⟨retB (by clear S; (first | (symm; rw [← Bool.not_eq_true]; intro hc; simp only [f_hostOk, f_hostHead, Bool.and_eq_true] at hc; (first | (simp_all; done) | (simp_all; omega))) | (rw [hostOk_dead (fold_dead (k := i) (by omega) stepMon_none hu (stepMon_bad (by assumption)))]) | (rw [hostOk_dead (fold_dead (k := i) (by omega) stepMon_none hu ((stepMon_ok hmok).trans (fold_dead (k := k) (by omega) stepSlot_none hu2 (stepSlot_hit (by omega) (by assumption)))))]) | (unfold f_hostOk f_hostUsed f_hostHead; rw [take_all (by omega)] at hu; rw [hu]; simp_all; done))), S.chg⟩
        · have h14 : (f_bufferOk h.iobuf) = true := not_f h12
          refine wp_skip (nx_then (wp_seq (RG.start ?_)))
          refine RG.op rfl (S.make (α := Bool) (m := 12) (by' := 1) (d := 30) (by kernel_rfl) (by omega) (show 12 ≤ 4194304 by omega) ?_)
          clear S; intro ac w N q15 F16 S up o17 d18
          clear up d18
          refine S.q 1 [1, 3] 1 ⟨[(1, .p 0 0), (3, .v (slv 12 q15.1))], [GT.cells h ph]⟩ .nil ?_; clear S; intro ac w β S
          refine RG.done rfl (nx_then (wp_seq (wp_seq (RG.start ?_))))
          refine S.q 1 [1, 3, 4] 1 ⟨[(1, .p 0 0), (3, .v (slv 12 q15.1)), (4, .v (I 0))], [GT.cells h ph]⟩ .nil ?_; clear S; intro ac w β S
          refine RG.done rfl (nx_then (wp_block ?_))
          replace S := S.p [1, 3, 4] 1 ⟨[(1, .p 0 0), (3, .v (slv 12 q15.1)), (4, .v (I 0))], [GT.cells h ph]⟩
          refine wp_loop_down (fun mm ac w => ∃ (i : Nat) (us : List Bool) (q19 : GT.Ptr (List Bool)) (F20 : Bl) (u : World) (N : Bl) (β : Nat → Nat), mm = h.mons.length - i ∧ (i ≤ h.mons.length) ∧ ((h.mons.take i).foldl stepMon (some (List.replicate 12 false)) = some us) ∧ (us.length = 12) ∧ St Tryz.prog Tryz.f19.ntmps w0 NoB u N β ⟨[(1, .p 0 0), (3, .v (slv 12 q19.1)), (4, .v (I (i : Int)))], [GT.cells h ph]⟩ ac w ∧ Ow w0 NoB u N F20 us q19) _ ⟨0, (List.replicate 12 (GT.dflt : Bool)), q15, F16, _, _, _, rfl, (by first | omega | (simp; done) | (simp; omega)), (by rfl), (by rfl), S.cast (by kernel_rfl), o17⟩ ?_
          clear S o17
          rintro mm ac w ⟨i, us, q19, F20, u, N, β, rfl, hi, hu, hul, S, o21⟩
          refine wp_seq (wp_seq (RG.start ?_))
          refine S.q 5 [1, 3, 4, 35] 1 ⟨[(1, .p 0 0), (3, .v (slv 12 q19.1)), (4, .v (I (i : Int))), (35, .v (B (decide ((i : Int) < ((h.mons).length : Int)))))], [GT.cells h ph]⟩ .nil ?_; clear S; intro ac w β S
          refine RG.done rfl (nx_then ?_)
          refine S.c (decide ((i : Int) < ((h.mons).length : Int))) (fun h22 => ?_) (fun h22 => ?_)
          · have g23 : (i : Int) < ((h.mons).length : Int) := of_decide_eq_true h22
            refine wp_skip (nx_then (wp_seq (wp_block (wp_seq (wp_seq (RG.start ?_))))))
            refine S.q 7 [1, 3, 4, 44] 1 ⟨[(1, .p 0 0), (3, .v (slv 12 q19.1)), (4, .v (I (i : Int))), (44, .v (B (!(f_monOk (el h.mons i)))))], [GT.cells h ph]⟩ (.cons (Q_idx (RHost.mons (d := h) (S.arg hh)) (l := (h.mons).length) (k := i) (i := (i : Int)) rfl rfl (by omega) Tryz.underlying28 (by kernel_rfl)) (.cons (Q_el (RHost.mons (d := h) (S.arg hh)) (t := 56) (k := i) (by omega) rfl (by kernel_rfl) (by kernel_rfl)) (.cons (Q_call fun w hw => c_spec_MonOk w (el h.mons i) (ph.mons.2 i) (rd_of (LRd.el (RHost.mons (d := h) (S.arg hh)) i (by omega)) hw)) .nil))) ?_; clear S; intro ac w β S
            refine RG.done rfl (nx_then ?_)
            refine S.c (!(f_monOk (el h.mons i))) (fun h24 => ?_) (fun h24 => ?_)
            · have h25 : (f_monOk (el h.mons i)) = false := not_t h24
              refine wp_seq (RG.start ?_)
              refine S.q 1 [2] 0 ⟨[(2, .v (B false))], []⟩ .nil ?_; clear S; intro ac w β S
              refine RG.done rfl (nx_then (wp_ret (rt_then (rt_block (rt_then (rt_then (rt_block (rt_then ?_))))))))
              refine S.r [B false] ?_
              exact ⟨retB (by clear S; (first | (symm; rw [← Bool.not_eq_true]; intro hc; simp only [f_hostOk, f_hostHead, Bool.and_eq_true] at hc; (first | (simp_all; done) | (simp_all; omega))) | (rw [hostOk_dead (fold_dead (k := i) (by omega) stepMon_none hu (stepMon_bad (by assumption)))]) | (rw [hostOk_dead (fold_dead (k := i) (by omega) stepMon_none hu ((stepMon_ok hmok).trans (fold_dead (k := k) (by omega) stepSlot_none hu2 (stepSlot_hit (by omega) (by assumption)))))]) | (unfold f_hostOk f_hostUsed f_hostHead; rw [take_all (by omega)] at hu; rw [hu]; simp_all; done))), S.chg⟩
            · have h26 : (f_monOk (el h.mons i)) = true := not_f h24
              have g27 := monOk_t h26
              refine wp_skip (nx_then (wp_seq (RG.start ?_)))
              refine S.q 1 [1, 3, 4, 5] 1 ⟨[(1, .p 0 0), (3, .v (slv 12 q19.1)), (4, .v (I (i : Int))), (5, .v (I 0))], [GT.cells h ph]⟩ .nil ?_; clear S; intro ac w β S
              refine RG.done rfl (nx_then (wp_block ?_))
              replace S := S.p [1, 3, 4, 5] 1 ⟨[(1, .p 0 0), (3, .v (slv 12 q19.1)), (4, .v (I (i : Int))), (5, .v (I 0))], [GT.cells h ph]⟩
              refine wp_loop_down (fun mm ac w => ∃ (k : Nat) (us2 : List Bool) (q28 : GT.Ptr (List Bool)) (F29 : Bl) (u : World) (N : Bl) (β : Nat → Nat), mm = 8 - k ∧ (k ≤ 8) ∧ (((el h.mons i).outer.take k).foldl stepSlot (some us) = some us2) ∧ (us2.length = 12) ∧ St Tryz.prog Tryz.f19.ntmps w0 NoB u N β ⟨[(1, .p 0 0), (3, .v (slv 12 q28.1)), (4, .v (I (i : Int))), (5, .v (I (k : Int)))], [GT.cells h ph]⟩ ac w ∧ Ow w0 NoB u N F29 us2 q28) _ ⟨0, us, q19, F20, _, _, _, rfl, (by first | omega | (simp; done) | (simp; omega)), (by rfl), (by omega), S.cast (by kernel_rfl), o21⟩ ?_
              clear S o21
              rintro mm ac w ⟨k, us2, q28, F29, u, N, β, rfl, hk, hu2, hul2, S, o30⟩
              have hmok : f_monOk (el h.mons i) = true := by assumption
              have hpg := page_lt hmok k
              have hol := (monOk_t hmok).1
              refine wp_seq (wp_seq (RG.start ?_))
              refine S.q 2 [1, 3, 4, 5, 46] 1 ⟨[(1, .p 0 0), (3, .v (slv 12 q28.1)), (4, .v (I (i : Int))), (5, .v (I (k : Int))), (46, .v (B (decide ((k : Int) < 8))))], [GT.cells h ph]⟩ .nil ?_; clear S; intro ac w β S
              refine RG.done rfl (nx_then ?_)
              refine S.c (decide ((k : Int) < 8)) (fun h31 => ?_) (fun h31 => ?_)
              · have g32 : (k : Int) < 8 := of_decide_eq_true h31
                refine wp_skip (nx_then (wp_seq (wp_block (wp_seq (RG.start ?_)))))
                refine S.q 11 [1, 3, 4, 5, 6] 1 ⟨[(1, .p 0 0), (3, .v (slv 12 q28.1)), (4, .v (I (i : Int))), (5, .v (I (k : Int))), (6, .v (I ((el ((el h.mons i).outer) k).page)))], [GT.cells h ph]⟩ (.cons (Q_idx (RHost.mons (d := h) (S.arg hh)) (l := (h.mons).length) (k := i) (i := (i : Int)) rfl rfl (by omega) Tryz.underlying28 (by kernel_rfl)) (.cons (Q_cell (RHost.mons (d := h) (S.arg hh)) (t := 50) (k := i) (j := 0) (v := slv ((el h.mons i).outer).length ((ph.mons.2 i).outer).1) (by omega) (by kernel_rfl) (by kernel_rfl)) (.cons (Q_idx (RMon.outer (d := (el h.mons i)) (LRd.el (RHost.mons (d := h) (S.arg hh)) i (by omega))) (l := ((el h.mons i).outer).length) (k := k) (i := (k : Int)) rfl rfl (by omega) Tryz.underlying50 (by kernel_rfl)) (.cons (Q_cell (RMon.outer (d := (el h.mons i)) (LRd.el (RHost.mons (d := h) (S.arg hh)) i (by omega))) (t := 3) (k := k) (j := 0) (v := I ((el ((el h.mons i).outer) k).page)) (by omega) (by kernel_rfl) (by kernel_rfl)) .nil)))) ?_; clear S; intro ac w β S
                refine RG.done rfl (nx_then (wp_seq (wp_seq (RG.start ?_))))
                refine S.q 3 [1, 3, 4, 5, 6, 61] 1 ⟨[(1, .p 0 0), (3, .v (slv 12 q28.1)), (4, .v (I (i : Int))), (5, .v (I (k : Int))), (6, .v (I ((el ((el h.mons i).outer) k).page))), (61, .v (B (decide ((el ((el h.mons i).outer) k).page ≥ 0))))], [GT.cells h ph]⟩ .nil ?_; clear S; intro ac w β S
                rcases Bool.eq_false_or_eq_true (decide ((el ((el h.mons i).outer) k).page ≥ 0)) with h33 | h33 <;> rw [h33] at S
                · have g34 : (el ((el h.mons i).outer) k).page ≥ 0 := of_decide_eq_true h33
                  refine S.q 5 [1, 3, 4, 5, 6, 66] 1 ⟨[(1, .p 0 0), (3, .v (slv 12 q28.1)), (4, .v (I (i : Int))), (5, .v (I (k : Int))), (6, .v (I ((el ((el h.mons i).outer) k).page))), (66, .v (B (el us2 (((el ((el h.mons i).outer) k).page).toNat))))], [GT.cells h ph]⟩ (.cons (Q_idx o30.rn (l := 12) (k := ((el ((el h.mons i).outer) k).page).toNat) (i := (el ((el h.mons i).outer) k).page) (by omega) (by omega) (by omega) Tryz.underlying51 (by kernel_rfl)) (.cons (Q_el1 o30.rn (t := 4) (k := ((el ((el h.mons i).outer) k).page).toNat) (by omega) rfl (by kernel_rfl)) .nil)) ?_; clear S; intro ac w β S
                  refine RG.done rfl (nx_then ?_)
                  refine S.c (el us2 (((el ((el h.mons i).outer) k).page).toNat)) (fun h35 => ?_) (fun h35 => ?_)
                  · refine wp_seq (RG.start ?_)
                    refine S.q 1 [2] 0 ⟨[(2, .v (B false))], []⟩ .nil ?_; clear S; intro ac w β S
                    refine RG.done rfl (nx_then (wp_ret (rt_then (rt_block (rt_then (rt_then (rt_block (rt_block (rt_then (rt_then (rt_block (rt_then ?_))))))))))))
                    refine S.r [B false] ?_
                    exact ⟨retB (by clear S; (first | (symm; rw [← Bool.not_eq_true]; intro hc; simp only [f_hostOk, f_hostHead, Bool.and_eq_true] at hc; (first | (simp_all; done) | (simp_all; omega))) | (rw [hostOk_dead (fold_dead (k := i) (by omega) stepMon_none hu (stepMon_bad (by assumption)))]) | (rw [hostOk_dead (fold_dead (k := i) (by omega) stepMon_none hu ((stepMon_ok hmok).trans (fold_dead (k := k) (by omega) stepSlot_none hu2 (stepSlot_hit (by omega) (by assumption)))))]) | (unfold f_hostOk f_hostUsed f_hostHead; rw [take_all (by omega)] at hu; rw [hu]; simp_all; done))), S.chg⟩
                  · refine wp_skip (nx_then (wp_seq (RG.start ?_)))
                    refine S.q 2 [1, 3, 4, 5, 6, 68] 1 ⟨[(1, .p 0 0), (3, .v (slv 12 q28.1)), (4, .v (I (i : Int))), (5, .v (I (k : Int))), (6, .v (I ((el ((el h.mons i).outer) k).page))), (68, .v (B (decide ((el ((el h.mons i).outer) k).page ≥ 0))))], [GT.cells h ph]⟩ .nil ?_; clear S; intro ac w β S
                    refine RG.done rfl (nx_then ?_)
                    refine S.c (decide ((el ((el h.mons i).outer) k).page ≥ 0)) (fun h36 => ?_) (fun h36 => ?_)
                    · have g37 : (el ((el h.mons i).outer) k).page ≥ 0 := of_decide_eq_true h36
                      refine RG.start ?_
                      refine S.q 3 [1, 3, 4, 5, 71] 1 ⟨[(1, .p 0 0), (3, .v (slv 12 q28.1)), (4, .v (I (i : Int))), (5, .v (I (k : Int))), (71, .v (pt q28.1.b (q28.1.off + (((el ((el h.mons i).outer) k).page).toNat) * 1)))], [GT.cells h ph]⟩ (.cons (Q_idx o30.rn (l := 12) (k := ((el ((el h.mons i).outer) k).page).toNat) (i := (el ((el h.mons i).outer) k).page) (by omega) (by omega) (by omega) Tryz.underlying51 (by kernel_rfl)) .nil) ?_; clear S; intro ac w β S
                      refine RG.op rfl (S.setEl (α := Bool) o30 (t := 4) (v := B true) (k := ((el ((el h.mons i).outer) k).page).toNat) (j := 0) (off := q28.1.off + (((el ((el h.mons i).outer) k).page).toNat) * 1) (y := true) (q := ()) (Fy := NoB) (by kernel_rfl) (by kernel_rfl) (by omega) (by kernel_rfl) (by kernel_rfl) (Nat.le_of_ble_eq_true (by kernel_rfl)) (by kernel_rfl) (fun _ _ _ => ⟨NoB, trivial, fun _ h => False.elim h⟩) (fun b _ h => False.elim h) (fun b h => False.elim h) (fun b h => False.elim h) ?_)
                      clear S; intro w N F39 q40 S up o38 d41 s42
                      clear up d41 o30
                      have l43 : (us2.set (((el ((el h.mons i).outer) k).page).toNat) true).length = (us2).length := List.length_set
                      replace S := S.p [1, 3, 4, 5] 1 ⟨[(1, .p 0 0), (3, .v (slv 12 q28.1)), (4, .v (I (i : Int))), (5, .v (I (k : Int)))], [GT.cells h ph]⟩
                      refine RG.done rfl (nx_block (nx_then (RG.start ?_)))
                      refine S.q 3 [1, 3, 4, 5] 1 ⟨[(1, .p 0 0), (3, .v (slv 12 q28.1)), (4, .v (I (i : Int))), (5, .v (I ((k : Int) + 1)))], [GT.cells h ph]⟩ (.cons (Q_add (x := (k : Int)) (y := 1) ⟨by omega, by omega⟩) .nil) ?_; clear S; intro ac w β S
                      refine RG.done rfl (nx_then ?_)
                      replace S := S.p [1, 3, 4, 5] 1 ⟨[(1, .p 0 0), (3, .v (slv 12 q28.1)), (4, .v (I (i : Int))), (5, .v (I ((k : Int) + 1)))], [GT.cells h ph]⟩
                      refine ⟨8 - (k + 1), by omega, k + 1, (us2.set (((el ((el h.mons i).outer) k).page).toNat) true), (q28.1, q40), F39, _, _, _, rfl, ?_, ?_, ?_, S.cast (by kernel_rfl), o38⟩
                      · clear S; first | omega | (simp [*]; done) | (simp [*]; omega)
                      · clear S; (rw [fold_step (by omega), hu2]; first | exact stepSlot_neg (by omega) | exact stepSlot_new (by omega) (by assumption) | exact stepSlot_new (by omega) (by simp_all))
                      · clear S; (first | omega | (simp; omega))
                    · have g44 : ¬ ((el ((el h.mons i).outer) k).page ≥ 0) := of_decide_eq_false h36
                      refine wp_skip (nx_block (nx_then (RG.start ?_)))
                      refine S.q 3 [1, 3, 4, 5] 1 ⟨[(1, .p 0 0), (3, .v (slv 12 q28.1)), (4, .v (I (i : Int))), (5, .v (I ((k : Int) + 1)))], [GT.cells h ph]⟩ (.cons (Q_add (x := (k : Int)) (y := 1) ⟨by omega, by omega⟩) .nil) ?_; clear S; intro ac w β S
                      refine RG.done rfl (nx_then ?_)
                      replace S := S.p [1, 3, 4, 5] 1 ⟨[(1, .p 0 0), (3, .v (slv 12 q28.1)), (4, .v (I (i : Int))), (5, .v (I ((k : Int) + 1)))], [GT.cells h ph]⟩
                      refine ⟨8 - (k + 1), by omega, k + 1, us2, q28, F29, _, _, _, rfl, ?_, ?_, ?_, S.cast (by kernel_rfl), o30⟩
                      · clear S; first | omega | (simp [*]; done) | (simp [*]; omega)
                      · clear S; (rw [fold_step (by omega), hu2]; first | exact stepSlot_neg (by omega) | exact stepSlot_new (by omega) (by assumption) | exact stepSlot_new (by omega) (by simp_all))
                      · clear S; (first | omega | (simp; omega))
                · have g45 : ¬ ((el ((el h.mons i).outer) k).page ≥ 0) := of_decide_eq_false h33
                  refine S.q 5 [1, 3, 4, 5, 6, 66] 1 ⟨[(1, .p 0 0), (3, .v (slv 12 q28.1)), (4, .v (I (i : Int))), (5, .v (I (k : Int))), (6, .v (I ((el ((el h.mons i).outer) k).page))), (66, .v (B false))], [GT.cells h ph]⟩ .nil ?_; clear S; intro ac w β S
                  refine RG.done rfl (nx_then ?_)
                  refine S.c false (fun hx => by cases hx) (fun _ => ?_)
                  refine wp_skip (nx_then (wp_seq (RG.start ?_)))
                  refine S.q 2 [1, 3, 4, 5, 6, 68] 1 ⟨[(1, .p 0 0), (3, .v (slv 12 q28.1)), (4, .v (I (i : Int))), (5, .v (I (k : Int))), (6, .v (I ((el ((el h.mons i).outer) k).page))), (68, .v (B (decide ((el ((el h.mons i).outer) k).page ≥ 0))))], [GT.cells h ph]⟩ .nil ?_; clear S; intro ac w β S
                  refine RG.done rfl (nx_then ?_)
                  refine S.c (decide ((el ((el h.mons i).outer) k).page ≥ 0)) (fun h46 => ?_) (fun h46 => ?_)
                  · have g47 : (el ((el h.mons i).outer) k).page ≥ 0 := of_decide_eq_true h46
                    refine RG.start ?_
                    refine S.q 3 [1, 3, 4, 5, 71] 1 ⟨[(1, .p 0 0), (3, .v (slv 12 q28.1)), (4, .v (I (i : Int))), (5, .v (I (k : Int))), (71, .v (pt q28.1.b (q28.1.off + (((el ((el h.mons i).outer) k).page).toNat) * 1)))], [GT.cells h ph]⟩ (.cons (Q_idx o30.rn (l := 12) (k := ((el ((el h.mons i).outer) k).page).toNat) (i := (el ((el h.mons i).outer) k).page) (by omega) (by omega) (by omega) Tryz.underlying51 (by kernel_rfl)) .nil) ?_; clear S; intro ac w β S
                    refine RG.op rfl (S.setEl (α := Bool) o30 (t := 4) (v := B true) (k := ((el ((el h.mons i).outer) k).page).toNat) (j := 0) (off := q28.1.off + (((el ((el h.mons i).outer) k).page).toNat) * 1) (y := true) (q := ()) (Fy := NoB) (by kernel_rfl) (by kernel_rfl) (by omega) (by kernel_rfl) (by kernel_rfl) (Nat.le_of_ble_eq_true (by kernel_rfl)) (by kernel_rfl) (fun _ _ _ => ⟨NoB, trivial, fun _ h => False.elim h⟩) (fun b _ h => False.elim h) (fun b h => False.elim h) (fun b h => False.elim h) ?_)
                    clear S; intro w N F49 q50 S up o48 d51 s52
                    clear up d51 o30
                    have l53 : (us2.set (((el ((el h.mons i).outer) k).page).toNat) true).length = (us2).length := List.length_set
                    replace S := S.p [1, 3, 4, 5] 1 ⟨[(1, .p 0 0), (3, .v (slv 12 q28.1)), (4, .v (I (i : Int))), (5, .v (I (k : Int)))], [GT.cells h ph]⟩
                    refine RG.done rfl (nx_block (nx_then (RG.start ?_)))
                    refine S.q 3 [1, 3, 4, 5] 1 ⟨[(1, .p 0 0), (3, .v (slv 12 q28.1)), (4, .v (I (i : Int))), (5, .v (I ((k : Int) + 1)))], [GT.cells h ph]⟩ (.cons (Q_add (x := (k : Int)) (y := 1) ⟨by omega, by omega⟩) .nil) ?_; clear S; intro ac w β S
                    refine RG.done rfl (nx_then ?_)
                    replace S := S.p [1, 3, 4, 5] 1 ⟨[(1, .p 0 0), (3, .v (slv 12 q28.1)), (4, .v (I (i : Int))), (5, .v (I ((k : Int) + 1)))], [GT.cells h ph]⟩
                    refine ⟨8 - (k + 1), by omega, k + 1, (us2.set (((el ((el h.mons i).outer) k).page).toNat) true), (q28.1, q50), F49, _, _, _, rfl, ?_, ?_, ?_, S.cast (by kernel_rfl), o48⟩
                    · clear S; first | omega | (simp [*]; done) | (simp [*]; omega)
                    · clear S; (rw [fold_step (by omega), hu2]; first | exact stepSlot_neg (by omega) | exact stepSlot_new (by omega) (by assumption) | exact stepSlot_new (by omega) (by simp_all))
                    · clear S; (first | omega | (simp; omega))
                  · have g54 : ¬ ((el ((el h.mons i).outer) k).page ≥ 0) := of_decide_eq_false h46
                    refine wp_skip (nx_block (nx_then (RG.start ?_)))
                    refine S.q 3 [1, 3, 4, 5] 1 ⟨[(1, .p 0 0), (3, .v (slv 12 q28.1)), (4, .v (I (i : Int))), (5, .v (I ((k : Int) + 1)))], [GT.cells h ph]⟩ (.cons (Q_add (x := (k : Int)) (y := 1) ⟨by omega, by omega⟩) .nil) ?_; clear S; intro ac w β S
                    refine RG.done rfl (nx_then ?_)
                    replace S := S.p [1, 3, 4, 5] 1 ⟨[(1, .p 0 0), (3, .v (slv 12 q28.1)), (4, .v (I (i : Int))), (5, .v (I ((k : Int) + 1)))], [GT.cells h ph]⟩
                    refine ⟨8 - (k + 1), by omega, k + 1, us2, q28, F29, _, _, _, rfl, ?_, ?_, ?_, S.cast (by kernel_rfl), o30⟩
                    · clear S; first | omega | (simp [*]; done) | (simp [*]; omega)
                    · clear S; (rw [fold_step (by omega), hu2]; first | exact stepSlot_neg (by omega) | exact stepSlot_new (by omega) (by assumption) | exact stepSlot_new (by omega) (by simp_all))
                    · clear S; (first | omega | (simp; omega))
              · have g55 : ¬ ((k : Int) < 8) := of_decide_eq_false h31
                refine wp_exit (ex_then (ex_then (ex_hit (nx_block (nx_then (RG.start ?_))))))
                refine S.q 3 [1, 3, 4] 1 ⟨[(1, .p 0 0), (3, .v (slv 12 q28.1)), (4, .v (I ((i : Int) + 1)))], [GT.cells h ph]⟩ (.cons (Q_add (x := (i : Int)) (y := 1) ⟨by omega, by omega⟩) .nil) ?_; clear S; intro ac w β S
                refine RG.done rfl (nx_then ?_)
                replace S := S.p [1, 3, 4] 1 ⟨[(1, .p 0 0), (3, .v (slv 12 q28.1)), (4, .v (I ((i : Int) + 1)))], [GT.cells h ph]⟩
                refine ⟨h.mons.length - (i + 1), by omega, i + 1, us2, q28, F29, _, _, _, rfl, ?_, ?_, ?_, S.cast (by kernel_rfl), o30⟩
                · clear S; first | omega | (simp [*]; done) | (simp [*]; omega)
                · clear S; (rw [fold_step (by omega), hu, stepMon_ok (by assumption)]; rw [take_all (by omega)] at hu2; exact hu2)
                · clear S; omega
          · have g56 : ¬ ((i : Int) < ((h.mons).length : Int)) := of_decide_eq_false h22
            refine wp_exit (ex_then (ex_then (ex_hit (nx_then (wp_seq (RG.start ?_))))))
            refine S.q 1 [2] 0 ⟨[(2, .v (B true))], []⟩ .nil ?_; clear S; intro ac w β S
            refine RG.done rfl (nx_then (wp_ret ?_))
            refine S.r [B true] ?_
            exact ⟨retB (by clear S; (first | (symm; rw [← Bool.not_eq_true]; intro hc; simp only [f_hostOk, f_hostHead, Bool.and_eq_true] at hc; (first | (simp_all; done) | (simp_all; omega))) | (rw [hostOk_dead (fold_dead (k := i) (by omega) stepMon_none hu (stepMon_bad (by assumption)))]) | (rw [hostOk_dead (fold_dead (k := i) (by omega) stepMon_none hu ((stepMon_ok hmok).trans (fold_dead (k := k) (by omega) stepSlot_none hu2 (stepSlot_hit (by omega) (by assumption)))))]) | (unfold f_hostOk f_hostUsed f_hostHead; rw [take_all (by omega)] at hu; rw [hu]; simp_all; done))), S.chg⟩

set_option maxRecDepth 100000 in
theorem c_spec_SetTraps (w0 : World) (h : THost) (ph : PHost) (hh : GT.rd KK (Lt w0.heap.size) w0 h ph) (m : Int) (traps : Int) (htraps : In64 traps) : Calls Tryz.prog 6 [GT.val h ph, I m, I traps].toArray w0 (Ret2 NoB w0 ((f_setTraps h m traps).1 : THost) ((f_setTraps h m traps).2 : Bool)) := by
  refine Calls.walk (args := [GT.val h ph, I m, I traps]) NoB Tryz.func6 rfl rfl ?_
  intro ac β S
  have hleh_mem : h.mem.length ≤ 4194304 := LRd.le (RHost.mem (d := h) hh)
  have hleh_mons : h.mons.length ≤ 4194304 := LRd.le (RHost.mons (d := h) hh)
  have hleh_buf : h.buf.length ≤ 4194304 := LRd.le (RHost.buf (d := h) hh)
  have hleh_iobuf : h.iobuf.length ≤ 4194304 := LRd.le (RHost.iobuf (d := h) hh)
  have hlotraps := htraps.lo; have hhitraps := htraps.hi
  refine wp_seq (RG.start ?_)
  refine S.q 3 [1, 2, 3, 6] 2 ⟨[(1, .v (I m)), (2, .v (I traps)), (3, .p 0 0), (6, .p 1 0)], [GT.cells h ph, Zc THost]⟩ .nil ?_; clear S; intro ac w β S
  refine RG.done rfl (nx_then (wp_seq (RG.start ?_)))
  refine S.q 1 [1, 2, 3, 6, 8] 2 ⟨[(1, .v (I m)), (2, .v (I traps)), (3, .p 0 0), (6, .p 1 0), (8, .v (GT.val h ph))], [GT.cells h ph, Zc THost]⟩ .nil ?_; clear S; intro ac w β S
  refine RG.op rfl (S.call1 (r := h) (d := 9) (c_spec_l21Copy w h ph (S.rd (S.arg hh))) (by kernel_rfl) rfl ?_)
  clear S; intro ac w N q1 F2 S up o3 d4
  clear up d4
  obtain ⟨F5, F8, F11, F14, o6, o9, o12, o15, s7, s10, s13, s16, d17, d18, d19, d20, d21, d22⟩ := sp_Host o3
  refine S.q 1 [1, 2, 3, 6] 2 ⟨[(1, .v (I m)), (2, .v (I traps)), (3, .p 0 0), (6, .p 1 0)], [[slv (h.mem).length q1.mem.1, slv (h.mons).length q1.mons.1, slv (h.buf).length q1.buf.1, slv (h.iobuf).length q1.iobuf.1], Zc THost]⟩ .nil ?_; clear S; intro ac w β S
  refine RG.done rfl (nx_then (wp_seq (wp_seq (RG.start ?_))))
  refine S.q 4 [1, 2, 3, 6, 13] 2 ⟨[(1, .v (I m)), (2, .v (I traps)), (3, .p 0 0), (6, .p 1 0), (13, .v (B (!(f_hostOk h))))], [[slv (h.mem).length q1.mem.1, slv (h.mons).length q1.mons.1, slv (h.buf).length q1.buf.1, slv (h.iobuf).length q1.iobuf.1], Zc THost]⟩ (.cons (Q_call fun w hw => c_spec_HostOk w h q1 (rd_of (show GT.rd KK _ _ h q1 from ⟨o6.rn, o9.rn, o12.rn, o15.rn⟩) hw)) .nil) ?_; clear S; intro ac w β S
  rcases Bool.eq_false_or_eq_true (!(f_hostOk h)) with h23 | h23 <;> rw [h23] at S
  · have h24 : (f_hostOk h) = false := not_t h23
    refine S.q 13 [1, 2, 3, 6, 26] 2 ⟨[(1, .v (I m)), (2, .v (I traps)), (3, .p 0 0), (6, .p 1 0), (26, .v (B true))], [[slv (h.mem).length q1.mem.1, slv (h.mons).length q1.mons.1, slv (h.buf).length q1.buf.1, slv (h.iobuf).length q1.iobuf.1], Zc THost]⟩ .nil ?_; clear S; intro ac w β S
    refine RG.done rfl (nx_then ?_)
    refine S.c true (fun _ => ?_) (fun hx => by cases hx)
    refine wp_seq (RG.start ?_)
    refine S.q 3 [6, 7] 2 ⟨[(6, .p 1 0), (7, .v (B false))], [[slv (h.mem).length q1.mem.1, slv (h.mons).length q1.mons.1, slv (h.buf).length q1.buf.1, slv (h.iobuf).length q1.iobuf.1], [slv (h.mem).length q1.mem.1, slv (h.mons).length q1.mons.1, slv (h.buf).length q1.buf.1, slv (h.iobuf).length q1.iobuf.1]]⟩ .nil ?_; clear S; intro ac w β S
    refine RG.done rfl (nx_then (wp_ret (rt_then ?_)))
    refine S.r [GT.val h q1, B false] ?_
    have o25 := ow_Host (x := h) (p := q1) o6 o9 o12 o15 d17 d18 d19 d20 d21 d22 
    exact ret2_of (p' := ()) S (show (f_setTraps h m traps).1 = h by clear S; (unfold f_setTraps; (repeat' split) <;> first | rfl | (exfalso; omega) | (exfalso; simp_all; done) | (exfalso; simp_all; omega))) (show (f_setTraps h m traps).2 = false by clear S; (unfold f_setTraps; (repeat' split) <;> first | rfl | (exfalso; omega) | (exfalso; simp_all; done) | (exfalso; simp_all; omega))) rfl rfl o25 trivial
  · have h26 : (f_hostOk h) = true := not_f h23
    have g27 := hostOk_t h26
    refine S.q 9 [1, 2, 3, 6, 22] 2 ⟨[(1, .v (I m)), (2, .v (I traps)), (3, .p 0 0), (6, .p 1 0), (22, .v (B (!(f_within m 0 (((h.mons).length : Int) - 1)))))], [[slv (h.mem).length q1.mem.1, slv (h.mons).length q1.mons.1, slv (h.buf).length q1.buf.1, slv (h.iobuf).length q1.iobuf.1], Zc THost]⟩ (.cons (Q_sub (x := ((h.mons).length : Int)) (y := 1) ⟨by omega, by omega⟩) (.cons (Q_call fun w hw => c_spec_l01In w m 0 (((h.mons).length : Int) - 1)) .nil)) ?_; clear S; intro ac w β S
    rcases Bool.eq_false_or_eq_true (!(f_within m 0 (((h.mons).length : Int) - 1))) with h28 | h28 <;> rw [h28] at S
    · have h29 : (f_within m 0 (((h.mons).length : Int) - 1)) = false := not_t h28
      have g30 := within_f h29
      refine S.q 4 [1, 2, 3, 6, 26] 2 ⟨[(1, .v (I m)), (2, .v (I traps)), (3, .p 0 0), (6, .p 1 0), (26, .v (B true))], [[slv (h.mem).length q1.mem.1, slv (h.mons).length q1.mons.1, slv (h.buf).length q1.buf.1, slv (h.iobuf).length q1.iobuf.1], Zc THost]⟩ .nil ?_; clear S; intro ac w β S
      refine RG.done rfl (nx_then ?_)
      refine S.c true (fun _ => ?_) (fun hx => by cases hx)
      refine wp_seq (RG.start ?_)
      refine S.q 3 [6, 7] 2 ⟨[(6, .p 1 0), (7, .v (B false))], [[slv (h.mem).length q1.mem.1, slv (h.mons).length q1.mons.1, slv (h.buf).length q1.buf.1, slv (h.iobuf).length q1.iobuf.1], [slv (h.mem).length q1.mem.1, slv (h.mons).length q1.mons.1, slv (h.buf).length q1.buf.1, slv (h.iobuf).length q1.iobuf.1]]⟩ .nil ?_; clear S; intro ac w β S
      refine RG.done rfl (nx_then (wp_ret (rt_then ?_)))
      refine S.r [GT.val h q1, B false] ?_
      have o31 := ow_Host (x := h) (p := q1) o6 o9 o12 o15 d17 d18 d19 d20 d21 d22 
      exact ret2_of (p' := ()) S (show (f_setTraps h m traps).1 = h by clear S; (unfold f_setTraps; (repeat' split) <;> first | rfl | (exfalso; omega) | (exfalso; simp_all; done) | (exfalso; simp_all; omega))) (show (f_setTraps h m traps).2 = false by clear S; (unfold f_setTraps; (repeat' split) <;> first | rfl | (exfalso; omega) | (exfalso; simp_all; done) | (exfalso; simp_all; omega))) rfl rfl o31 trivial
    · have h32 : (f_within m 0 (((h.mons).length : Int) - 1)) = true := not_f h28
      have g33 := within_t h32
      refine S.q 4 [1, 2, 3, 6, 26] 2 ⟨[(1, .v (I m)), (2, .v (I traps)), (3, .p 0 0), (6, .p 1 0), (26, .v (B (!(f_within traps 0 3))))], [[slv (h.mem).length q1.mem.1, slv (h.mons).length q1.mons.1, slv (h.buf).length q1.buf.1, slv (h.iobuf).length q1.iobuf.1], Zc THost]⟩ (.cons (Q_call fun w hw => c_spec_l01In w traps 0 3) .nil) ?_; clear S; intro ac w β S
      refine RG.done rfl (nx_then ?_)
      refine S.c (!(f_within traps 0 3)) (fun h34 => ?_) (fun h34 => ?_)
      · have h35 : (f_within traps 0 3) = false := not_t h34
        have g36 := within_f h35
        refine wp_seq (RG.start ?_)
        refine S.q 3 [6, 7] 2 ⟨[(6, .p 1 0), (7, .v (B false))], [[slv (h.mem).length q1.mem.1, slv (h.mons).length q1.mons.1, slv (h.buf).length q1.buf.1, slv (h.iobuf).length q1.iobuf.1], [slv (h.mem).length q1.mem.1, slv (h.mons).length q1.mons.1, slv (h.buf).length q1.buf.1, slv (h.iobuf).length q1.iobuf.1]]⟩ .nil ?_; clear S; intro ac w β S
        refine RG.done rfl (nx_then (wp_ret (rt_then ?_)))
        refine S.r [GT.val h q1, B false] ?_
        have o37 := ow_Host (x := h) (p := q1) o6 o9 o12 o15 d17 d18 d19 d20 d21 d22 
        exact ret2_of (p' := ()) S (show (f_setTraps h m traps).1 = h by clear S; (unfold f_setTraps; (repeat' split) <;> first | rfl | (exfalso; omega) | (exfalso; simp_all; done) | (exfalso; simp_all; omega))) (show (f_setTraps h m traps).2 = false by clear S; (unfold f_setTraps; (repeat' split) <;> first | rfl | (exfalso; omega) | (exfalso; simp_all; done) | (exfalso; simp_all; omega))) rfl rfl o37 trivial
      · have h38 : (f_within traps 0 3) = true := not_f h34
        have g39 := within_t h38
        refine wp_skip (nx_then (wp_seq (RG.start ?_)))
        refine S.q 6 [3, 6, 31, 33] 2 ⟨[(3, .p 0 0), (6, .p 1 0), (31, .v (I traps)), (33, .v (pt q1.mons.1.b (q1.mons.1.off + ((m).toNat) * 9 + 6)))], [[slv (h.mem).length q1.mem.1, slv (h.mons).length q1.mons.1, slv (h.buf).length q1.buf.1, slv (h.iobuf).length q1.iobuf.1], Zc THost]⟩ (.cons (Q_idx o9.rn (l := (h.mons).length) (k := (m).toNat) (i := m) rfl (by omega) (by omega) Tryz.underlying28 (by kernel_rfl)) .nil) ?_; clear S; intro ac w β S
        refine RG.op rfl (S.setEl (α := TMon) o9 (t := 3) (v := I traps) (k := (m).toNat) (j := 6) (off := q1.mons.1.off + ((m).toNat) * 9 + 6) (y := ({ el h.mons ((m).toNat) with traps := traps } : TMon)) (q := (q1.mons.2 ((m).toNat))) (Fy := NoB) (by kernel_rfl) (by kernel_rfl) (by omega) (by kernel_rfl) (by kernel_rfl) (Nat.le_of_ble_eq_true (by kernel_rfl)) (by kernel_rfl) (fun G g _ => ⟨G, ows_Mon_traps g (htraps), fun _ h => .inl h⟩) (fun b _ h => False.elim h) (fun b h => False.elim h) (fun b h => False.elim h) ?_)
        clear S; intro w N F41 q42 S up o40 d43 s44
        have d45 : Disj F5 F41 := d43 _ d17 (fun b _ h => False.elim h) o6.sub
        have d46 : Disj F11 F41 := d43 _ (Disj.symm d20) (fun b _ h => False.elim h) o12.sub
        have d47 : Disj F14 F41 := d43 _ (Disj.symm d21) (fun b _ h => False.elim h) o15.sub
        replace o6 := o6.upF d17 up
        replace o12 := o12.upF (Disj.symm d20) up
        replace o15 := o15.upF (Disj.symm d21) up
        clear up d43 o9
        have l48 : ((h.mons).set ((m).toNat) ({ el h.mons ((m).toNat) with traps := traps })).length = (h.mons).length := List.length_set
        replace S := S.p [3, 6, 31, 33] 2 ⟨[(3, .p 0 0), (6, .p 1 0), (31, .v (I traps)), (33, .v (pt q1.mons.1.b (q1.mons.1.off + ((m).toNat) * 9 + 6)))], [[slv (h.mem).length q1.mem.1, slv (h.mons).length q1.mons.1, slv (h.buf).length q1.buf.1, slv (h.iobuf).length q1.iobuf.1], Zc THost]⟩
        replace S := S.cast (σ' := ⟨[(3, .p 0 0), (6, .p 1 0), (31, .v (I traps)), (33, .v (pt q1.mons.1.b (q1.mons.1.off + ((m).toNat) * 9 + 6)))], [[slv (h.mem).length q1.mem.1, slv (((h.mons).set ((m).toNat) ({ el h.mons ((m).toNat) with traps := traps }))).length q1.mons.1, slv (h.buf).length q1.buf.1, slv (h.iobuf).length q1.iobuf.1], Zc THost]⟩) (by rw [show (((h.mons).set ((m).toNat) ({ el h.mons ((m).toNat) with traps := traps }))).length = (h.mons).length by omega])
        replace S := S.p [3, 6] 2 ⟨[(3, .p 0 0), (6, .p 1 0)], [[slv (h.mem).length q1.mem.1, slv (((h.mons).set ((m).toNat) ({ el h.mons ((m).toNat) with traps := traps }))).length q1.mons.1, slv (h.buf).length q1.buf.1, slv (h.iobuf).length q1.iobuf.1], Zc THost]⟩
        refine RG.done rfl (nx_then (wp_seq (RG.start ?_)))
        refine S.q 3 [6, 7] 2 ⟨[(6, .p 1 0), (7, .v (B true))], [[slv (h.mem).length q1.mem.1, slv (((h.mons).set ((m).toNat) ({ el h.mons ((m).toNat) with traps := traps }))).length q1.mons.1, slv (h.buf).length q1.buf.1, slv (h.iobuf).length q1.iobuf.1], [slv (h.mem).length q1.mem.1, slv (((h.mons).set ((m).toNat) ({ el h.mons ((m).toNat) with traps := traps }))).length q1.mons.1, slv (h.buf).length q1.buf.1, slv (h.iobuf).length q1.iobuf.1]]⟩ .nil ?_; clear S; intro ac w β S
        refine RG.done rfl (nx_then (wp_ret ?_))
        refine S.r [GT.val (⟨h.mem, ((h.mons).set ((m).toNat) ({ el h.mons ((m).toNat) with traps := traps })), h.buf, h.iobuf⟩ : THost) (⟨q1.mem, (q1.mons.1, q42), q1.buf, q1.iobuf⟩ : PHost), B true] ?_
        have o49 := ow_Host (x := (⟨h.mem, ((h.mons).set ((m).toNat) ({ el h.mons ((m).toNat) with traps := traps })), h.buf, h.iobuf⟩ : THost)) (p := (⟨q1.mem, (q1.mons.1, q42), q1.buf, q1.iobuf⟩ : PHost)) o6 o40 o12 o15 d45 d18 d19 (Disj.symm d46) (Disj.symm d47) d22 
        exact ret2_of (p' := ()) S (show (f_setTraps h m traps).1 = (⟨h.mem, ((h.mons).set ((m).toNat) ({ el h.mons ((m).toNat) with traps := traps })), h.buf, h.iobuf⟩ : THost) by clear S; (unfold f_setTraps; (repeat' split) <;> first | rfl | (exfalso; omega) | (exfalso; simp_all; done) | (exfalso; simp_all; omega))) (show (f_setTraps h m traps).2 = true by clear S; (unfold f_setTraps; (repeat' split) <;> first | rfl | (exfalso; omega) | (exfalso; simp_all; done) | (exfalso; simp_all; omega))) rfl rfl o49 trivial

set_option maxRecDepth 100000 in
theorem c_impl_copyInts (w0 : World) (l : List Int) (pl : LP Int) (hl : GT.rd KK (Lt w0.heap.size) w0 l pl) : Calls Tryz.prog 97 [slv (l).length pl.1].toArray w0 (Ret1 NoB w0 (l : List Int)) := by
  refine Calls.walk (args := [slv (l).length pl.1]) NoB Tryz.func97 rfl rfl ?_
  intro ac β S
  have hlel : l.length ≤ 4194304 := LRd.le hl
  refine wp_seq (RG.start ?_)
  refine S.q 1 [0] 0 ⟨[(0, .v (slv (l).length pl.1))], []⟩ .nil ?_; clear S; intro ac w β S
  refine RG.done rfl (nx_then (wp_seq (RG.start ?_)))
  refine RG.op rfl (S.bs0 (α := Int) (d := 3) (by kernel_rfl) ?_)
  clear S; intro ac w N q1 F2 S up o3 d4
  clear up d4
  refine S.q 1 [3, 4] 0 ⟨[(3, .v (slv 0 q1.1)), (4, .v (slv (l).length pl.1))], []⟩ .nil ?_; clear S; intro ac w β S
  have b9 : (l).length ≤ 4194304 := LRd.le (S.arg hl)
  refine RG.op rfl (S.appFlat (α := Int) o3 ((S.arg hl)) (fun _ _ h => h) (by' := 8) (d := 5) (lx := 0) (ly := (l).length) rfl rfl (by kernel_rfl) (show _ ≤ 4194304 by simp only [List.length_append, List.length_cons, List.length_nil]; omega) ?_)
  clear S; intro ac w N q5 F6 S up o7 d8
  clear up d8
  refine S.q 1 [2] 0 ⟨[(2, .v (slv ((([] : List Int) ++ l)).length q5.1))], []⟩ .nil ?_; clear S; intro ac w β S
  refine RG.done rfl (nx_then (wp_ret ?_))
  refine S.r [slv ((([] : List Int) ++ l)).length q5.1] ?_
  exact ret1_of S (show l = (([] : List Int) ++ l) by clear S; simp) rfl o7

set_option maxRecDepth 100000 in
theorem c_impl_copyMem (w0 : World) (l : List (List Int)) (pl : LP (List Int)) (hl : GT.rd KK (Lt w0.heap.size) w0 l pl) : Calls Tryz.prog 54 [slv (l).length pl.1].toArray w0 (Ret1 NoB w0 (l : List (List Int))) := by
  refine Calls.walk (args := [slv (l).length pl.1]) NoB Tryz.func54 rfl rfl ?_
  intro ac β S
  have hlel : l.length ≤ 4194304 := LRd.le hl
  refine wp_seq (RG.start ?_)
  refine S.q 1 [0] 0 ⟨[(0, .v (slv (l).length pl.1))], []⟩ .nil ?_; clear S; intro ac w β S
  refine RG.done rfl (nx_then (wp_seq (RG.start ?_)))
  refine RG.op rfl (S.bs0 (α := List Int) (d := 6) (by kernel_rfl) ?_)
  clear S; intro ac w N q1 F2 S up o3 d4
  clear up d4
  refine S.q 1 [0, 3] 0 ⟨[(0, .v (slv (l).length pl.1)), (3, .v (slv 0 q1.1))], []⟩ .nil ?_; clear S; intro ac w β S
  refine RG.done rfl (nx_then (wp_seq (wp_seq (RG.start ?_))))
  refine S.q 3 [3, 7, 8, 9] 0 ⟨[(3, .v (slv 0 q1.1)), (7, .v (slv (l).length pl.1)), (8, .v (I ((l).length : Int))), (9, .v (I 0))], []⟩ .nil ?_; clear S; intro ac w β S
  refine RG.done rfl (nx_then (wp_block ?_))
  replace S := S.p [3, 7, 8, 9] 0 ⟨[(3, .v (slv 0 q1.1)), (7, .v (slv (l).length pl.1)), (8, .v (I ((l).length : Int))), (9, .v (I 0))], []⟩
  refine wp_loop_down (fun mm ac w => ∃ (k : Nat) (acc : List (List Int)) (q5 : GT.Ptr (List (List Int))) (F6 : Bl) (u : World) (N : Bl) (β : Nat → Nat), mm = (l).length - k ∧ (k ≤ (l).length) ∧ (acc = (l).take k) ∧ St Tryz.prog Tryz.f54.ntmps w0 NoB u N β ⟨[(3, .v (slv (acc).length q5.1)), (7, .v (slv (l).length pl.1)), (8, .v (I ((l).length : Int))), (9, .v (I (k : Int)))], []⟩ ac w ∧ Ow w0 NoB u N F6 acc q5) _ ⟨0, ([] : List (List Int)), q1, F2, _, _, _, rfl, (by first | omega | (simp; done) | (simp; omega)), (by simp), S.cast (by kernel_rfl), o3⟩ ?_
  clear S o3
  rintro mm ac w ⟨k, acc, q5, F6, u, N, β, rfl, hk, hacc, S, o7⟩
  have hlacc : acc.length = k := by rw [hacc]; simp; omega
  refine wp_seq (RG.start ?_)
  refine S.q 1 [3, 7, 8, 9, 10] 0 ⟨[(3, .v (slv (acc).length q5.1)), (7, .v (slv (l).length pl.1)), (8, .v (I ((l).length : Int))), (9, .v (I (k : Int))), (10, .v (B (decide ((k : Int) < ((l).length : Int)))))], []⟩ .nil ?_; clear S; intro ac w β S
  refine RG.done rfl (nx_then (wp_seq ?_))
  refine S.c (decide ((k : Int) < ((l).length : Int))) (fun h8 => ?_) (fun h8 => ?_)
  · have g9 : (k : Int) < ((l).length : Int) := of_decide_eq_true h8
    refine wp_skip (nx_then (wp_seq (wp_block (wp_seq (RG.start ?_)))))
    refine S.q 3 [3, 5, 7, 8, 9] 0 ⟨[(3, .v (slv (acc).length q5.1)), (5, .v (slv ((el l k)).length (pl.2 k).1)), (7, .v (slv (l).length pl.1)), (8, .v (I ((l).length : Int))), (9, .v (I (k : Int)))], []⟩ (.cons (Q_idx (S.arg hl) (l := (l).length) (k := k) (i := (k : Int)) rfl rfl (by omega) Tryz.underlying22 (by kernel_rfl)) (.cons (Q_el1 (S.arg hl) (t := 53) (k := k) (by omega) rfl (by kernel_rfl)) .nil)) ?_; clear S; intro ac w β S
    refine RG.done rfl (nx_then (RG.start ?_))
    refine S.q 2 [7, 8, 9, 13, 14] 0 ⟨[(7, .v (slv (l).length pl.1)), (8, .v (I ((l).length : Int))), (9, .v (I (k : Int))), (13, .v (slv (acc).length q5.1)), (14, .v (slv ((el l k)).length (pl.2 k).1))], []⟩ .nil ?_; clear S; intro ac w β S
    refine RG.op rfl (S.call1 (r := (el l k)) (d := 15) (c_impl_copyInts w (el l k) (pl.2 k) (S.rd (LRd.el (S.arg hl) k (by omega)))) (by kernel_rfl) rfl ?_)
    clear S; intro ac w N q10 F11 S up o12 d13
    have d14 : Disj F6 F11 := fun b x y => d13 b (o7.sub b x) y
    replace o7 := o7.up up
    clear up d13
    refine RG.op rfl (S.bs1 (α := List Int) (x := (el l k)) (p := q10) o12.own o12.sub o12.young (d := 16) (by kernel_rfl) ?_)
    clear S; intro ac w N q15 F16 S up o17 d18
    have d19 : Disj F6 F16 := d18 _ d14 o7.sub
    replace o7 := o7.up up
    clear up d18
    refine RG.op rfl (S.appOwn (α := List Int) o7 o17 d19 (by' := 24) (d := 17) (lx := (acc).length) (ly := 1) rfl rfl (by kernel_rfl) (show _ ≤ 4194304 by simp only [List.length_append, List.length_cons, List.length_nil]; omega) ?_)
    clear S; intro ac w N q20 F21 S up o22 d23
    clear up d23
    refine S.q 1 [3, 7, 8, 9] 0 ⟨[(3, .v (slv ((acc ++ [(el l k)])).length q20.1)), (7, .v (slv (l).length pl.1)), (8, .v (I ((l).length : Int))), (9, .v (I (k : Int)))], []⟩ .nil ?_; clear S; intro ac w β S
    refine RG.done rfl (nx_block (nx_then (RG.start ?_)))
    refine S.q 2 [3, 7, 8, 9] 0 ⟨[(3, .v (slv ((acc ++ [(el l k)])).length q20.1)), (7, .v (slv (l).length pl.1)), (8, .v (I ((l).length : Int))), (9, .v (I ((k : Int) + 1)))], []⟩ (.cons (Q_add (x := (k : Int)) (y := 1) ⟨by omega, by omega⟩) .nil) ?_; clear S; intro ac w β S
    refine RG.done rfl (nx_then ?_)
    replace S := S.p [3, 7, 8, 9] 0 ⟨[(3, .v (slv ((acc ++ [(el l k)])).length q20.1)), (7, .v (slv (l).length pl.1)), (8, .v (I ((l).length : Int))), (9, .v (I ((k : Int) + 1)))], []⟩
    refine ⟨(l).length - (k + 1), by omega, k + 1, (acc ++ [(el l k)]), q20, F21, _, _, _, rfl, ?_, ?_, S.cast (by kernel_rfl), o22⟩
    · clear S; first | omega | (simp [*]; done) | (simp [*]; omega)
    · clear S; (first | (rw [take_el (by omega), hacc]; done) | (rw [take_el (by omega), hacc]; simp; done))
  · have g24 : ¬ ((k : Int) < ((l).length : Int)) := of_decide_eq_false h8
    refine wp_exit (ex_then (ex_then (ex_hit (nx_then (wp_seq (RG.start ?_))))))
    refine S.q 2 [2] 0 ⟨[(2, .v (slv (acc).length q5.1))], []⟩ .nil ?_; clear S; intro ac w β S
    refine RG.done rfl (nx_then (wp_ret ?_))
    refine S.r [slv (acc).length q5.1] ?_
    exact ret1_of S (show l = acc by clear S; (rw [hacc, take_all (by omega)])) rfl o7

end Go.Proofs.YtacgkoohinlhjaaGreat
