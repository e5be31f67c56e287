/- The walks: what each function that the laws reach computes (part 3). -/
import Derived.Test.YtkbcponpcghjpaaGreatW2
import Derived.Test.YtkbcponpcghjpaaGreatProg
import Derived.KernelRfl
namespace Go.Proofs.YtkbcponpcghjpaaGreat
open Go
set_option linter.unusedVariables false
set_option linter.unusedSimpArgs false

set_option maxRecDepth 100000 in
theorem c_impl_copyMon (w0 : World) (m : TMon) (pm : PMon) (hm : GT.rd KK (Lt w0.heap.size) w0 m pm) : Calls Tryz.prog 139 [GT.val m pm].toArray w0 (Ret1 NoB w0 (m : TMon)) := by
 refine Calls.walk (args := [GT.val m pm]) NoB Tryz.func139 rfl rfl ?_
 intro ac β S
 have hlem_outer : m.outer.length ≤ 4194304 := LRd.le (RMon.outer (d := m) hm)
 have hlem_out : m.out.length ≤ 4194304 := LRd.le (RMon.out (d := m) hm)
 have hlem_dirty : m.dirty.length ≤ 4194304 := LRd.le (RMon.dirty (d := m) hm)
 have hlem_guests : m.guests.length ≤ 4194304 := LRd.le (RMon.guests (d := m) hm)
 have hlem_outs : m.outs.length ≤ 4194304 := LRd.le (RMon.outs (d := m) hm)
 have hlem_tables : m.tables.length ≤ 4194304 := LRd.le (RMon.tables (d := m) hm)
 refine ws (rg ?_)
 refine S.qem 2 [] [(1, .p 0 0), (2, .p 1 0)] 2 [(0, GT.cells m pm), (1, Zc TMon)] ?_; clear S; intro ac w β S
 refine (nt (ws (rg ?_)))
 refine S.qa 2 [] [(7, .v (slv (m.outer).length pm.outer.1))] ?_; clear S; intro ac w β S
 refine RG.op rfl (S.call1 (r := m.outer) (d := 8) (c_impl_copyTable w m.outer pm.outer (S.rd (RMon.outer (d := m) (S.arg hm)))) (by kernel_rfl) rfl ?_)
 clear S; intro ac w N q1 F2 S up o3 d4
 clear up d4
 refine S.qem 2 [] [] 2 [(0, [slv (m.outer).length q1.1, slv (m.out).length pm.out.1, slv (m.dirty).length pm.dirty.1, slv (m.guests).length pm.guests.1, slv (m.outs).length pm.outs.1, I m.pend, I m.traps, slv (m.tables).length pm.tables.1, I m.owned])] ?_; clear S; intro ac w β S
 refine (nt (ws (rg ?_)))
 refine S.qa 2 [] [(11, .v (slv (m.out).length pm.out.1))] ?_; clear S; intro ac w β S
 refine RG.op rfl (S.call1 (r := m.out) (d := 12) (c_impl_copyMem w m.out pm.out (S.rd (RMon.out (d := m) (S.arg hm)))) (by kernel_rfl) rfl ?_)
 clear S; intro ac w N q5 F6 S up o7 d8
 have d9 : Disj F2 F6 := fun b x y => d8 b (o3.sub b x) y
 replace o3 := o3.up up
 clear up d8
 refine S.qem 2 [] [] 2 [(0, [slv (m.outer).length q1.1, slv (m.out).length q5.1, slv (m.dirty).length pm.dirty.1, slv (m.guests).length pm.guests.1, slv (m.outs).length pm.outs.1, I m.pend, I m.traps, slv (m.tables).length pm.tables.1, I m.owned])] ?_; clear S; intro ac w β S
 refine (nt (ws (rg ?_)))
 refine RG.op rfl (S.bs0 (α := Bool) (d := 14) (by kernel_rfl) ?_)
 clear S; intro ac w N q10 F11 S up o12 d13
 have d14 : Disj F2 F11 := fun b x y => d13 b (o3.sub b x) y
 have d15 : Disj F6 F11 := fun b x y => d13 b (o7.sub b x) y
 replace o3 := o3.up up
 replace o7 := o7.up up
 clear up d13
 refine S.qa 2 [] [(14, .v (slv 0 q10.1)), (16, .v (slv (m.dirty).length pm.dirty.1))] ?_; clear S; intro ac w β S
 have b20 : (m.dirty).length ≤ 4194304 := LRd.le (RMon.dirty (d := m) (S.arg hm))
 refine RG.op rfl (S.appFlat (α := Bool) o12 ((RMon.dirty (d := m) (S.arg hm))) (fun _ _ h => h) (by' := 1) (d := 17) (lx := 0) (ly := (m.dirty).length) rfl rfl (by kernel_rfl) (show _ ≤ 4194304 by simp only [List.length_append, List.length_cons, List.length_nil]; omega) ?_)
 clear S; intro ac w N q16 F17 S up o18 d19
 have d21 : Disj F2 F17 := d19 _ d14 o3.sub
 have d22 : Disj F6 F17 := d19 _ d15 o7.sub
 replace o3 := o3.upF d14 up
 replace o7 := o7.upF d15 up
 clear up d19
 refine S.qem 2 [] [] 2 [(0, [slv (m.outer).length q1.1, slv (m.out).length q5.1, slv ((([] : List Bool) ++ m.dirty)).length q16.1, slv (m.guests).length pm.guests.1, slv (m.outs).length pm.outs.1, I m.pend, I m.traps, slv (m.tables).length pm.tables.1, I m.owned])] ?_; clear S; intro ac w β S
 refine (nt (ws (rg ?_)))
 refine S.qa 2 [] [(20, .v (slv (m.guests).length pm.guests.1))] ?_; clear S; intro ac w β S
 refine RG.op rfl (S.call1 (r := m.guests) (d := 21) (c_impl_copyGuests w m.guests pm.guests (S.rd (RMon.guests (d := m) (S.arg hm)))) (by kernel_rfl) rfl ?_)
 clear S; intro ac w N q23 F24 S up o25 d26
 have d27 : Disj F2 F24 := fun b x y => d26 b (o3.sub b x) y
 have d28 : Disj F6 F24 := fun b x y => d26 b (o7.sub b x) y
 have d29 : Disj F17 F24 := fun b x y => d26 b (o18.sub b x) y
 replace o3 := o3.up up
 replace o7 := o7.up up
 replace o18 := o18.up up
 clear up d26
 refine S.qem 2 [] [] 2 [(0, [slv (m.outer).length q1.1, slv (m.out).length q5.1, slv ((([] : List Bool) ++ m.dirty)).length q16.1, slv (m.guests).length q23.1, slv (m.outs).length pm.outs.1, I m.pend, I m.traps, slv (m.tables).length pm.tables.1, I m.owned])] ?_; clear S; intro ac w β S
 refine (nt (ws (rg ?_)))
 refine S.qa 2 [] [(24, .v (slv (m.outs).length pm.outs.1))] ?_; clear S; intro ac w β S
 refine RG.op rfl (S.call1 (r := m.outs) (d := 25) (c_impl_copyInts w m.outs pm.outs (S.rd (RMon.outs (d := m) (S.arg hm)))) (by kernel_rfl) rfl ?_)
 clear S; intro ac w N q30 F31 S up o32 d33
 have d34 : Disj F2 F31 := fun b x y => d33 b (o3.sub b x) y
 have d35 : Disj F6 F31 := fun b x y => d33 b (o7.sub b x) y
 have d36 : Disj F17 F31 := fun b x y => d33 b (o18.sub b x) y
 have d37 : Disj F24 F31 := fun b x y => d33 b (o25.sub b x) y
 replace o3 := o3.up up
 replace o7 := o7.up up
 replace o18 := o18.up up
 replace o25 := o25.up up
 clear up d33
 refine S.qem 2 [] [] 2 [(0, [slv (m.outer).length q1.1, slv (m.out).length q5.1, slv ((([] : List Bool) ++ m.dirty)).length q16.1, slv (m.guests).length q23.1, slv (m.outs).length q30.1, I m.pend, I m.traps, slv (m.tables).length pm.tables.1, I m.owned])] ?_; clear S; intro ac w β S
 refine (nt (ws (rg ?_)))
 refine RG.op rfl (S.bs0 (α := TKept) (d := 27) (by kernel_rfl) ?_)
 clear S; intro ac w N q38 F39 S up o40 d41
 have d42 : Disj F2 F39 := fun b x y => d41 b (o3.sub b x) y
 have d43 : Disj F6 F39 := fun b x y => d41 b (o7.sub b x) y
 have d44 : Disj F17 F39 := fun b x y => d41 b (o18.sub b x) y
 have d45 : Disj F24 F39 := fun b x y => d41 b (o25.sub b x) y
 have d46 : Disj F31 F39 := fun b x y => d41 b (o32.sub b x) y
 replace o3 := o3.up up
 replace o7 := o7.up up
 replace o18 := o18.up up
 replace o25 := o25.up up
 replace o32 := o32.up up
 clear up d41
 refine S.qe 1 [] [(3, .v (slv 0 q38.1))] ?_; clear S; intro ac w β S
 refine (nt (ws (ws (rg ?_))))
 refine S.qe 4 [] [(29, .v (slv (m.tables).length pm.tables.1)), (30, .v (I ((m.tables).length : Int))), (31, .v (I 0))] ?_; clear S; intro ac w β S
 refine (nt (wp_block ?_))
 refine wp_loop_down (fun mm ac w => ∃ (k : Nat) (acc : List TKept) (q47 : GT.Ptr (List TKept)) (F48 : Bl) (u : World) (N : Bl) (β : Nat → Nat), mm = (m.tables).length - k ∧ (k ≤ (m.tables).length) ∧ (acc = (m.tables).take k) ∧ St Tryz.prog Tryz.f139.ntmps w0 NoB u N β ⟨[(1, .p 0 0), (2, .p 1 0), (3, .v (slv (acc).length q47.1)), (29, .v (slv (m.tables).length pm.tables.1)), (30, .v (I ((m.tables).length : Int))), (31, .v (I (k : Int)))], [[slv (m.outer).length q1.1, slv (m.out).length q5.1, slv ((([] : List Bool) ++ m.dirty)).length q16.1, slv (m.guests).length q23.1, slv (m.outs).length q30.1, I m.pend, I m.traps, slv (m.tables).length pm.tables.1, I m.owned], Zc TMon]⟩ ac w ∧ Ow w0 NoB u N F48 acc q47 ∧ Ow w0 NoB u N F2 m.outer q1 ∧ Ow w0 NoB u N F6 m.out q5 ∧ Ow w0 NoB u N F17 (([] : List Bool) ++ m.dirty) q16 ∧ Ow w0 NoB u N F24 m.guests q23 ∧ Ow w0 NoB u N F31 m.outs q30 ∧ Disj F48 F2 ∧ Disj F48 F6 ∧ Disj F48 F17 ∧ Disj F48 F24 ∧ Disj F48 F31) _ ⟨0, ([] : List TKept), q38, F39, _, _, _, rfl, (by first | omega | (simp; done) | (simp; omega)), (by simp), S.z, o40, o3, o7, o18, o25, o32, (Disj.symm d42), (Disj.symm d43), (Disj.symm d44), (Disj.symm d45), (Disj.symm d46)⟩ ?_
 clear S o18 o25 o3 o32 o40 o7
 rintro mm ac w ⟨k, acc, q47, F48, u, N, β, rfl, hk, hacc, S, o49, o3, o7, o18, o25, o32, d50, d51, d52, d53, d54⟩
 have hlacc : acc.length = k := by rw [hacc]; simp; omega
 refine ws (rg ?_)
 refine S.qe 1 [] [(32, .v (B (decide ((k : Int) < ((m.tables).length : Int)))))] ?_; clear S; intro ac w β S
 refine (nt (ws (S.c (decide ((k : Int) < ((m.tables).length : Int))) (fun h55 => ?_) (fun h55 => ?_))))
 ·have g56 := of_decide_eq_true h55
  refine wk (nt (ws (wp_block (ws (rg ?_)))))
  refine S.qgm 4 [] [(5, .p 2 0)] (.cons (Q_idx (RMon.tables (d := m) (S.arg hm)) (l := (m.tables).length) (k := k) (i := (k : Int)) rfl rfl (by omega) Tryz.underlying63 (by kernel_rfl)) (.cons (Q_el (RMon.tables (d := m) (S.arg hm)) (t := 135) (k := k) (by omega) rfl (by kernel_rfl) (by kernel_rfl)) .nil)) 3 [(2, GT.cells (el m.tables k) (pm.tables.2 k))] ?_; clear S; intro ac w β S
  refine (nt (rg ?_))
  refine S.qam 2 [] [(35, .v (slv (acc).length q47.1)), (36, .v (GT.val (el m.tables k) (pm.tables.2 k)))] 2 [] ?_; clear S; intro ac w β S
  refine RG.op rfl (S.call1 (r := (el m.tables k)) (d := 37) (c_impl_copyKept w (el m.tables k) (pm.tables.2 k) (S.rd (LRd.el (RMon.tables (d := m) (S.arg hm)) k (by omega)))) (by kernel_rfl) rfl ?_)
  clear S; intro ac w N q57 F58 S up o59 d60
  have d61 : Disj F48 F58 := fun b x y => d60 b (o49.sub b x) y
  have d62 : Disj F2 F58 := fun b x y => d60 b (o3.sub b x) y
  have d63 : Disj F6 F58 := fun b x y => d60 b (o7.sub b x) y
  have d64 : Disj F17 F58 := fun b x y => d60 b (o18.sub b x) y
  have d65 : Disj F24 F58 := fun b x y => d60 b (o25.sub b x) y
  have d66 : Disj F31 F58 := fun b x y => d60 b (o32.sub b x) y
  replace o49 := o49.up up
  replace o3 := o3.up up
  replace o7 := o7.up up
  replace o18 := o18.up up
  replace o25 := o25.up up
  replace o32 := o32.up up
  clear up d60
  obtain ⟨F67, F70, o68, o71, s69, s72, d73⟩ := sp_Kept o59
  have o78 := ow_Kept (x := (el m.tables k)) (p := q57) o68 o71 d73 
  refine RG.op rfl (S.bs1 (α := TKept) (x := (el m.tables k)) (p := q57) o78.own o78.sub o78.young (d := 38) (by kernel_rfl) ?_)
  clear S; intro ac w N q74 F75 S up o76 d77
  have d79 : Disj F48 F75 := d77 _ (Disj.symm (Disj.or (Disj.part (Disj.symm d61) s69) (Disj.or (Disj.part (Disj.symm d61) s72) Disj.nob))) o49.sub
  have d80 : Disj F2 F75 := d77 _ (Disj.symm (Disj.or (Disj.part (Disj.symm d62) s69) (Disj.or (Disj.part (Disj.symm d62) s72) Disj.nob))) o3.sub
  have d81 : Disj F6 F75 := d77 _ (Disj.symm (Disj.or (Disj.part (Disj.symm d63) s69) (Disj.or (Disj.part (Disj.symm d63) s72) Disj.nob))) o7.sub
  have d82 : Disj F17 F75 := d77 _ (Disj.symm (Disj.or (Disj.part (Disj.symm d64) s69) (Disj.or (Disj.part (Disj.symm d64) s72) Disj.nob))) o18.sub
  have d83 : Disj F24 F75 := d77 _ (Disj.symm (Disj.or (Disj.part (Disj.symm d65) s69) (Disj.or (Disj.part (Disj.symm d65) s72) Disj.nob))) o25.sub
  have d84 : Disj F31 F75 := d77 _ (Disj.symm (Disj.or (Disj.part (Disj.symm d66) s69) (Disj.or (Disj.part (Disj.symm d66) s72) Disj.nob))) o32.sub
  replace o49 := o49.up up
  replace o3 := o3.up up
  replace o7 := o7.up up
  replace o18 := o18.up up
  replace o25 := o25.up up
  replace o32 := o32.up up
  clear up d77
  refine RG.op rfl (S.appOwn (α := TKept) o49 o76 d79 (by' := 48) (d := 39) (lx := (acc).length) (ly := 1) rfl rfl (by kernel_rfl) (show _ ≤ 4194304 by simp only [List.length_append, List.length_cons, List.length_nil]; omega) ?_)
  clear S; intro ac w N q85 F86 S up o87 d88
  have d89 : Disj F2 F86 := d88 _ (Disj.symm d50) d80 o3.sub
  have d90 : Disj F6 F86 := d88 _ (Disj.symm d51) d81 o7.sub
  have d91 : Disj F17 F86 := d88 _ (Disj.symm d52) d82 o18.sub
  have d92 : Disj F24 F86 := d88 _ (Disj.symm d53) d83 o25.sub
  have d93 : Disj F31 F86 := d88 _ (Disj.symm d54) d84 o32.sub
  replace o3 := o3.upF (Disj.symm d50) up
  replace o7 := o7.upF (Disj.symm d51) up
  replace o18 := o18.upF (Disj.symm d52) up
  replace o25 := o25.upF (Disj.symm d53) up
  replace o32 := o32.upF (Disj.symm d54) up
  clear up d88
  refine S.qe 1 [] [(3, .v (slv ((acc ++ [(el m.tables k)])).length q85.1))] ?_; clear S; intro ac w β S
  refine (nb (nt (rg ?_)))
  refine S.qg 2 [] [(31, .v (I ((k : Int) + 1)))] (.cons (Q_add (x := (k : Int)) (y := 1) ⟨by omega, by omega⟩) .nil) ?_; clear S; intro ac w β S
  refine (nt ?_)
  refine ⟨(m.tables).length - (k + 1), by omega, k + 1, (acc ++ [(el m.tables k)]), q85, F86, _, _, _, rfl, ?_, ?_, S.z, o87, o3, o7, o18, o25, o32, (Disj.symm d89), (Disj.symm d90), (Disj.symm d91), (Disj.symm d92), (Disj.symm d93)⟩
  ·clear S; first | omega | (simp [*]; done) | (simp [*]; omega)
  ·clear S; (first | (rw [take_el (by omega), hacc]; done) | (rw [take_el (by omega), hacc]; simp; done))
 ·have g94 := of_decide_eq_false h55
  refine wp_exit (ex_then (ex_then (ex_hit (nt (ws (rg ?_))))))
  refine S.qem 3 [] [] 2 [(0, [slv (m.outer).length q1.1, slv (m.out).length q5.1, slv ((([] : List Bool) ++ m.dirty)).length q16.1, slv (m.guests).length q23.1, slv (m.outs).length q30.1, I m.pend, I m.traps, slv (acc).length q47.1, I m.owned])] ?_; clear S; intro ac w β S
  refine (nt (ws (rg ?_)))
  refine S.qem 2 [] [] 2 [(1, [slv (m.outer).length q1.1, slv (m.out).length q5.1, slv ((([] : List Bool) ++ m.dirty)).length q16.1, slv (m.guests).length q23.1, slv (m.outs).length q30.1, I m.pend, I m.traps, slv (acc).length q47.1, I m.owned])] ?_; clear S; intro ac w β S
  refine (nt (wr (S.r [GT.val (⟨m.outer, m.out, (([] : List Bool) ++ m.dirty), m.guests, m.outs, m.pend, m.traps, acc, m.owned⟩ : TMon) (⟨q1, q5, q16, q23, q30, q47⟩ : PMon)] ?_)))
  have o95 := ow_Mon (x := (⟨m.outer, m.out, (([] : List Bool) ++ m.dirty), m.guests, m.outs, m.pend, m.traps, acc, m.owned⟩ : TMon)) (p := (⟨q1, q5, q16, q23, q30, q47⟩ : PMon)) o3 o7 o18 o25 o32 o49 d9 d21 d27 d34 (Disj.symm d50) d22 d28 d35 (Disj.symm d51) d29 d36 (Disj.symm d52) d37 (Disj.symm d53) (Disj.symm d54) (RMon.pend (d := m) (S.arg hm)) (RMon.traps (d := m) (S.arg hm)) (RMon.owned (d := m) (S.arg hm))
  exact ret1_of S (show m = (⟨m.outer, m.out, (([] : List Bool) ++ m.dirty), m.guests, m.outs, m.pend, m.traps, acc, m.owned⟩ : TMon) by clear S; (first | rfl | (rw [hacc, take_all (by omega)]; simp; done) | simp)) rfl o95

set_option maxRecDepth 100000 in
theorem c_impl_copyHost (w0 : World) (h : THost) (ph : PHost) (hh : GT.rd KK (Lt w0.heap.size) w0 h ph) : Calls Tryz.prog 80 [GT.val h ph].toArray w0 (Ret1 NoB w0 (h : THost)) := by
 refine Calls.walk (args := [GT.val h ph]) NoB Tryz.func80 rfl rfl ?_
 intro ac β S
 have hleh_mem : h.mem.length ≤ 4194304 := LRd.le (RHost.mem (d := h) hh)
 have hleh_mons : h.mons.length ≤ 4194304 := LRd.le (RHost.mons (d := h) hh)
 have hleh_buf : h.buf.length ≤ 4194304 := LRd.le (RHost.buf (d := h) hh)
 have hleh_iobuf : h.iobuf.length ≤ 4194304 := LRd.le (RHost.iobuf (d := h) hh)
 refine ws (rg ?_)
 refine S.qem 2 [] [(1, .p 0 0), (2, .p 1 0)] 2 [(0, GT.cells h ph), (1, Zc THost)] ?_; clear S; intro ac w β S
 refine (nt (ws ?_))
 let σ1 : Sy := ⟨[(1, .p 0 0), (2, .p 1 0)], [GT.cells h ph, Zc THost]⟩
 obtain ⟨u0, N0, β0, S⟩ : ∃ u0 N0 β0, St Tryz.prog Tryz.f80.ntmps w0 NoB u0 N0 β0 σ1 ac w := ⟨_, _, _, S.z⟩
 refine wp_region_cut (fun ac w => ∃ q234 F235 q237 F238 q231 F232 u N β, St Tryz.prog Tryz.f80.ntmps w0 NoB u N β (σ1.dl [] [(3, .p 2 0)] 3 [(2, [slv (h.mem).length q231.1, slv (([] : List TMon)).length (GT.pdflt (α := List TMon)).1, slv ((([] : List TEntry) ++ h.buf)).length q234.1, slv ((([] : List TEntry) ++ h.iobuf)).length q237.1])]) ac w ∧ Ow w0 NoB u N F235 (([] : List TEntry) ++ h.buf) q234 ∧ Ow w0 NoB u N F238 (([] : List TEntry) ++ h.iobuf) q237 ∧ Ow w0 NoB u N F232 h.mem q231 ∧ Disj F235 F238 ∧ Disj F235 F232 ∧ Disj F238 F232) ?_ ?_
 ·refine S.draw0 (f := 14) 13 rfl rfl ?_
  clear S; intro w S
  refine S.hq 0 [0] [] [(6, .p 0 0)] .nil ?_
  clear S; intro ac S
  refine S.hq 1 [1] [] [(7, .v (slv (h.mem).length ph.mem.1))] .nil ?_
  clear S; intro ac S
  refine S.hq 4 [4] [] [(10, .p 0 2)] .nil ?_
  clear S; intro ac S
  refine S.hq 5 [5] [] [(11, .v (slv (h.buf).length ph.buf.1))] .nil ?_
  clear S; intro ac S
  refine S.hq 8 [8] [] [(14, .p 0 3)] .nil ?_
  clear S; intro ac S
  refine S.hq 9 [9] [] [(15, .v (slv (h.iobuf).length ph.iobuf.1))] .nil ?_
  clear S; intro ac S
  refine WD.nameW fun W hW => ?_
  refine WD.castW (l' := mkL 14 [0, 1, 4, 5, 8, 9]) (by kernel_rfl) ?_
  have hK239 ac w q234 F235 q237 F238 q231 F232 u N β (S : St Tryz.prog Tryz.f80.ntmps w0 NoB u N β (σ1.dl [] [(3, .p 2 0)] 3 [(2, [slv (h.mem).length q231.1, slv (([] : List TMon)).length (GT.pdflt (α := List TMon)).1, slv ((([] : List TEntry) ++ h.buf)).length q234.1, slv ((([] : List TEntry) ++ h.iobuf)).length q237.1])]) ac w) (o233 : Ow w0 NoB u N F235 (([] : List TEntry) ++ h.buf) q234) (o236 : Ow w0 NoB u N F238 (([] : List TEntry) ++ h.iobuf) q237) (o230 : Ow w0 NoB u N F232 h.mem q231) (d240 : Disj F235 F238) (d241 : Disj F235 F232) (d242 : Disj F238 F232) : W 0 (mkL 14 [0, 1, 2, 3, 4, 5, 6, 7, 8, 9, 10, 11, 12, 13]) ac w := by
   exact od hW ⟨rfl, q234, F235, q237, F238, q231, F232, _, _, _, S.z, o233, o236, o230, d240, d241, d242⟩
  have hK243 ac w q217 F218 q220 F221 q214 F215 u N β (S : St Tryz.prog Tryz.f80.ntmps w0 NoB u N β (σ1.dl [] [(3, .p 2 0), (17, .v (GT.val (⟨h.mem, ([] : List TMon), (([] : List TEntry) ++ h.buf), (([] : List TEntry) ++ h.iobuf)⟩ : THost) (⟨q214, (GT.pdflt (α := List TMon)), q217, q220⟩ : PHost)))] 3 [(2, Zc THost)]) ac w) (o216 : Ow w0 NoB u N F218 (([] : List TEntry) ++ h.buf) q217) (o219 : Ow w0 NoB u N F221 (([] : List TEntry) ++ h.iobuf) q220) (o213 : Ow w0 NoB u N F215 h.mem q214) (d244 : Disj F218 F221) (d245 : Disj F218 F215) (d246 : Disj F221 F215) (hNN : NN N0 u0 N u) (hBB : BB σ1.bx.length β0 β) : W 1 (mkL 14 [0, 1, 2, 3, 4, 5, 6, 7, 8, 9, 10, 11, 12]) ac w := by
   exact o1 hW 13 (S.wl hW [] .nil fun _ _ _ S => hK239 _ _ q217 F218 q220 F221 q214 F215 _ _ _ S o216 o219 o213 d244 d245 d246)
  have hK247 ac w q217 F218 q220 F221 q214 F215 u N β (S : St Tryz.prog Tryz.f80.ntmps w0 NoB u N β (σ1.dl [] [(17, .v (GT.val (⟨h.mem, ([] : List TMon), (([] : List TEntry) ++ h.buf), (([] : List TEntry) ++ h.iobuf)⟩ : THost) (⟨q214, (GT.pdflt (α := List TMon)), q217, q220⟩ : PHost)))] 2 []) ac w) (o216 : Ow w0 NoB u N F218 (([] : List TEntry) ++ h.buf) q217) (o219 : Ow w0 NoB u N F221 (([] : List TEntry) ++ h.iobuf) q220) (o213 : Ow w0 NoB u N F215 h.mem q214) (d248 : Disj F218 F221) (d249 : Disj F218 F215) (d250 : Disj F221 F215) (hNN : NN N0 u0 N u) (hBB : BB σ1.bx.length β0 β) : W 2 (mkL 14 [0, 1, 2, 3, 4, 5, 6, 7, 8, 9, 10, 11]) ac w := by
   exact o1 hW 12 (S.wq hW hNN hBB [] .nil fun _ _ _ S hB => hK243 _ _ q217 F218 q220 F221 q214 F215 _ _ _ S o216 o219 o213 d248 d249 d250 hNN hB)
  have hK251 ac w q85 F86 q196 F197 q8 F9 u N β (S : St Tryz.prog Tryz.f80.ntmps w0 NoB u N β (σ1.dl [] [(3, .p 2 0), (8, .v (slv (h.mem).length q8.1)), (12, .v (slv ((([] : List TEntry) ++ h.buf)).length q85.1)), (16, .v (slv ((([] : List TEntry) ++ h.iobuf)).length q196.1))] 3 [(2, Zc THost)]) ac w) (o84 : Ow w0 NoB u N F86 (([] : List TEntry) ++ h.buf) q85) (o195 : Ow w0 NoB u N F197 (([] : List TEntry) ++ h.iobuf) q196) (o7 : Ow w0 NoB u N F9 h.mem q8) (d252 : Disj F86 F197) (d253 : Disj F86 F9) (d254 : Disj F197 F9) (hNN : NN N0 u0 N u) (hBB : BB σ1.bx.length β0 β) : W 2 (mkL 14 [0, 1, 2, 3, 4, 5, 6, 7, 8, 9, 10, 12]) ac w := by
   exact o1 hW 11 (S.wq hW hNN hBB [] (.cons (Q_sem (s := Instr.build 33 [(0, slv (h.mem).length q8.1), (2, slv ((([] : List TEntry) ++ h.buf)).length q85.1), (3, slv ((([] : List TEntry) ++ h.iobuf)).length q196.1)].toArray) (v := .agg [slv (h.mem).length q8.1, slv (([] : List TMon)).length (GT.pdflt (α := List TMon)).1, slv ((([] : List TEntry) ++ h.buf)).length q85.1, slv ((([] : List TEntry) ++ h.iobuf)).length q196.1].toArray) (fun w => by kernel_rfl)) .nil) fun _ _ _ S hB => hK243 _ _ q85 F86 q196 F197 q8 F9 _ _ _ S o84 o195 o7 d252 d253 d254 hNN hB)
  have hK255 ac w q85 F86 q196 F197 q8 F9 u N β (S : St Tryz.prog Tryz.f80.ntmps w0 NoB u N β (σ1.dl [] [(8, .v (slv (h.mem).length q8.1)), (12, .v (slv ((([] : List TEntry) ++ h.buf)).length q85.1)), (16, .v (slv ((([] : List TEntry) ++ h.iobuf)).length q196.1))] 2 []) ac w) (o84 : Ow w0 NoB u N F86 (([] : List TEntry) ++ h.buf) q85) (o195 : Ow w0 NoB u N F197 (([] : List TEntry) ++ h.iobuf) q196) (o7 : Ow w0 NoB u N F9 h.mem q8) (d256 : Disj F86 F197) (d257 : Disj F86 F9) (d258 : Disj F197 F9) (hNN : NN N0 u0 N u) (hBB : BB σ1.bx.length β0 β) : W 3 (mkL 14 [0, 1, 2, 3, 4, 5, 6, 7, 8, 9, 10]) ac w := by
   exact o2 hW 11 12 (S.wq hW hNN hBB [] (.cons (Q_sem (s := Instr.build 33 [(0, slv (h.mem).length q8.1), (2, slv ((([] : List TEntry) ++ h.buf)).length q85.1), (3, slv ((([] : List TEntry) ++ h.iobuf)).length q196.1)].toArray) (v := .agg [slv (h.mem).length q8.1, slv (([] : List TMon)).length (GT.pdflt (α := List TMon)).1, slv ((([] : List TEntry) ++ h.buf)).length q85.1, slv ((([] : List TEntry) ++ h.iobuf)).length q196.1].toArray) (fun w => by kernel_rfl)) .nil) fun _ _ _ S hB => hK247 _ _ q85 F86 q196 F197 q8 F9 _ _ _ S o84 o195 o7 d256 d257 d258 hNN hB) (S.wq hW hNN hBB [] .nil fun _ _ _ S hB => hK251 _ _ q85 F86 q196 F197 q8 F9 _ _ _ S o84 o195 o7 d256 d257 d258 hNN hB)
  have hK259 ac w q85 F86 q24 F25 q8 F9 u N β (S : St Tryz.prog Tryz.f80.ntmps w0 NoB u N β (σ1.dl [] [(3, .p 2 0), (8, .v (slv (h.mem).length q8.1)), (12, .v (slv ((([] : List TEntry) ++ h.buf)).length q85.1)), (13, .v (slv 0 q24.1)), (15, .v (slv (h.iobuf).length ph.iobuf.1))] 3 [(2, Zc THost)]) ac w) (o84 : Ow w0 NoB u N F86 (([] : List TEntry) ++ h.buf) q85) (o23 : Ow w0 NoB u N F25 ([] : List TEntry) q24) (o7 : Ow w0 NoB u N F9 h.mem q8) (d260 : Disj F86 F25) (d261 : Disj F86 F9) (d262 : Disj F25 F9) (hNN : ∀ b, N0 b → N b ∧ u.heap[b]? = u0.heap[b]? ∧ ¬ F25 b) (hBB : BB σ1.bx.length β0 β) : W 3 (mkL 14 [0, 1, 2, 3, 4, 5, 6, 7, 8, 9, 12]) ac w := by
   refine o1 hW 10 ?_
   have b267 : (h.iobuf).length ≤ 4194304 := LRd.le (RHost.iobuf (d := h) (S.arg hh))
   refine id (S.appFlat (α := TEntry) o23 ((RHost.iobuf (d := h) (S.arg hh))) (fun _ _ h => h) (by' := 32) (d := 16) (lx := 0) (ly := (h.iobuf).length) rfl rfl (by kernel_rfl) (show _ ≤ 4194304 by simp only [List.length_append, List.length_cons, List.length_nil]; omega) ?_)
   clear S; intro ac w N q263 F264 S up o265 d266
   have hb268 := fun b h => (⟨(up b (hNN b h).1 (hNN b h).2.2).1, (up b (hNN b h).1 (hNN b h).2.2).2.trans (hNN b h).2.1⟩ : _ ∧ _)
   refine WD.sc S hb268 hBB fun hC => ?_
   have d269 : Disj F9 F264 := d266 _ (Disj.symm d262) o7.sub
   have d270 : Disj F86 F264 := d266 _ d260 o84.sub
   replace o7 := o7.upF (Disj.symm d262) up
   replace o84 := o84.upF d260 up
   clear up d266
   exact S.wh hW [] hC fun _ S => hK251 _ _ q85 F86 q263 F264 q8 F9 _ _ _ S o84 o265 o7 d270 d261 (Disj.symm d269) hb268 hBB
  have hK271 ac w q85 F86 q24 F25 q8 F9 u N β (S : St Tryz.prog Tryz.f80.ntmps w0 NoB u N β (σ1.dl [] [(8, .v (slv (h.mem).length q8.1)), (12, .v (slv ((([] : List TEntry) ++ h.buf)).length q85.1)), (13, .v (slv 0 q24.1)), (15, .v (slv (h.iobuf).length ph.iobuf.1))] 2 []) ac w) (o84 : Ow w0 NoB u N F86 (([] : List TEntry) ++ h.buf) q85) (o23 : Ow w0 NoB u N F25 ([] : List TEntry) q24) (o7 : Ow w0 NoB u N F9 h.mem q8) (d272 : Disj F86 F25) (d273 : Disj F86 F9) (d274 : Disj F25 F9) (hNN : ∀ b, N0 b → N b ∧ u.heap[b]? = u0.heap[b]? ∧ ¬ F25 b) (hBB : BB σ1.bx.length β0 β) : W 4 (mkL 14 [0, 1, 2, 3, 4, 5, 6, 7, 8, 9]) ac w := by
   refine o2 hW 10 12 ?_ (S.wq hW (fun b h => ⟨(hNN b h).1, (hNN b h).2.1⟩) hBB [] .nil fun _ _ _ S hB => hK259 _ _ q85 F86 q24 F25 q8 F9 _ _ _ S o84 o23 o7 d272 d273 d274 hNN hB)
   have b279 : (h.iobuf).length ≤ 4194304 := LRd.le (RHost.iobuf (d := h) (S.arg hh))
   refine id (S.appFlat (α := TEntry) o23 ((RHost.iobuf (d := h) (S.arg hh))) (fun _ _ h => h) (by' := 32) (d := 16) (lx := 0) (ly := (h.iobuf).length) rfl rfl (by kernel_rfl) (show _ ≤ 4194304 by simp only [List.length_append, List.length_cons, List.length_nil]; omega) ?_)
   clear S; intro ac w N q275 F276 S up o277 d278
   have hb280 := fun b h => (⟨(up b (hNN b h).1 (hNN b h).2.2).1, (up b (hNN b h).1 (hNN b h).2.2).2.trans (hNN b h).2.1⟩ : _ ∧ _)
   refine WD.sc S hb280 hBB fun hC => ?_
   have d281 : Disj F9 F276 := d278 _ (Disj.symm d274) o7.sub
   have d282 : Disj F86 F276 := d278 _ d272 o84.sub
   replace o7 := o7.upF (Disj.symm d274) up
   replace o84 := o84.upF d272 up
   clear up d278
   exact S.wh hW [] hC fun _ S => hK255 _ _ q85 F86 q275 F276 q8 F9 _ _ _ S o84 o277 o7 d282 d273 (Disj.symm d281) hb280 hBB
  have hK283 ac w q85 F86 q8 F9 u N β (S : St Tryz.prog Tryz.f80.ntmps w0 NoB u N β (σ1.dl [] [(3, .p 2 0), (8, .v (slv (h.mem).length q8.1)), (12, .v (slv ((([] : List TEntry) ++ h.buf)).length q85.1)), (15, .v (slv (h.iobuf).length ph.iobuf.1))] 3 [(2, Zc THost)]) ac w) (o84 : Ow w0 NoB u N F86 (([] : List TEntry) ++ h.buf) q85) (o7 : Ow w0 NoB u N F9 h.mem q8) (d284 : Disj F86 F9) (hNN : NN N0 u0 N u) (hBB : BB σ1.bx.length β0 β) : W 4 (mkL 14 [0, 1, 2, 3, 4, 5, 6, 8, 9, 12]) ac w := by
   refine o1 hW 7 ?_
   refine id (S.bs0 (α := TEntry) (d := 13) (by kernel_rfl) ?_)
   clear S; intro ac w N q285 F286 S up o287 d288
   have hb289 := fun b h => (⟨(up b (hNN b h).1).1, (up b (hNN b h).1).2.trans (hNN b h).2, d288 b (hNN b h).1⟩ : _ ∧ _ ∧ _)
   refine WD.sc S (fun b h => ⟨(hb289 b h).1, (hb289 b h).2.1⟩) hBB fun hC => ?_
   have d290 : Disj F9 F286 := fun b x y => d288 b (o7.sub b x) y
   have d291 : Disj F86 F286 := fun b x y => d288 b (o84.sub b x) y
   replace o7 := o7.up up
   replace o84 := o84.up up
   clear up d288
   exact S.wh hW [] hC fun _ S => hK259 _ _ q85 F86 q285 F286 q8 F9 _ _ _ S o84 o287 o7 d291 d284 (Disj.symm d290) hb289 hBB
  have hK292 ac w q24 F25 q8 F9 q16 F17 u N β (S : St Tryz.prog Tryz.f80.ntmps w0 NoB u N β (σ1.dl [] [(3, .p 2 0), (8, .v (slv (h.mem).length q8.1)), (9, .v (slv 0 q16.1)), (11, .v (slv (h.buf).length ph.buf.1)), (13, .v (slv 0 q24.1)), (15, .v (slv (h.iobuf).length ph.iobuf.1))] 3 [(2, Zc THost)]) ac w) (o23 : Ow w0 NoB u N F25 ([] : List TEntry) q24) (o7 : Ow w0 NoB u N F9 h.mem q8) (o15 : Ow w0 NoB u N F17 ([] : List TEntry) q16) (d293 : Disj F25 F9) (d294 : Disj F25 F17) (d295 : Disj F9 F17) (hNN : ∀ b, N0 b → N b ∧ u.heap[b]? = u0.heap[b]? ∧ ¬ F17 b ∧ ¬ F25 b) (hBB : BB σ1.bx.length β0 β) : W 4 (mkL 14 [0, 1, 2, 3, 4, 5, 7, 8, 9, 12]) ac w := by
   refine o1 hW 6 ?_
   have b300 : (h.buf).length ≤ 4194304 := LRd.le (RHost.buf (d := h) (S.arg hh))
   refine id (S.appFlat (α := TEntry) o15 ((RHost.buf (d := h) (S.arg hh))) (fun _ _ h => h) (by' := 32) (d := 12) (lx := 0) (ly := (h.buf).length) rfl rfl (by kernel_rfl) (show _ ≤ 4194304 by simp only [List.length_append, List.length_cons, List.length_nil]; omega) ?_)
   clear S; intro ac w N q296 F297 S up o298 d299
   have hb301 := fun b h => (⟨(up b (hNN b h).1 (hNN b h).2.2.1).1, (up b (hNN b h).1 (hNN b h).2.2.1).2.trans (hNN b h).2.1, (hNN b h).2.2.2⟩ : _ ∧ _ ∧ _)
   refine WD.sc S (fun b h => ⟨(hb301 b h).1, (hb301 b h).2.1⟩) hBB fun hC => ?_
   have d302 : Disj F9 F297 := d299 _ d295 o7.sub
   have d303 : Disj F25 F297 := d299 _ d294 o23.sub
   replace o7 := o7.upF d295 up
   replace o23 := o23.upF d294 up
   clear up d299
   exact S.wh hW [] hC fun _ S => hK259 _ _ q296 F297 q24 F25 q8 F9 _ _ _ S o298 o23 o7 (Disj.symm d303) (Disj.symm d302) d293 hb301 hBB
  have hK304 ac w q85 F86 q8 F9 u N β (S : St Tryz.prog Tryz.f80.ntmps w0 NoB u N β (σ1.dl [] [(8, .v (slv (h.mem).length q8.1)), (12, .v (slv ((([] : List TEntry) ++ h.buf)).length q85.1)), (15, .v (slv (h.iobuf).length ph.iobuf.1))] 2 []) ac w) (o84 : Ow w0 NoB u N F86 (([] : List TEntry) ++ h.buf) q85) (o7 : Ow w0 NoB u N F9 h.mem q8) (d305 : Disj F86 F9) (hNN : NN N0 u0 N u) (hBB : BB σ1.bx.length β0 β) : W 5 (mkL 14 [0, 1, 2, 3, 4, 5, 6, 8, 9]) ac w := by
   refine o2 hW 7 12 ?_ (S.wq hW hNN hBB [] .nil fun _ _ _ S hB => hK283 _ _ q85 F86 q8 F9 _ _ _ S o84 o7 d305 hNN hB)
   refine id (S.bs0 (α := TEntry) (d := 13) (by kernel_rfl) ?_)
   clear S; intro ac w N q306 F307 S up o308 d309
   have hb310 := fun b h => (⟨(up b (hNN b h).1).1, (up b (hNN b h).1).2.trans (hNN b h).2, d309 b (hNN b h).1⟩ : _ ∧ _ ∧ _)
   refine WD.sc S (fun b h => ⟨(hb310 b h).1, (hb310 b h).2.1⟩) hBB fun hC => ?_
   have d311 : Disj F9 F307 := fun b x y => d309 b (o7.sub b x) y
   have d312 : Disj F86 F307 := fun b x y => d309 b (o84.sub b x) y
   replace o7 := o7.up up
   replace o84 := o84.up up
   clear up d309
   exact S.wh hW [] hC fun _ S => hK271 _ _ q85 F86 q306 F307 q8 F9 _ _ _ S o84 o308 o7 d312 d305 (Disj.symm d311) hb310 hBB
  have hK313 ac w q24 F25 q8 F9 q16 F17 u N β (S : St Tryz.prog Tryz.f80.ntmps w0 NoB u N β (σ1.dl [] [(8, .v (slv (h.mem).length q8.1)), (9, .v (slv 0 q16.1)), (11, .v (slv (h.buf).length ph.buf.1)), (13, .v (slv 0 q24.1)), (15, .v (slv (h.iobuf).length ph.iobuf.1))] 2 []) ac w) (o23 : Ow w0 NoB u N F25 ([] : List TEntry) q24) (o7 : Ow w0 NoB u N F9 h.mem q8) (o15 : Ow w0 NoB u N F17 ([] : List TEntry) q16) (d314 : Disj F25 F9) (d315 : Disj F25 F17) (d316 : Disj F9 F17) (hNN : ∀ b, N0 b → N b ∧ u.heap[b]? = u0.heap[b]? ∧ ¬ F17 b ∧ ¬ F25 b) (hBB : BB σ1.bx.length β0 β) : W 5 (mkL 14 [0, 1, 2, 3, 4, 5, 7, 8, 9]) ac w := by
   refine o2 hW 6 12 ?_ (S.wq hW (fun b h => ⟨(hNN b h).1, (hNN b h).2.1⟩) hBB [] .nil fun _ _ _ S hB => hK292 _ _ q24 F25 q8 F9 q16 F17 _ _ _ S o23 o7 o15 d314 d315 d316 hNN hB)
   have b321 : (h.buf).length ≤ 4194304 := LRd.le (RHost.buf (d := h) (S.arg hh))
   refine id (S.appFlat (α := TEntry) o15 ((RHost.buf (d := h) (S.arg hh))) (fun _ _ h => h) (by' := 32) (d := 12) (lx := 0) (ly := (h.buf).length) rfl rfl (by kernel_rfl) (show _ ≤ 4194304 by simp only [List.length_append, List.length_cons, List.length_nil]; omega) ?_)
   clear S; intro ac w N q317 F318 S up o319 d320
   have hb322 := fun b h => (⟨(up b (hNN b h).1 (hNN b h).2.2.1).1, (up b (hNN b h).1 (hNN b h).2.2.1).2.trans (hNN b h).2.1, (hNN b h).2.2.2⟩ : _ ∧ _ ∧ _)
   refine WD.sc S (fun b h => ⟨(hb322 b h).1, (hb322 b h).2.1⟩) hBB fun hC => ?_
   have d323 : Disj F9 F318 := d320 _ d316 o7.sub
   have d324 : Disj F25 F318 := d320 _ d315 o23.sub
   replace o7 := o7.upF d316 up
   replace o23 := o23.upF d315 up
   clear up d320
   exact S.wh hW [] hC fun _ S => hK271 _ _ q317 F318 q24 F25 q8 F9 _ _ _ S o319 o23 o7 (Disj.symm d324) (Disj.symm d323) d314 hb322 hBB
  have hK325 ac w q8 F9 q16 F17 u N β (S : St Tryz.prog Tryz.f80.ntmps w0 NoB u N β (σ1.dl [] [(3, .p 2 0), (8, .v (slv (h.mem).length q8.1)), (9, .v (slv 0 q16.1)), (11, .v (slv (h.buf).length ph.buf.1)), (15, .v (slv (h.iobuf).length ph.iobuf.1))] 3 [(2, Zc THost)]) ac w) (o7 : Ow w0 NoB u N F9 h.mem q8) (o15 : Ow w0 NoB u N F17 ([] : List TEntry) q16) (d326 : Disj F9 F17) (hNN : ∀ b, N0 b → N b ∧ u.heap[b]? = u0.heap[b]? ∧ ¬ F17 b) (hBB : BB σ1.bx.length β0 β) : W 5 (mkL 14 [0, 1, 2, 3, 4, 5, 8, 9, 12]) ac w := by
   refine o2 hW 6 7 ?_ ?_
   ·have b331 : (h.buf).length ≤ 4194304 := LRd.le (RHost.buf (d := h) (S.arg hh))
    refine id (S.appFlat (α := TEntry) o15 ((RHost.buf (d := h) (S.arg hh))) (fun _ _ h => h) (by' := 32) (d := 12) (lx := 0) (ly := (h.buf).length) rfl rfl (by kernel_rfl) (show _ ≤ 4194304 by simp only [List.length_append, List.length_cons, List.length_nil]; omega) ?_)
    clear S; intro ac w N q327 F328 S up o329 d330
    have hb332 := fun b h => (⟨(up b (hNN b h).1 (hNN b h).2.2).1, (up b (hNN b h).1 (hNN b h).2.2).2.trans (hNN b h).2.1⟩ : _ ∧ _)
    refine WD.sc S hb332 hBB fun hC => ?_
    have d333 : Disj F9 F328 := d330 _ d326 o7.sub
    replace o7 := o7.upF d326 up
    clear up d330
    exact S.wh hW [] hC fun _ S => hK283 _ _ q327 F328 q8 F9 _ _ _ S o329 o7 (Disj.symm d333) hb332 hBB
   ·refine id (S.bs0 (α := TEntry) (d := 13) (by kernel_rfl) ?_)
    clear S; intro ac w N q334 F335 S up o336 d337
    have hb338 := fun b h => (⟨(up b (hNN b h).1).1, (up b (hNN b h).1).2.trans (hNN b h).2.1, (hNN b h).2.2, d337 b (hNN b h).1⟩ : _ ∧ _ ∧ _ ∧ _)
    refine WD.sc S (fun b h => ⟨(hb338 b h).1, (hb338 b h).2.1⟩) hBB fun hC => ?_
    have d339 : Disj F9 F335 := fun b x y => d337 b (o7.sub b x) y
    have d340 : Disj F17 F335 := fun b x y => d337 b (o15.sub b x) y
    replace o7 := o7.up up
    replace o15 := o15.up up
    clear up d337
    exact S.wh hW [] hC fun _ S => hK292 _ _ q334 F335 q8 F9 q16 F17 _ _ _ S o336 o7 o15 (Disj.symm d339) (Disj.symm d340) d326 hb338 hBB
  have hK341 ac w q24 F25 q8 F9 u N β (S : St Tryz.prog Tryz.f80.ntmps w0 NoB u N β (σ1.dl [] [(3, .p 2 0), (8, .v (slv (h.mem).length q8.1)), (11, .v (slv (h.buf).length ph.buf.1)), (13, .v (slv 0 q24.1)), (15, .v (slv (h.iobuf).length ph.iobuf.1))] 3 [(2, Zc THost)]) ac w) (o23 : Ow w0 NoB u N F25 ([] : List TEntry) q24) (o7 : Ow w0 NoB u N F9 h.mem q8) (d342 : Disj F25 F9) (hNN : ∀ b, N0 b → N b ∧ u.heap[b]? = u0.heap[b]? ∧ ¬ F25 b) (hBB : BB σ1.bx.length β0 β) : W 5 (mkL 14 [0, 1, 2, 4, 5, 7, 8, 9, 12]) ac w := by
   refine o1 hW 3 ?_
   refine id (S.bs0 (α := TEntry) (d := 9) (by kernel_rfl) ?_)
   clear S; intro ac w N q343 F344 S up o345 d346
   have hb347 := fun b h => (⟨(up b (hNN b h).1).1, (up b (hNN b h).1).2.trans (hNN b h).2.1, d346 b (hNN b h).1, (hNN b h).2.2⟩ : _ ∧ _ ∧ _ ∧ _)
   refine WD.sc S (fun b h => ⟨(hb347 b h).1, (hb347 b h).2.1⟩) hBB fun hC => ?_
   have d348 : Disj F9 F344 := fun b x y => d346 b (o7.sub b x) y
   have d349 : Disj F25 F344 := fun b x y => d346 b (o23.sub b x) y
   replace o7 := o7.up up
   replace o23 := o23.up up
   clear up d346
   exact S.wh hW [] hC fun _ S => hK292 _ _ q24 F25 q8 F9 q343 F344 _ _ _ S o23 o7 o345 d342 d349 d348 hb347 hBB
  have hK350 ac w q24 F25 q16 F17 u N β (S : St Tryz.prog Tryz.f80.ntmps w0 NoB u N β (σ1.dl [] [(3, .p 2 0), (7, .v (slv (h.mem).length ph.mem.1)), (9, .v (slv 0 q16.1)), (11, .v (slv (h.buf).length ph.buf.1)), (13, .v (slv 0 q24.1)), (15, .v (slv (h.iobuf).length ph.iobuf.1))] 3 [(2, Zc THost)]) ac w) (o23 : Ow w0 NoB u N F25 ([] : List TEntry) q24) (o15 : Ow w0 NoB u N F17 ([] : List TEntry) q16) (d351 : Disj F25 F17) (hNN : ∀ b, N0 b → N b ∧ u.heap[b]? = u0.heap[b]? ∧ ¬ F17 b ∧ ¬ F25 b) (hBB : BB σ1.bx.length β0 β) : W 5 (mkL 14 [0, 1, 3, 4, 5, 7, 8, 9, 12]) ac w := by
   refine o1 hW 2 ?_
   refine id (S.call1 (r := h.mem) (d := 8) (c_impl_copyMem w h.mem ph.mem (S.rd (RHost.mem (d := h) (S.arg hh)))) (by kernel_rfl) rfl ?_)
   clear S; intro ac w N q352 F353 S up o354 d355
   have hb356 := fun b h => (⟨(up b (hNN b h).1).1, (up b (hNN b h).1).2.trans (hNN b h).2.1, (hNN b h).2.2.1, (hNN b h).2.2.2⟩ : _ ∧ _ ∧ _ ∧ _)
   refine WD.sc S (fun b h => ⟨(hb356 b h).1, (hb356 b h).2.1⟩) hBB fun hC => ?_
   have d357 : Disj F17 F353 := fun b x y => d355 b (o15.sub b x) y
   have d358 : Disj F25 F353 := fun b x y => d355 b (o23.sub b x) y
   replace o15 := o15.up up
   replace o23 := o23.up up
   clear up d355
   exact S.wh hW [] hC fun _ S => hK292 _ _ q24 F25 q352 F353 q16 F17 _ _ _ S o23 o354 o15 d358 d351 (Disj.symm d357) hb356 hBB
  have hK359 ac w q8 F9 q16 F17 u N β (S : St Tryz.prog Tryz.f80.ntmps w0 NoB u N β (σ1.dl [] [(8, .v (slv (h.mem).length q8.1)), (9, .v (slv 0 q16.1)), (11, .v (slv (h.buf).length ph.buf.1)), (15, .v (slv (h.iobuf).length ph.iobuf.1))] 2 []) ac w) (o7 : Ow w0 NoB u N F9 h.mem q8) (o15 : Ow w0 NoB u N F17 ([] : List TEntry) q16) (d360 : Disj F9 F17) (hNN : ∀ b, N0 b → N b ∧ u.heap[b]? = u0.heap[b]? ∧ ¬ F17 b) (hBB : BB σ1.bx.length β0 β) : W 6 (mkL 14 [0, 1, 2, 3, 4, 5, 8, 9]) ac w := by
   refine o3 hW 6 7 12 ?_ ?_ (S.wq hW (fun b h => ⟨(hNN b h).1, (hNN b h).2.1⟩) hBB [] .nil fun _ _ _ S hB => hK325 _ _ q8 F9 q16 F17 _ _ _ S o7 o15 d360 hNN hB)
   ·have b365 : (h.buf).length ≤ 4194304 := LRd.le (RHost.buf (d := h) (S.arg hh))
    refine id (S.appFlat (α := TEntry) o15 ((RHost.buf (d := h) (S.arg hh))) (fun _ _ h => h) (by' := 32) (d := 12) (lx := 0) (ly := (h.buf).length) rfl rfl (by kernel_rfl) (show _ ≤ 4194304 by simp only [List.length_append, List.length_cons, List.length_nil]; omega) ?_)
    clear S; intro ac w N q361 F362 S up o363 d364
    have hb366 := fun b h => (⟨(up b (hNN b h).1 (hNN b h).2.2).1, (up b (hNN b h).1 (hNN b h).2.2).2.trans (hNN b h).2.1⟩ : _ ∧ _)
    refine WD.sc S hb366 hBB fun hC => ?_
    have d367 : Disj F9 F362 := d364 _ d360 o7.sub
    replace o7 := o7.upF d360 up
    clear up d364
    exact S.wh hW [] hC fun _ S => hK304 _ _ q361 F362 q8 F9 _ _ _ S o363 o7 (Disj.symm d367) hb366 hBB
   ·refine id (S.bs0 (α := TEntry) (d := 13) (by kernel_rfl) ?_)
    clear S; intro ac w N q368 F369 S up o370 d371
    have hb372 := fun b h => (⟨(up b (hNN b h).1).1, (up b (hNN b h).1).2.trans (hNN b h).2.1, (hNN b h).2.2, d371 b (hNN b h).1⟩ : _ ∧ _ ∧ _ ∧ _)
    refine WD.sc S (fun b h => ⟨(hb372 b h).1, (hb372 b h).2.1⟩) hBB fun hC => ?_
    have d373 : Disj F9 F369 := fun b x y => d371 b (o7.sub b x) y
    have d374 : Disj F17 F369 := fun b x y => d371 b (o15.sub b x) y
    replace o7 := o7.up up
    replace o15 := o15.up up
    clear up d371
    exact S.wh hW [] hC fun _ S => hK313 _ _ q368 F369 q8 F9 q16 F17 _ _ _ S o370 o7 o15 (Disj.symm d373) (Disj.symm d374) d360 hb372 hBB
  have hK375 ac w q24 F25 q8 F9 u N β (S : St Tryz.prog Tryz.f80.ntmps w0 NoB u N β (σ1.dl [] [(8, .v (slv (h.mem).length q8.1)), (11, .v (slv (h.buf).length ph.buf.1)), (13, .v (slv 0 q24.1)), (15, .v (slv (h.iobuf).length ph.iobuf.1))] 2 []) ac w) (o23 : Ow w0 NoB u N F25 ([] : List TEntry) q24) (o7 : Ow w0 NoB u N F9 h.mem q8) (d376 : Disj F25 F9) (hNN : ∀ b, N0 b → N b ∧ u.heap[b]? = u0.heap[b]? ∧ ¬ F25 b) (hBB : BB σ1.bx.length β0 β) : W 6 (mkL 14 [0, 1, 2, 4, 5, 7, 8, 9]) ac w := by
   refine o2 hW 3 12 ?_ (S.wq hW (fun b h => ⟨(hNN b h).1, (hNN b h).2.1⟩) hBB [] .nil fun _ _ _ S hB => hK341 _ _ q24 F25 q8 F9 _ _ _ S o23 o7 d376 hNN hB)
   refine id (S.bs0 (α := TEntry) (d := 9) (by kernel_rfl) ?_)
   clear S; intro ac w N q377 F378 S up o379 d380
   have hb381 := fun b h => (⟨(up b (hNN b h).1).1, (up b (hNN b h).1).2.trans (hNN b h).2.1, d380 b (hNN b h).1, (hNN b h).2.2⟩ : _ ∧ _ ∧ _ ∧ _)
   refine WD.sc S (fun b h => ⟨(hb381 b h).1, (hb381 b h).2.1⟩) hBB fun hC => ?_
   have d382 : Disj F9 F378 := fun b x y => d380 b (o7.sub b x) y
   have d383 : Disj F25 F378 := fun b x y => d380 b (o23.sub b x) y
   replace o7 := o7.up up
   replace o23 := o23.up up
   clear up d380
   exact S.wh hW [] hC fun _ S => hK313 _ _ q24 F25 q8 F9 q377 F378 _ _ _ S o23 o7 o379 d376 d383 d382 hb381 hBB
  have hK384 ac w q8 F9 u N β (S : St Tryz.prog Tryz.f80.ntmps w0 NoB u N β (σ1.dl [] [(3, .p 2 0), (8, .v (slv (h.mem).length q8.1)), (11, .v (slv (h.buf).length ph.buf.1)), (15, .v (slv (h.iobuf).length ph.iobuf.1))] 3 [(2, Zc THost)]) ac w) (o7 : Ow w0 NoB u N F9 h.mem q8) (hNN : NN N0 u0 N u) (hBB : BB σ1.bx.length β0 β) : W 6 (mkL 14 [0, 1, 2, 4, 5, 8, 9, 12]) ac w := by
   refine o2 hW 3 7 ?_ ?_
   ·refine id (S.bs0 (α := TEntry) (d := 9) (by kernel_rfl) ?_)
    clear S; intro ac w N q385 F386 S up o387 d388
    have hb389 := fun b h => (⟨(up b (hNN b h).1).1, (up b (hNN b h).1).2.trans (hNN b h).2, d388 b (hNN b h).1⟩ : _ ∧ _ ∧ _)
    refine WD.sc S (fun b h => ⟨(hb389 b h).1, (hb389 b h).2.1⟩) hBB fun hC => ?_
    have d390 : Disj F9 F386 := fun b x y => d388 b (o7.sub b x) y
    replace o7 := o7.up up
    clear up d388
    exact S.wh hW [] hC fun _ S => hK325 _ _ q8 F9 q385 F386 _ _ _ S o7 o387 d390 hb389 hBB
   ·refine id (S.bs0 (α := TEntry) (d := 13) (by kernel_rfl) ?_)
    clear S; intro ac w N q391 F392 S up o393 d394
    have hb395 := fun b h => (⟨(up b (hNN b h).1).1, (up b (hNN b h).1).2.trans (hNN b h).2, d394 b (hNN b h).1⟩ : _ ∧ _ ∧ _)
    refine WD.sc S (fun b h => ⟨(hb395 b h).1, (hb395 b h).2.1⟩) hBB fun hC => ?_
    have d396 : Disj F9 F392 := fun b x y => d394 b (o7.sub b x) y
    replace o7 := o7.up up
    clear up d394
    exact S.wh hW [] hC fun _ S => hK341 _ _ q391 F392 q8 F9 _ _ _ S o393 o7 (Disj.symm d396) hb395 hBB
  have hK397 ac w q24 F25 q16 F17 u N β (S : St Tryz.prog Tryz.f80.ntmps w0 NoB u N β (σ1.dl [] [(7, .v (slv (h.mem).length ph.mem.1)), (9, .v (slv 0 q16.1)), (11, .v (slv (h.buf).length ph.buf.1)), (13, .v (slv 0 q24.1)), (15, .v (slv (h.iobuf).length ph.iobuf.1))] 2 []) ac w) (o23 : Ow w0 NoB u N F25 ([] : List TEntry) q24) (o15 : Ow w0 NoB u N F17 ([] : List TEntry) q16) (d398 : Disj F25 F17) (hNN : ∀ b, N0 b → N b ∧ u.heap[b]? = u0.heap[b]? ∧ ¬ F17 b ∧ ¬ F25 b) (hBB : BB σ1.bx.length β0 β) : W 6 (mkL 14 [0, 1, 3, 4, 5, 7, 8, 9]) ac w := by
   refine o2 hW 2 12 ?_ (S.wq hW (fun b h => ⟨(hNN b h).1, (hNN b h).2.1⟩) hBB [] .nil fun _ _ _ S hB => hK350 _ _ q24 F25 q16 F17 _ _ _ S o23 o15 d398 hNN hB)
   refine id (S.call1 (r := h.mem) (d := 8) (c_impl_copyMem w h.mem ph.mem (S.rd (RHost.mem (d := h) (S.arg hh)))) (by kernel_rfl) rfl ?_)
   clear S; intro ac w N q399 F400 S up o401 d402
   have hb403 := fun b h => (⟨(up b (hNN b h).1).1, (up b (hNN b h).1).2.trans (hNN b h).2.1, (hNN b h).2.2.1, (hNN b h).2.2.2⟩ : _ ∧ _ ∧ _ ∧ _)
   refine WD.sc S (fun b h => ⟨(hb403 b h).1, (hb403 b h).2.1⟩) hBB fun hC => ?_
   have d404 : Disj F17 F400 := fun b x y => d402 b (o15.sub b x) y
   have d405 : Disj F25 F400 := fun b x y => d402 b (o23.sub b x) y
   replace o15 := o15.up up
   replace o23 := o23.up up
   clear up d402
   exact S.wh hW [] hC fun _ S => hK313 _ _ q24 F25 q399 F400 q16 F17 _ _ _ S o23 o401 o15 d405 d398 (Disj.symm d404) hb403 hBB
  have hK406 ac w q16 F17 u N β (S : St Tryz.prog Tryz.f80.ntmps w0 NoB u N β (σ1.dl [] [(3, .p 2 0), (7, .v (slv (h.mem).length ph.mem.1)), (9, .v (slv 0 q16.1)), (11, .v (slv (h.buf).length ph.buf.1)), (15, .v (slv (h.iobuf).length ph.iobuf.1))] 3 [(2, Zc THost)]) ac w) (o15 : Ow w0 NoB u N F17 ([] : List TEntry) q16) (hNN : ∀ b, N0 b → N b ∧ u.heap[b]? = u0.heap[b]? ∧ ¬ F17 b) (hBB : BB σ1.bx.length β0 β) : W 6 (mkL 14 [0, 1, 3, 4, 5, 8, 9, 12]) ac w := by
   refine o2 hW 2 7 ?_ ?_
   ·refine id (S.call1 (r := h.mem) (d := 8) (c_impl_copyMem w h.mem ph.mem (S.rd (RHost.mem (d := h) (S.arg hh)))) (by kernel_rfl) rfl ?_)
    clear S; intro ac w N q407 F408 S up o409 d410
    have hb411 := fun b h => (⟨(up b (hNN b h).1).1, (up b (hNN b h).1).2.trans (hNN b h).2.1, (hNN b h).2.2⟩ : _ ∧ _ ∧ _)
    refine WD.sc S (fun b h => ⟨(hb411 b h).1, (hb411 b h).2.1⟩) hBB fun hC => ?_
    have d412 : Disj F17 F408 := fun b x y => d410 b (o15.sub b x) y
    replace o15 := o15.up up
    clear up d410
    exact S.wh hW [] hC fun _ S => hK325 _ _ q407 F408 q16 F17 _ _ _ S o409 o15 (Disj.symm d412) hb411 hBB
   ·refine id (S.bs0 (α := TEntry) (d := 13) (by kernel_rfl) ?_)
    clear S; intro ac w N q413 F414 S up o415 d416
    have hb417 := fun b h => (⟨(up b (hNN b h).1).1, (up b (hNN b h).1).2.trans (hNN b h).2.1, (hNN b h).2.2, d416 b (hNN b h).1⟩ : _ ∧ _ ∧ _ ∧ _)
    refine WD.sc S (fun b h => ⟨(hb417 b h).1, (hb417 b h).2.1⟩) hBB fun hC => ?_
    have d418 : Disj F17 F414 := fun b x y => d416 b (o15.sub b x) y
    replace o15 := o15.up up
    clear up d416
    exact S.wh hW [] hC fun _ S => hK350 _ _ q413 F414 q16 F17 _ _ _ S o415 o15 (Disj.symm d418) hb417 hBB
  have hK419 ac w q24 F25 u N β (S : St Tryz.prog Tryz.f80.ntmps w0 NoB u N β (σ1.dl [] [(3, .p 2 0), (7, .v (slv (h.mem).length ph.mem.1)), (11, .v (slv (h.buf).length ph.buf.1)), (13, .v (slv 0 q24.1)), (15, .v (slv (h.iobuf).length ph.iobuf.1))] 3 [(2, Zc THost)]) ac w) (o23 : Ow w0 NoB u N F25 ([] : List TEntry) q24) (hNN : ∀ b, N0 b → N b ∧ u.heap[b]? = u0.heap[b]? ∧ ¬ F25 b) (hBB : BB σ1.bx.length β0 β) : W 6 (mkL 14 [0, 1, 4, 5, 7, 8, 9, 12]) ac w := by
   refine o2 hW 2 3 ?_ ?_
   ·refine id (S.call1 (r := h.mem) (d := 8) (c_impl_copyMem w h.mem ph.mem (S.rd (RHost.mem (d := h) (S.arg hh)))) (by kernel_rfl) rfl ?_)
    clear S; intro ac w N q420 F421 S up o422 d423
    have hb424 := fun b h => (⟨(up b (hNN b h).1).1, (up b (hNN b h).1).2.trans (hNN b h).2.1, (hNN b h).2.2⟩ : _ ∧ _ ∧ _)
    refine WD.sc S (fun b h => ⟨(hb424 b h).1, (hb424 b h).2.1⟩) hBB fun hC => ?_
    have d425 : Disj F25 F421 := fun b x y => d423 b (o23.sub b x) y
    replace o23 := o23.up up
    clear up d423
    exact S.wh hW [] hC fun _ S => hK341 _ _ q24 F25 q420 F421 _ _ _ S o23 o422 d425 hb424 hBB
   ·refine id (S.bs0 (α := TEntry) (d := 9) (by kernel_rfl) ?_)
    clear S; intro ac w N q426 F427 S up o428 d429
    have hb430 := fun b h => (⟨(up b (hNN b h).1).1, (up b (hNN b h).1).2.trans (hNN b h).2.1, d429 b (hNN b h).1, (hNN b h).2.2⟩ : _ ∧ _ ∧ _ ∧ _)
    refine WD.sc S (fun b h => ⟨(hb430 b h).1, (hb430 b h).2.1⟩) hBB fun hC => ?_
    have d431 : Disj F25 F427 := fun b x y => d429 b (o23.sub b x) y
    replace o23 := o23.up up
    clear up d429
    exact S.wh hW [] hC fun _ S => hK350 _ _ q24 F25 q426 F427 _ _ _ S o23 o428 d431 hb430 hBB
  have hK432 ac w q8 F9 u N β (S : St Tryz.prog Tryz.f80.ntmps w0 NoB u N β (σ1.dl [] [(8, .v (slv (h.mem).length q8.1)), (11, .v (slv (h.buf).length ph.buf.1)), (15, .v (slv (h.iobuf).length ph.iobuf.1))] 2 []) ac w) (o7 : Ow w0 NoB u N F9 h.mem q8) (hNN : NN N0 u0 N u) (hBB : BB σ1.bx.length β0 β) : W 7 (mkL 14 [0, 1, 2, 4, 5, 8, 9]) ac w := by
   refine o3 hW 3 7 12 ?_ ?_ (S.wq hW hNN hBB [] .nil fun _ _ _ S hB => hK384 _ _ q8 F9 _ _ _ S o7 hNN hB)
   ·refine id (S.bs0 (α := TEntry) (d := 9) (by kernel_rfl) ?_)
    clear S; intro ac w N q433 F434 S up o435 d436
    have hb437 := fun b h => (⟨(up b (hNN b h).1).1, (up b (hNN b h).1).2.trans (hNN b h).2, d436 b (hNN b h).1⟩ : _ ∧ _ ∧ _)
    refine WD.sc S (fun b h => ⟨(hb437 b h).1, (hb437 b h).2.1⟩) hBB fun hC => ?_
    have d438 : Disj F9 F434 := fun b x y => d436 b (o7.sub b x) y
    replace o7 := o7.up up
    clear up d436
    exact S.wh hW [] hC fun _ S => hK359 _ _ q8 F9 q433 F434 _ _ _ S o7 o435 d438 hb437 hBB
   ·refine id (S.bs0 (α := TEntry) (d := 13) (by kernel_rfl) ?_)
    clear S; intro ac w N q439 F440 S up o441 d442
    have hb443 := fun b h => (⟨(up b (hNN b h).1).1, (up b (hNN b h).1).2.trans (hNN b h).2, d442 b (hNN b h).1⟩ : _ ∧ _ ∧ _)
    refine WD.sc S (fun b h => ⟨(hb443 b h).1, (hb443 b h).2.1⟩) hBB fun hC => ?_
    have d444 : Disj F9 F440 := fun b x y => d442 b (o7.sub b x) y
    replace o7 := o7.up up
    clear up d442
    exact S.wh hW [] hC fun _ S => hK375 _ _ q439 F440 q8 F9 _ _ _ S o441 o7 (Disj.symm d444) hb443 hBB
  have hK445 ac w q16 F17 u N β (S : St Tryz.prog Tryz.f80.ntmps w0 NoB u N β (σ1.dl [] [(7, .v (slv (h.mem).length ph.mem.1)), (9, .v (slv 0 q16.1)), (11, .v (slv (h.buf).length ph.buf.1)), (15, .v (slv (h.iobuf).length ph.iobuf.1))] 2 []) ac w) (o15 : Ow w0 NoB u N F17 ([] : List TEntry) q16) (hNN : ∀ b, N0 b → N b ∧ u.heap[b]? = u0.heap[b]? ∧ ¬ F17 b) (hBB : BB σ1.bx.length β0 β) : W 7 (mkL 14 [0, 1, 3, 4, 5, 8, 9]) ac w := by
   refine o3 hW 2 7 12 ?_ ?_ (S.wq hW (fun b h => ⟨(hNN b h).1, (hNN b h).2.1⟩) hBB [] .nil fun _ _ _ S hB => hK406 _ _ q16 F17 _ _ _ S o15 hNN hB)
   ·refine id (S.call1 (r := h.mem) (d := 8) (c_impl_copyMem w h.mem ph.mem (S.rd (RHost.mem (d := h) (S.arg hh)))) (by kernel_rfl) rfl ?_)
    clear S; intro ac w N q446 F447 S up o448 d449
    have hb450 := fun b h => (⟨(up b (hNN b h).1).1, (up b (hNN b h).1).2.trans (hNN b h).2.1, (hNN b h).2.2⟩ : _ ∧ _ ∧ _)
    refine WD.sc S (fun b h => ⟨(hb450 b h).1, (hb450 b h).2.1⟩) hBB fun hC => ?_
    have d451 : Disj F17 F447 := fun b x y => d449 b (o15.sub b x) y
    replace o15 := o15.up up
    clear up d449
    exact S.wh hW [] hC fun _ S => hK359 _ _ q446 F447 q16 F17 _ _ _ S o448 o15 (Disj.symm d451) hb450 hBB
   ·refine id (S.bs0 (α := TEntry) (d := 13) (by kernel_rfl) ?_)
    clear S; intro ac w N q452 F453 S up o454 d455
    have hb456 := fun b h => (⟨(up b (hNN b h).1).1, (up b (hNN b h).1).2.trans (hNN b h).2.1, (hNN b h).2.2, d455 b (hNN b h).1⟩ : _ ∧ _ ∧ _ ∧ _)
    refine WD.sc S (fun b h => ⟨(hb456 b h).1, (hb456 b h).2.1⟩) hBB fun hC => ?_
    have d457 : Disj F17 F453 := fun b x y => d455 b (o15.sub b x) y
    replace o15 := o15.up up
    clear up d455
    exact S.wh hW [] hC fun _ S => hK397 _ _ q452 F453 q16 F17 _ _ _ S o454 o15 (Disj.symm d457) hb456 hBB
  have hK458 ac w q24 F25 u N β (S : St Tryz.prog Tryz.f80.ntmps w0 NoB u N β (σ1.dl [] [(7, .v (slv (h.mem).length ph.mem.1)), (11, .v (slv (h.buf).length ph.buf.1)), (13, .v (slv 0 q24.1)), (15, .v (slv (h.iobuf).length ph.iobuf.1))] 2 []) ac w) (o23 : Ow w0 NoB u N F25 ([] : List TEntry) q24) (hNN : ∀ b, N0 b → N b ∧ u.heap[b]? = u0.heap[b]? ∧ ¬ F25 b) (hBB : BB σ1.bx.length β0 β) : W 7 (mkL 14 [0, 1, 4, 5, 7, 8, 9]) ac w := by
   refine o3 hW 2 3 12 ?_ ?_ (S.wq hW (fun b h => ⟨(hNN b h).1, (hNN b h).2.1⟩) hBB [] .nil fun _ _ _ S hB => hK419 _ _ q24 F25 _ _ _ S o23 hNN hB)
   ·refine id (S.call1 (r := h.mem) (d := 8) (c_impl_copyMem w h.mem ph.mem (S.rd (RHost.mem (d := h) (S.arg hh)))) (by kernel_rfl) rfl ?_)
    clear S; intro ac w N q459 F460 S up o461 d462
    have hb463 := fun b h => (⟨(up b (hNN b h).1).1, (up b (hNN b h).1).2.trans (hNN b h).2.1, (hNN b h).2.2⟩ : _ ∧ _ ∧ _)
    refine WD.sc S (fun b h => ⟨(hb463 b h).1, (hb463 b h).2.1⟩) hBB fun hC => ?_
    have d464 : Disj F25 F460 := fun b x y => d462 b (o23.sub b x) y
    replace o23 := o23.up up
    clear up d462
    exact S.wh hW [] hC fun _ S => hK375 _ _ q24 F25 q459 F460 _ _ _ S o23 o461 d464 hb463 hBB
   ·refine id (S.bs0 (α := TEntry) (d := 9) (by kernel_rfl) ?_)
    clear S; intro ac w N q465 F466 S up o467 d468
    have hb469 := fun b h => (⟨(up b (hNN b h).1).1, (up b (hNN b h).1).2.trans (hNN b h).2.1, d468 b (hNN b h).1, (hNN b h).2.2⟩ : _ ∧ _ ∧ _ ∧ _)
    refine WD.sc S (fun b h => ⟨(hb469 b h).1, (hb469 b h).2.1⟩) hBB fun hC => ?_
    have d470 : Disj F25 F466 := fun b x y => d468 b (o23.sub b x) y
    replace o23 := o23.up up
    clear up d468
    exact S.wh hW [] hC fun _ S => hK397 _ _ q24 F25 q465 F466 _ _ _ S o23 o467 d470 hb469 hBB
  have hK471 ac w u N β (S : St Tryz.prog Tryz.f80.ntmps w0 NoB u N β (σ1.dl [] [(3, .p 2 0), (7, .v (slv (h.mem).length ph.mem.1)), (11, .v (slv (h.buf).length ph.buf.1)), (15, .v (slv (h.iobuf).length ph.iobuf.1))] 3 [(2, Zc THost)]) ac w) (hNN : NN N0 u0 N u) (hBB : BB σ1.bx.length β0 β) : W 7 (mkL 14 [0, 1, 4, 5, 8, 9, 12]) ac w := by
   refine o3 hW 2 3 7 ?_ ?_ ?_
   ·refine id (S.call1 (r := h.mem) (d := 8) (c_impl_copyMem w h.mem ph.mem (S.rd (RHost.mem (d := h) (S.arg hh)))) (by kernel_rfl) rfl ?_)
    clear S; intro ac w N q472 F473 S up o474 d475
    have hb476 := fun b h => (⟨(up b (hNN b h).1).1, (up b (hNN b h).1).2.trans (hNN b h).2⟩ : _ ∧ _)
    refine WD.sc S hb476 hBB fun hC => ?_
    clear up d475
    exact S.wh hW [] hC fun _ S => hK384 _ _ q472 F473 _ _ _ S o474 hb476 hBB
   ·refine id (S.bs0 (α := TEntry) (d := 9) (by kernel_rfl) ?_)
    clear S; intro ac w N q477 F478 S up o479 d480
    have hb481 := fun b h => (⟨(up b (hNN b h).1).1, (up b (hNN b h).1).2.trans (hNN b h).2, d480 b (hNN b h).1⟩ : _ ∧ _ ∧ _)
    refine WD.sc S (fun b h => ⟨(hb481 b h).1, (hb481 b h).2.1⟩) hBB fun hC => ?_
    clear up d480
    exact S.wh hW [] hC fun _ S => hK406 _ _ q477 F478 _ _ _ S o479 hb481 hBB
   ·refine id (S.bs0 (α := TEntry) (d := 13) (by kernel_rfl) ?_)
    clear S; intro ac w N q482 F483 S up o484 d485
    have hb486 := fun b h => (⟨(up b (hNN b h).1).1, (up b (hNN b h).1).2.trans (hNN b h).2, d485 b (hNN b h).1⟩ : _ ∧ _ ∧ _)
    refine WD.sc S (fun b h => ⟨(hb486 b h).1, (hb486 b h).2.1⟩) hBB fun hC => ?_
    clear up d485
    exact S.wh hW [] hC fun _ S => hK419 _ _ q482 F483 _ _ _ S o484 hb486 hBB
  have hNN : NN N0 u0 N0 u0 := fun b h => ⟨h, rfl⟩
  have hBB : BB σ1.bx.length β0 β0 := fun _ _ => rfl
  refine o4 hW 2 3 7 12 ?_ ?_ ?_ (S.wq hW hNN hBB [] .nil fun _ _ _ S hB => hK471 _ _ _ _ _ S hNN hB)
  ·refine id (S.call1 (r := h.mem) (d := 8) (c_impl_copyMem w h.mem ph.mem (S.rd (RHost.mem (d := h) (S.arg hh)))) (by kernel_rfl) rfl ?_)
   clear S; intro ac w N q487 F488 S up o489 d490
   have hb491 := fun b h => (⟨(up b (hNN b h).1).1, (up b (hNN b h).1).2.trans (hNN b h).2⟩ : _ ∧ _)
   refine WD.sc S hb491 hBB fun hC => ?_
   clear up d490
   exact S.wh hW [] hC fun _ S => hK432 _ _ q487 F488 _ _ _ S o489 hb491 hBB
  ·refine id (S.bs0 (α := TEntry) (d := 9) (by kernel_rfl) ?_)
   clear S; intro ac w N q492 F493 S up o494 d495
   have hb496 := fun b h => (⟨(up b (hNN b h).1).1, (up b (hNN b h).1).2.trans (hNN b h).2, d495 b (hNN b h).1⟩ : _ ∧ _ ∧ _)
   refine WD.sc S (fun b h => ⟨(hb496 b h).1, (hb496 b h).2.1⟩) hBB fun hC => ?_
   clear up d495
   exact S.wh hW [] hC fun _ S => hK445 _ _ q492 F493 _ _ _ S o494 hb496 hBB
  ·refine id (S.bs0 (α := TEntry) (d := 13) (by kernel_rfl) ?_)
   clear S; intro ac w N q497 F498 S up o499 d500
   have hb501 := fun b h => (⟨(up b (hNN b h).1).1, (up b (hNN b h).1).2.trans (hNN b h).2, d500 b (hNN b h).1⟩ : _ ∧ _ ∧ _)
   refine WD.sc S (fun b h => ⟨(hb501 b h).1, (hb501 b h).2.1⟩) hBB fun hC => ?_
   clear up d500
   exact S.wh hW [] hC fun _ S => hK458 _ _ q497 F498 _ _ _ S o499 hb501 hBB
 clear S
 rintro ac w ⟨q234, F235, q237, F238, q231, F232, u, N, β, S, o233, o236, o230, d502, d503, d504⟩
 refine id (nt (ws (ws (rg ?_))))
 refine S.qe 4 [] [(19, .v (slv (h.mons).length ph.mons.1)), (20, .v (I ((h.mons).length : Int))), (21, .v (I 0))] ?_; clear S; intro ac w β S
 refine (nt (wp_block ?_))
 have o508 := S.nilOw (α := TMon)
 refine wp_loop_down (fun mm ac w => ∃ (i : Nat) (acc : List TMon) (q505 : GT.Ptr (List TMon)) (F506 : Bl) (u : World) (N : Bl) (β : Nat → Nat), mm = h.mons.length - i ∧ (i ≤ h.mons.length) ∧ (acc = h.mons.take i) ∧ St Tryz.prog Tryz.f80.ntmps w0 NoB u N β ⟨[(2, .p 1 0), (3, .p 2 0), (19, .v (slv (h.mons).length ph.mons.1)), (20, .v (I ((h.mons).length : Int))), (21, .v (I (i : Int)))], [GT.cells h ph, Zc THost, [slv (h.mem).length q231.1, slv (acc).length q505.1, slv ((([] : List TEntry) ++ h.buf)).length q234.1, slv ((([] : List TEntry) ++ h.iobuf)).length q237.1]]⟩ ac w ∧ Ow w0 NoB u N F506 acc q505 ∧ Ow w0 NoB u N F232 h.mem q231 ∧ Ow w0 NoB u N F235 (([] : List TEntry) ++ h.buf) q234 ∧ Ow w0 NoB u N F238 (([] : List TEntry) ++ h.iobuf) q237 ∧ Disj F506 F232 ∧ Disj F506 F235 ∧ Disj F506 F238) _ ⟨0, ([] : List TMon), (GT.pdflt (α := List TMon)), NoB, _, _, _, rfl, (by first | omega | (simp; done) | (simp; omega)), (by rfl), S.z, o508, o230, o233, o236, (Disj.symm (fun b _ h => False.elim h)), (Disj.symm (fun b _ h => False.elim h)), (Disj.symm (fun b _ h => False.elim h))⟩ ?_
 clear S o230 o233 o236 o508
 rintro mm ac w ⟨i, acc, q505, F506, u, N, β, rfl, hi, hacc, S, o507, o230, o233, o236, d509, d510, d511⟩
 have hlacc : acc.length = i := by rw [hacc]; simp; omega
 refine ws (rg ?_)
 refine S.qe 1 [] [(22, .v (B (decide ((i : Int) < ((h.mons).length : Int)))))] ?_; clear S; intro ac w β S
 refine (nt (ws (S.c (decide ((i : Int) < ((h.mons).length : Int))) (fun h512 => ?_) (fun h512 => ?_))))
 ·have g513 := of_decide_eq_true h512
  refine wk (nt (ws (wp_block (ws (rg ?_)))))
  refine S.qgm 4 [] [(5, .p 3 0)] (.cons (Q_idx (RHost.mons (d := h) (S.arg hh)) (l := (h.mons).length) (k := i) (i := (i : Int)) rfl rfl (by omega) Tryz.underlying30 (by kernel_rfl)) (.cons (Q_el (RHost.mons (d := h) (S.arg hh)) (t := 65) (k := i) (by omega) rfl (by kernel_rfl) (by kernel_rfl)) .nil)) 4 [(3, GT.cells (el h.mons i) (ph.mons.2 i))] ?_; clear S; intro ac w β S
  refine (nt ?_)
  refine S.draw0 (f := 8) 5 rfl rfl ?_
  clear S; intro w S
  refine S.hoist (i := 0) (path := [1, 0]) (keep := [2, 3, 5, 19, 20, 21, 25]) (m := 4) (σ' := ⟨[(2, .p 1 0), (3, .p 2 0), (5, .p 3 0), (19, .v (slv (h.mons).length ph.mons.1)), (20, .v (I ((h.mons).length : Int))), (21, .v (I (i : Int))), (25, .p 2 1)], [GT.cells h ph, Zc THost, [slv (h.mem).length q231.1, slv (acc).length q505.1, slv ((([] : List TEntry) ++ h.buf)).length q234.1, slv ((([] : List TEntry) ++ h.iobuf)).length q237.1], GT.cells (el h.mons i) (ph.mons.2 i)]⟩) (by kernel_rfl) (by kernel_rfl) .nil (by kernel_rfl) ?_
  clear S; intro ac S
  refine S.hoist (i := 1) (path := [1]) (keep := [2, 3, 5, 19, 20, 21, 26]) (m := 4) (σ' := ⟨[(2, .p 1 0), (3, .p 2 0), (5, .p 3 0), (19, .v (slv (h.mons).length ph.mons.1)), (20, .v (I ((h.mons).length : Int))), (21, .v (I (i : Int))), (26, .v (slv (acc).length q505.1))], [GT.cells h ph, Zc THost, [slv (h.mem).length q231.1, slv (acc).length q505.1, slv ((([] : List TEntry) ++ h.buf)).length q234.1, slv ((([] : List TEntry) ++ h.iobuf)).length q237.1], GT.cells (el h.mons i) (ph.mons.2 i)]⟩) (by kernel_rfl) (by kernel_rfl) .nil (by kernel_rfl) ?_
  clear S; intro ac S
  refine S.hoist (i := 2) (path := [3, 2]) (keep := [2, 3, 19, 20, 21, 26, 27]) (m := 4) (σ' := ⟨[(2, .p 1 0), (3, .p 2 0), (19, .v (slv (h.mons).length ph.mons.1)), (20, .v (I ((h.mons).length : Int))), (21, .v (I (i : Int))), (26, .v (slv (acc).length q505.1)), (27, .v (GT.val (el h.mons i) (ph.mons.2 i)))], [GT.cells h ph, Zc THost, [slv (h.mem).length q231.1, slv (acc).length q505.1, slv ((([] : List TEntry) ++ h.buf)).length q234.1, slv ((([] : List TEntry) ++ h.iobuf)).length q237.1], GT.cells (el h.mons i) (ph.mons.2 i)]⟩) (by kernel_rfl) (by kernel_rfl) .nil (by kernel_rfl) ?_
  clear S; intro ac S
  refine WD.one (i := 3) (by kernel_rfl) ?_
  refine id (S.call1 (r := (el h.mons i)) (d := 28) (c_impl_copyMon w (el h.mons i) (ph.mons.2 i) (S.rd (LRd.el (RHost.mons (d := h) (S.arg hh)) i (by omega)))) (by kernel_rfl) rfl ?_)
  clear S; intro ac w N q514 F515 S up o516 d517
  refine WD.next S up rfl ?_
  have d518 : Disj F506 F515 := fun b x y => d517 b (o507.sub b x) y
  have d519 : Disj F232 F515 := fun b x y => d517 b (o230.sub b x) y
  have d520 : Disj F235 F515 := fun b x y => d517 b (o233.sub b x) y
  have d521 : Disj F238 F515 := fun b x y => d517 b (o236.sub b x) y
  replace o507 := o507.up up
  replace o230 := o230.up up
  replace o233 := o233.up up
  replace o236 := o236.up up
  clear up d517
  have i537 : In64 (el h.mons i).pend := RMon.pend (d := (el h.mons i)) o516.rn
  have i538 : In64 (el h.mons i).traps := RMon.traps (d := (el h.mons i)) o516.rn
  have i542 : In64 (el h.mons i).owned := RMon.owned (d := (el h.mons i)) o516.rn
  obtain ⟨F522, F525, F528, F531, F534, F539, o523, o526, o529, o532, o535, o540, s524, s527, s530, s533, s536, s541, d543, d544, d545, d546, d547, d548, d549, d550, d551, d552, d553, d554, d555, d556, d557⟩ := sp_Mon o516
  refine WD.one (i := 4) (by kernel_rfl) ?_
  have o562 := ow_Mon (x := (el h.mons i)) (p := q514) o523 o526 o529 o532 o535 o540 d543 d544 d545 d546 d547 d548 d549 d550 d551 d552 d553 d554 d555 d556 d557 i537 i538 i542
  refine id (S.bs1 (α := TMon) (x := (el h.mons i)) (p := q514) o562.own o562.sub o562.young (d := 29) (by kernel_rfl) ?_)
  clear S; intro ac w N q558 F559 S up o560 d561
  refine WD.next S up rfl ?_
  have d563 : Disj F506 F559 := d561 _ (Disj.symm (Disj.or (Disj.part (Disj.symm d518) s524) (Disj.or (Disj.part (Disj.symm d518) s527) (Disj.or (Disj.part (Disj.symm d518) s530) (Disj.or (Disj.part (Disj.symm d518) s533) (Disj.or (Disj.part (Disj.symm d518) s536) (Disj.or (Disj.part (Disj.symm d518) s541) Disj.nob))))))) o507.sub
  have d564 : Disj F232 F559 := d561 _ (Disj.symm (Disj.or (Disj.part (Disj.symm d519) s524) (Disj.or (Disj.part (Disj.symm d519) s527) (Disj.or (Disj.part (Disj.symm d519) s530) (Disj.or (Disj.part (Disj.symm d519) s533) (Disj.or (Disj.part (Disj.symm d519) s536) (Disj.or (Disj.part (Disj.symm d519) s541) Disj.nob))))))) o230.sub
  have d565 : Disj F235 F559 := d561 _ (Disj.symm (Disj.or (Disj.part (Disj.symm d520) s524) (Disj.or (Disj.part (Disj.symm d520) s527) (Disj.or (Disj.part (Disj.symm d520) s530) (Disj.or (Disj.part (Disj.symm d520) s533) (Disj.or (Disj.part (Disj.symm d520) s536) (Disj.or (Disj.part (Disj.symm d520) s541) Disj.nob))))))) o233.sub
  have d566 : Disj F238 F559 := d561 _ (Disj.symm (Disj.or (Disj.part (Disj.symm d521) s524) (Disj.or (Disj.part (Disj.symm d521) s527) (Disj.or (Disj.part (Disj.symm d521) s530) (Disj.or (Disj.part (Disj.symm d521) s533) (Disj.or (Disj.part (Disj.symm d521) s536) (Disj.or (Disj.part (Disj.symm d521) s541) Disj.nob))))))) o236.sub
  replace o507 := o507.up up
  replace o230 := o230.up up
  replace o233 := o233.up up
  replace o236 := o236.up up
  clear up d561
  refine WD.one (i := 5) (by kernel_rfl) ?_
  refine id (S.appOwn (α := TMon) o507 o560 d563 (by' := 168) (d := 30) (lx := (acc).length) (ly := 1) rfl rfl (by kernel_rfl) (show _ ≤ 4194304 by simp only [List.length_append, List.length_cons, List.length_nil]; omega) ?_)
  clear S; intro ac w N q567 F568 S up o569 d570
  refine WD.last (by kernel_rfl) ?_
  have d571 : Disj F232 F568 := d570 _ (Disj.symm d509) d564 o230.sub
  have d572 : Disj F235 F568 := d570 _ (Disj.symm d510) d565 o233.sub
  have d573 : Disj F238 F568 := d570 _ (Disj.symm d511) d566 o236.sub
  replace o230 := o230.upF (Disj.symm d509) up
  replace o233 := o233.upF (Disj.symm d510) up
  replace o236 := o236.upF (Disj.symm d511) up
  clear up d570
  refine WD.one (i := 6) (by kernel_rfl) ?_
  refine S.stepq (i := 6) (keep := [2, 3, 19, 20, 21, 30, 31]) (m := 4) (σ' := ⟨[(2, .p 1 0), (3, .p 2 0), (19, .v (slv (h.mons).length ph.mons.1)), (20, .v (I ((h.mons).length : Int))), (21, .v (I (i : Int))), (30, .v (slv ((acc ++ [(el h.mons i)])).length q567.1)), (31, .p 2 1)], [GT.cells h ph, Zc THost, [slv (h.mem).length q231.1, slv (acc).length q505.1, slv ((([] : List TEntry) ++ h.buf)).length q234.1, slv ((([] : List TEntry) ++ h.iobuf)).length q237.1], GT.cells (el h.mons i) (ph.mons.2 i)]⟩) .nil (by kernel_rfl) ?_
  clear S; intro ac w β S hβ
  refine WD.last (by kernel_rfl) ?_
  clear hβ
  refine WD.one (i := 7) (by kernel_rfl) ?_
  refine S.stepq (i := 7) (keep := [2, 3, 19, 20, 21]) (m := 4) (σ' := ⟨[(2, .p 1 0), (3, .p 2 0), (19, .v (slv (h.mons).length ph.mons.1)), (20, .v (I ((h.mons).length : Int))), (21, .v (I (i : Int)))], [GT.cells h ph, Zc THost, [slv (h.mem).length q231.1, slv ((acc ++ [(el h.mons i)])).length q567.1, slv ((([] : List TEntry) ++ h.buf)).length q234.1, slv ((([] : List TEntry) ++ h.iobuf)).length q237.1], GT.cells (el h.mons i) (ph.mons.2 i)]⟩) .nil (by kernel_rfl) ?_
  clear S; intro ac w β S hβ
  refine WD.last (by kernel_rfl) ?_
  clear hβ
  refine WD.done (by kernel_rfl) ?_ _
  replace S := S.wt 3
  refine id (nb (nt (rg ?_)))
  refine S.qg 2 [] [(21, .v (I ((i : Int) + 1)))] (.cons (Q_add (x := (i : Int)) (y := 1) ⟨by omega, by omega⟩) .nil) ?_; clear S; intro ac w β S
  refine (nt ?_)
  refine ⟨h.mons.length - (i + 1), by omega, i + 1, (acc ++ [(el h.mons i)]), q567, F568, _, _, _, rfl, ?_, ?_, S.z, o569, o230, o233, o236, (Disj.symm d571), (Disj.symm d572), (Disj.symm d573)⟩
  ·clear S; first | omega | (simp [*]; done) | (simp [*]; omega)
  ·clear S; (first | (rw [take_el (by omega), hacc]; done) | (rw [take_el (by omega), hacc]; simp; done))
 ·have g574 := of_decide_eq_false h512
  refine wp_exit (ex_then (ex_then (ex_hit (nt (ws (rg ?_))))))
  refine S.qem 2 [] [] 2 [(1, [slv (h.mem).length q231.1, slv (acc).length q505.1, slv ((([] : List TEntry) ++ h.buf)).length q234.1, slv ((([] : List TEntry) ++ h.iobuf)).length q237.1])] ?_; clear S; intro ac w β S
  refine (nt (wr (S.r [GT.val (⟨h.mem, acc, (([] : List TEntry) ++ h.buf), (([] : List TEntry) ++ h.iobuf)⟩ : THost) (⟨q231, q505, q234, q237⟩ : PHost)] ?_)))
  have o575 := ow_Host (x := (⟨h.mem, acc, (([] : List TEntry) ++ h.buf), (([] : List TEntry) ++ h.iobuf)⟩ : THost)) (p := (⟨q231, q505, q234, q237⟩ : PHost)) o230 o507 o233 o236 (Disj.symm d509) (Disj.symm d503) (Disj.symm d504) d510 d511 d502 
  exact ret1_of S (show h = (⟨h.mem, acc, (([] : List TEntry) ++ h.buf), (([] : List TEntry) ++ h.iobuf)⟩ : THost) by clear S; (rw [hacc, take_all (by omega)]; first | rfl | (simp; done))) rfl o575

theorem k0_impl_BufferOk {p : Prop} (h : p := by clear S; (first | (unfold f_bufferOk; rw [show b.length = i by omega, he]; first | rfl | (simp [*]; done) | (simp; omega) | (rw [Bool.eq_iff_iff]; simp; omega)) | (unfold f_bufferOk; rw [rng_bad (k := i) (by omega) (rng_bad (k := k) (by omega) (by simp_all <;> fail))]; rfl))) : p := h
set_option maxRecDepth 100000 in
theorem c_impl_BufferOk (w0 : World) (b : List TEntry) (pb : LP TEntry) (hb : GT.rd KK (Lt w0.heap.size) w0 b pb) : Calls Tryz.prog 141 [slv (b).length pb.1].toArray w0 (fun e w' => e = .returned (B (f_bufferOk b)) ∧ Chg NoB w0 w') := by
 refine Calls.walk (args := [slv (b).length pb.1]) NoB Tryz.func141 rfl rfl ?_
 intro ac β S
 have hleb : b.length ≤ 4194304 := LRd.le hb
 refine ws (rg ?_)
 refine S.qe 1 [] [] ?_; clear S; intro ac w β S
 refine (nt (ws (ws (rg ?_))))
 refine S.qe 3 [] [(7, .v (slv (b).length pb.1)), (8, .v (I ((b).length : Int))), (9, .v (I 0))] ?_; clear S; intro ac w β S
 refine (nt (wp_block ?_))
 refine wp_loop_down (fun mm ac w => ∃ (i : Nat)  (u : World) (N : Bl) (β : Nat → Nat), mm = b.length - i ∧ (i ≤ b.length) ∧ ((List.range i).all (fun i => (List.range i).all fun k => !(decide ((el b i).tag = (el b k).tag) && decide ((el b i).page = (el b k).page))) = true) ∧ St Tryz.prog Tryz.f141.ntmps w0 NoB u N β ⟨[(0, .v (slv (b).length pb.1)), (7, .v (slv (b).length pb.1)), (8, .v (I ((b).length : Int))), (9, .v (I (i : Int)))], []⟩ ac w) _ ⟨0, _, _, _, rfl, (by first | omega | (simp; done) | (simp; omega)), (by rfl), S.z⟩ ?_
 clear S
 rintro mm ac w ⟨i, u, N, β, rfl, hi, he, S⟩
 refine ws (rg ?_)
 refine S.qe 1 [] [(10, .v (B (decide ((i : Int) < ((b).length : Int)))))] ?_; clear S; intro ac w β S
 refine (nt (ws (S.c (decide ((i : Int) < ((b).length : Int))) (fun h1 => ?_) (fun h1 => ?_))))
 ·have g2 := of_decide_eq_true h1
  refine wk (nt (ws (wp_block (ws (rg ?_)))))
  refine S.qgm 6 [] [(3, .v (I (i : Int))), (4, .p 0 0)] (.cons (Q_idx (S.arg hb) (l := (b).length) (k := i) (i := (i : Int)) rfl rfl (by omega) Tryz.underlying31 (by kernel_rfl)) (.cons (Q_el (S.arg hb) (t := 107) (k := i) (by omega) rfl (by kernel_rfl) (by kernel_rfl)) .nil)) 1 [(0, GT.cells (el b i) ())] ?_; clear S; intro ac w β S
  refine (nt (ws (rg ?_)))
  have l3 : (((b).take i)).length = i - 0 := by simp; omega
  refine S.qg 5 [] [(16, .v (slv i ((pb.1).sl 0 4))), (17, .v (I (i : Int))), (18, .v (I 0))] (.cons (Q_slice (S.arg hb) (l := (b).length) (a := 0) (b := i) rfl (.inl ⟨rfl, rfl⟩) (.inr rfl) (by omega) (by omega) Tryz.underlying31 (by kernel_rfl)) .nil) ?_; clear S; intro ac w β S
  refine (nt (wp_block ?_))
  refine wp_loop_down (fun mm ac w => ∃ (k : Nat)  (u : World) (N : Bl) (β : Nat → Nat), mm = i - k ∧ (k ≤ i) ∧ ((List.range k).all (fun k => !(decide ((el b i).tag = (el b k).tag) && decide ((el b i).page = (el b k).page))) = true) ∧ St Tryz.prog Tryz.f141.ntmps w0 NoB u N β ⟨[(0, .v (slv (b).length pb.1)), (4, .p 0 0), (7, .v (slv (b).length pb.1)), (8, .v (I ((b).length : Int))), (9, .v (I (i : Int))), (16, .v (slv i ((pb.1).sl 0 4))), (17, .v (I (i : Int))), (18, .v (I (k : Int)))], [GT.cells (el b i) ()]⟩ ac w) _ ⟨0, _, _, _, rfl, (by first | omega | (simp; done) | (simp; omega)), (by rfl), S.z⟩ ?_
  clear S
  rintro mm ac w ⟨k, u, N, β, rfl, hk, he2, S⟩
  have eltk : k < i → el (b.take i) k = el b k := fun h => el_take h
  refine ws (rg ?_)
  refine S.qe 1 [] [(19, .v (B (decide ((k : Int) < (i : Int)))))] ?_; clear S; intro ac w β S
  refine (nt (ws (S.c (decide ((k : Int) < (i : Int))) (fun h4 => ?_) (fun h4 => ?_))))
  ·have g5 := of_decide_eq_true h4
   refine wk (nt (ws (wp_block (ws (rg ?_)))))
   refine S.qgm 4 [] [(6, .p 1 0)] (.cons (Q_idx (show GT.rd KK _ _ ((b).take i) (((pb.1).sl 0 4, fun i => pb.2 (0 + i)) : LP TEntry) from rd_sl (S.arg hb) (a := 0) (b := i) (by omega) (by omega)) (l := i) (k := k) (i := (k : Int)) (by omega) rfl (by omega) Tryz.underlying31 (by kernel_rfl)) (.cons (Q_el (show GT.rd KK _ _ ((b).take i) (((pb.1).sl 0 4, fun i => pb.2 (0 + i)) : LP TEntry) from rd_sl (S.arg hb) (a := 0) (b := i) (by omega) (by omega)) (t := 107) (k := k) (by omega) rfl (by kernel_rfl) (by kernel_rfl)) .nil)) 2 [(1, GT.cells (el ((b).take i) k) ())] ?_; clear S; intro ac w β S
   refine (nt (ws (rg ?_)))
   refine S.qa 6 [] [(27, .v (B ((el b i).tag == (el ((b).take i) k).tag)))] ?_; clear S; intro ac w β S
   rcases Bool.eq_false_or_eq_true ((el b i).tag == (el ((b).take i) k).tag) with h6 | h6 <;> rw [h6] at S
   ·have g7 : (el b i).tag = (el ((b).take i) k).tag := eq_of_beq h6
    refine S.qem 6 [27] [(33, .v (B ((el b i).page == (el ((b).take i) k).page)))] 1 [] ?_; clear S; intro ac w β S
    refine (nt (S.c ((el b i).page == (el ((b).take i) k).page) (fun h8 => ?_) (fun h8 => ?_)))
    ·have g9 : (el b i).page = (el ((b).take i) k).page := eq_of_beq h8
     refine ws (rg ?_)
     refine S.qe 1 [] [(2, .v (B false))] ?_; clear S; intro ac w β S
     exact (nt (wr (rb (rt (rt (rb (rb (rt (rt (rb (rt (S.r [B false] ⟨retB k0_impl_BufferOk, S.chg⟩))))))))))))
    ·have g10 : ¬ ((el b i).page = (el ((b).take i) k).page) := ne_of_beq_false h8
     refine wk (nb (nt (rg ?_)))
     refine S.qg 2 [] [(18, .v (I ((k : Int) + 1)))] (.cons (Q_add (x := (k : Int)) (y := 1) ⟨by omega, by omega⟩) .nil) ?_; clear S; intro ac w β S
     refine (nt ?_)
     refine ⟨i - (k + 1), by omega, k + 1, _, _, _, rfl, ?_, ?_, S.z⟩
     ·clear S; first | omega | (simp [*]; done) | (simp [*]; omega)
     ·clear S; (refine rng_step he2 ?_; simp_all)
   ·have g11 : ¬ ((el b i).tag = (el ((b).take i) k).tag) := ne_of_beq_false h6
    refine S.qem 6 [27] [(33, .v (B false))] 1 [] ?_; clear S; intro ac w β S
    refine (nt (S.c false (fun hx => by cases hx) (fun _ => ?_)))
    refine wk (nb (nt (rg ?_)))
    refine S.qg 2 [] [(18, .v (I ((k : Int) + 1)))] (.cons (Q_add (x := (k : Int)) (y := 1) ⟨by omega, by omega⟩) .nil) ?_; clear S; intro ac w β S
    refine (nt ?_)
    refine ⟨i - (k + 1), by omega, k + 1, _, _, _, rfl, ?_, ?_, S.z⟩
    ·clear S; first | omega | (simp [*]; done) | (simp [*]; omega)
    ·clear S; (refine rng_step he2 ?_; simp_all)
  ·have g12 := of_decide_eq_false h4
   refine wp_exit (ex_then (ex_then (ex_hit (nb (nt (rg ?_))))))
   refine S.qgm 2 [] [(9, .v (I ((i : Int) + 1)))] (.cons (Q_add (x := (i : Int)) (y := 1) ⟨by omega, by omega⟩) .nil) 0 [] ?_; clear S; intro ac w β S
   refine (nt ?_)
   refine ⟨b.length - (i + 1), by omega, i + 1, _, _, _, rfl, ?_, ?_, S.z⟩
   ·clear S; first | omega | (simp [*]; done) | (simp [*]; omega)
   ·clear S; (refine rng_step he ?_); (have e : k = i := (by omega)); rw [e] at he2; exact he2
 ·have g13 := of_decide_eq_false h1
  refine wp_exit (ex_then (ex_then (ex_hit (nt (ws (rg ?_))))))
  refine S.qe 4 [] [(2, .v (B (decide (((b).length : Int) ≤ 6))))] ?_; clear S; intro ac w β S
  exact (nt (wr (S.r [B (decide (((b).length : Int) ≤ 6))] ⟨retB k0_impl_BufferOk, S.chg⟩)))

set_option maxRecDepth 100000 in
theorem c_impl_RightsOk (w0 : World) (r : Int) : Calls Tryz.prog 193 [I r].toArray w0 (fun e w' => e = .returned (B (f_within r 0 3)) ∧ Chg NoB w0 w') := by
 refine Calls.walk (args := [I r]) NoB Tryz.func193 rfl rfl ?_
 intro ac β S
 refine ws (rg ?_)
 refine S.qe 1 [] [] ?_; clear S; intro ac w β S
 refine (nt (ws (rg ?_)))
 refine S.qg 3 [] [(2, .v (B (f_within r 0 3)))] (.cons (Q_call fun w hw => c_impl_within w r 0 3) .nil) ?_; clear S; intro ac w β S
 exact (nt (wr (S.r [B (f_within r 0 3)] ⟨retB (by clear S; first | rfl | (simp [f_within, *]; done) | (simp [f_within, *]; omega) | (simp_all [f_within]; done) | (simp_all [f_within]; omega)), S.chg⟩)))

theorem k0_impl_Enough {p : Prop} (h : p := by clear S; first | rfl | (simp [f_enough, *]; done) | (simp [f_enough, *]; omega) | (simp_all [f_enough]; done) | (simp_all [f_enough]; omega)) : p := h
set_option maxRecDepth 100000 in
theorem c_impl_Enough (w0 : World) (rights : Int) (need : Int) : Calls Tryz.prog 174 [I rights, I need].toArray w0 (fun e w' => e = .returned (B (f_enough rights need)) ∧ Chg NoB w0 w') := by
 refine Calls.walk (args := [I rights, I need]) NoB Tryz.func174 rfl rfl ?_
 intro ac β S
 refine ws (rg ?_)
 refine S.qe 1 [] [] ?_; clear S; intro ac w β S
 refine (nt (ws (rg ?_)))
 refine S.qb 3 [] [(7, .v (B (f_within rights 0 3)))] (.cons (Q_call fun w hw => c_impl_RightsOk w rights) .nil) ?_; clear S; intro ac w β S
 rcases Bool.eq_false_or_eq_true (f_within rights 0 3) with h1 | h1 <;> rw [h1] at S
 ·have g2 := within_t h1
  refine S.qb 4 [7] [(11, .v (B (f_within need 0 3)))] (.cons (Q_call fun w hw => c_impl_RightsOk w need) .nil) ?_; clear S; intro ac w β S
  rcases Bool.eq_false_or_eq_true (f_within need 0 3) with h3 | h3 <;> rw [h3] at S
  ·have g4 := within_t h3
   refine S.qg 7 [11] [(4, .v (B ((land64 rights need) == need)))] (.cons (Q_land64 (x := rights) (y := need)) .nil) ?_; clear S; intro ac w β S
   exact (nt (wr (S.r [B ((land64 rights need) == need)] ⟨retB k0_impl_Enough, S.chg⟩)))
  ·have g5 := within_f h3
   refine S.qe 7 [11] [(4, .v (B false))] ?_; clear S; intro ac w β S
   exact (nt (wr (S.r [B false] ⟨retB k0_impl_Enough, S.chg⟩)))
 ·have g6 := within_f h1
  refine S.qe 11 [7] [(4, .v (B false))] ?_; clear S; intro ac w β S
  exact (nt (wr (S.r [B false] ⟨retB k0_impl_Enough, S.chg⟩)))

theorem k0_impl_MonOk {p : Prop} (h : p := by clear S; (symm; rw [← Bool.not_eq_true]; intro hc; simp only [f_monOk, f_monHead, f_monTail, Bool.and_eq_true, decide_eq_true_eq, beq_iff_eq] at hc; first | omega | (simp_all; done) | (simp_all; omega) | (have hx := all_el (k := k) hc.1.2 (by omega); simp_all; done) | (have hx := rng_el (k := j) hc.2 (by omega); unfold f_pageSlot at hx; split at hx <;> first | (simp_all; done) | (simp_all; omega)))) : p := h
set_option maxRecDepth 100000 in
theorem c_impl_MonOk (w0 : World) (m : TMon) (pm : PMon) (hm : GT.rd KK (Lt w0.heap.size) w0 m pm) : Calls Tryz.prog 142 [GT.val m pm].toArray w0 (fun e w' => e = .returned (B (f_monOk m)) ∧ Chg NoB w0 w') := by
 refine Calls.walk (args := [GT.val m pm]) NoB Tryz.func142 rfl rfl ?_
 intro ac β S
 have hlem_outer : m.outer.length ≤ 4194304 := LRd.le (RMon.outer (d := m) hm)
 have hlem_out : m.out.length ≤ 4194304 := LRd.le (RMon.out (d := m) hm)
 have hlem_dirty : m.dirty.length ≤ 4194304 := LRd.le (RMon.dirty (d := m) hm)
 have hlem_guests : m.guests.length ≤ 4194304 := LRd.le (RMon.guests (d := m) hm)
 have hlem_outs : m.outs.length ≤ 4194304 := LRd.le (RMon.outs (d := m) hm)
 have hlem_tables : m.tables.length ≤ 4194304 := LRd.le (RMon.tables (d := m) hm)
 refine ws (rg ?_)
 refine S.qem 2 [] [(1, .p 0 0)] 1 [(0, GT.cells m pm)] ?_; clear S; intro ac w β S
 refine (nt (ws (ws (rg ?_))))
 refine S.qb 6 [] [(12, .v (B (!(f_within ((m.guests).length : Int) 1 2))))] (.cons (Q_call fun w hw => c_impl_within w ((m.guests).length : Int) 1 2) .nil) ?_; clear S; intro ac w β S
 rcases Bool.eq_false_or_eq_true (!(f_within ((m.guests).length : Int) 1 2)) with h1 | h1 <;> rw [h1] at S
 ·have h2 := not_t h1
  have g3 := within_f h2
  refine S.qe 50 [12] [(62, .v (B true))] ?_; clear S; intro ac w β S
  refine (nt (S.c true (fun _ => ?_) (fun hx => by cases hx)))
  refine ws (rg ?_)
  refine S.qe 1 [] [(2, .v (B false))] ?_; clear S; intro ac w β S
  exact (nt (wr (rt (S.r [B false] ⟨retB k0_impl_MonOk, S.chg⟩))))
 ·have h4 := not_f h1
  have g5 := within_t h4
  refine S.qa 9 [12] [(21, .v (B (((m.tables).length : Int) != ((m.guests).length : Int))))] ?_; clear S; intro ac w β S
  rcases Bool.eq_false_or_eq_true (((m.tables).length : Int) != ((m.guests).length : Int)) with h6 | h6 <;> rw [h6] at S
  ·have g7 : ¬ (((m.tables).length : Int) = ((m.guests).length : Int)) := bne_iff_ne.1 h6
   refine S.qe 41 [21] [(62, .v (B true))] ?_; clear S; intro ac w β S
   refine (nt (S.c true (fun _ => ?_) (fun hx => by cases hx)))
   refine ws (rg ?_)
   refine S.qe 1 [] [(2, .v (B false))] ?_; clear S; intro ac w β S
   exact (nt (wr (rt (S.r [B false] ⟨retB k0_impl_MonOk, S.chg⟩))))
  ·have g8 : ((m.tables).length : Int) = ((m.guests).length : Int) := ne_f h6
   refine S.qb 6 [21] [(27, .v (B (!(f_tableOk m.outer 8 12))))] (.cons (Q_call fun w hw => c_impl_TableOk w m.outer pm.outer (rd_of (RMon.outer (d := m) (S.arg hm)) hw) 8 12 (by omega) (by omega)) .nil) ?_; clear S; intro ac w β S
   rcases Bool.eq_false_or_eq_true (!(f_tableOk m.outer 8 12)) with h9 | h9 <;> rw [h9] at S
   ·have h10 := not_t h9
    refine S.qe 35 [27] [(62, .v (B true))] ?_; clear S; intro ac w β S
    refine (nt (S.c true (fun _ => ?_) (fun hx => by cases hx)))
    refine ws (rg ?_)
    refine S.qe 1 [] [(2, .v (B false))] ?_; clear S; intro ac w β S
    exact (nt (wr (rt (S.r [B false] ⟨retB k0_impl_MonOk, S.chg⟩))))
   ·have h11 := not_f h9
    have g12 := tableOk_t h11
    refine S.qa 6 [27] [(33, .v (B (((m.out).length : Int) != 8)))] ?_; clear S; intro ac w β S
    rcases Bool.eq_false_or_eq_true (((m.out).length : Int) != 8) with h13 | h13 <;> rw [h13] at S
    ·have g14 : ¬ (((m.out).length : Int) = 8) := bne_iff_ne.1 h13
     refine S.qe 29 [33] [(62, .v (B true))] ?_; clear S; intro ac w β S
     refine (nt (S.c true (fun _ => ?_) (fun hx => by cases hx)))
     refine ws (rg ?_)
     refine S.qe 1 [] [(2, .v (B false))] ?_; clear S; intro ac w β S
     exact (nt (wr (rt (S.r [B false] ⟨retB k0_impl_MonOk, S.chg⟩))))
    ·have g15 : ((m.out).length : Int) = 8 := ne_f h13
     refine S.qa 6 [33] [(39, .v (B (((m.dirty).length : Int) != 8)))] ?_; clear S; intro ac w β S
     rcases Bool.eq_false_or_eq_true (((m.dirty).length : Int) != 8) with h16 | h16 <;> rw [h16] at S
     ·have g17 : ¬ (((m.dirty).length : Int) = 8) := bne_iff_ne.1 h16
      refine S.qe 23 [39] [(62, .v (B true))] ?_; clear S; intro ac w β S
      refine (nt (S.c true (fun _ => ?_) (fun hx => by cases hx)))
      refine ws (rg ?_)
      refine S.qe 1 [] [(2, .v (B false))] ?_; clear S; intro ac w β S
      exact (nt (wr (rt (S.r [B false] ⟨retB k0_impl_MonOk, S.chg⟩))))
     ·have g18 : ((m.dirty).length : Int) = 8 := ne_f h16
      refine S.qa 6 [39] [(45, .v (B (decide (((m.outs).length : Int) > 40))))] ?_; clear S; intro ac w β S
      rcases Bool.eq_false_or_eq_true (decide (((m.outs).length : Int) > 40)) with h19 | h19 <;> rw [h19] at S
      ·have g20 := of_decide_eq_true h19
       refine S.qe 17 [45] [(62, .v (B true))] ?_; clear S; intro ac w β S
       refine (nt (S.c true (fun _ => ?_) (fun hx => by cases hx)))
       refine ws (rg ?_)
       refine S.qe 1 [] [(2, .v (B false))] ?_; clear S; intro ac w β S
       exact (nt (wr (rt (S.r [B false] ⟨retB k0_impl_MonOk, S.chg⟩))))
      ·have g21 := of_decide_eq_false h19
       refine S.qb 6 [45] [(51, .v (B (!(f_within m.pend 0 255))))] (.cons (Q_call fun w hw => c_impl_PendOk w m.pend) .nil) ?_; clear S; intro ac w β S
       rcases Bool.eq_false_or_eq_true (!(f_within m.pend 0 255)) with h22 | h22 <;> rw [h22] at S
       ·have h23 := not_t h22
        have g24 := within_f h23
        refine S.qe 11 [51] [(62, .v (B true))] ?_; clear S; intro ac w β S
        refine (nt (S.c true (fun _ => ?_) (fun hx => by cases hx)))
        refine ws (rg ?_)
        refine S.qe 1 [] [(2, .v (B false))] ?_; clear S; intro ac w β S
        exact (nt (wr (rt (S.r [B false] ⟨retB k0_impl_MonOk, S.chg⟩))))
       ·have h25 := not_f h22
        have g26 := within_t h25
        refine S.qb 6 [51] [(57, .v (B (!(f_within m.traps 0 3))))] (.cons (Q_call fun w hw => c_impl_within w m.traps 0 3) .nil) ?_; clear S; intro ac w β S
        rcases Bool.eq_false_or_eq_true (!(f_within m.traps 0 3)) with h27 | h27 <;> rw [h27] at S
        ·have h28 := not_t h27
         have g29 := within_f h28
         refine S.qe 5 [57] [(62, .v (B true))] ?_; clear S; intro ac w β S
         refine (nt (S.c true (fun _ => ?_) (fun hx => by cases hx)))
         refine ws (rg ?_)
         refine S.qe 1 [] [(2, .v (B false))] ?_; clear S; intro ac w β S
         exact (nt (wr (rt (S.r [B false] ⟨retB k0_impl_MonOk, S.chg⟩))))
        ·have h30 := not_f h27
         have g31 := within_t h30
         refine S.qg 5 [57] [(62, .v (B (!(f_within m.owned 0 1000000000))))] (.cons (Q_call fun w hw => c_impl_within w m.owned 0 1000000000) .nil) ?_; clear S; intro ac w β S
         refine (nt (S.c (!(f_within m.owned 0 1000000000)) (fun h32 => ?_) (fun h32 => ?_)))
         ·have h33 := not_t h32
          have g34 := within_f h33
          refine ws (rg ?_)
          refine S.qe 1 [] [(2, .v (B false))] ?_; clear S; intro ac w β S
          exact (nt (wr (rt (S.r [B false] ⟨retB k0_impl_MonOk, S.chg⟩))))
         ·have h35 := not_f h32
          have g36 := within_t h35
          refine wk (nt (ws (ws (rg ?_))))
          refine S.qe 4 [] [(64, .v (slv (m.guests).length pm.guests.1)), (65, .v (I ((m.guests).length : Int))), (66, .v (I 0))] ?_; clear S; intro ac w β S
          refine (nt (wp_block ?_))
          refine wp_loop_down (fun mm ac w => ∃ (k : Nat)  (u : World) (N : Bl) (β : Nat → Nat), mm = (m.guests).length - k ∧ (k ≤ (m.guests).length) ∧ (((m.guests).take k).all f_guestOk = true) ∧ St Tryz.prog Tryz.f142.ntmps w0 NoB u N β ⟨[(1, .p 0 0), (64, .v (slv (m.guests).length pm.guests.1)), (65, .v (I ((m.guests).length : Int))), (66, .v (I (k : Int)))], [GT.cells m pm]⟩ ac w) _ ⟨0, _, _, _, rfl, (by first | omega | (simp; done) | (simp; omega)), (by simp), S.z⟩ ?_
          clear S
          rintro mm ac w ⟨k, u, N, β, rfl, hk, he, S⟩
          refine ws (rg ?_)
          refine S.qe 1 [] [(67, .v (B (decide ((k : Int) < ((m.guests).length : Int)))))] ?_; clear S; intro ac w β S
          refine (nt (ws (S.c (decide ((k : Int) < ((m.guests).length : Int))) (fun h37 => ?_) (fun h37 => ?_))))
          ·have g38 := of_decide_eq_true h37
           refine wk (nt (ws (wp_block (ws (rg ?_)))))
           refine S.qgm 4 [] [(4, .p 1 0)] (.cons (Q_idx (RMon.guests (d := m) (S.arg hm)) (l := (m.guests).length) (k := k) (i := (k : Int)) rfl rfl (by omega) Tryz.underlying54 (by kernel_rfl)) (.cons (Q_el (RMon.guests (d := m) (S.arg hm)) (t := 101) (k := k) (by omega) rfl (by kernel_rfl) (by kernel_rfl)) .nil)) 2 [(1, GT.cells (el m.guests k) (pm.guests.2 k))] ?_; clear S; intro ac w β S
           refine (nt (ws (rg ?_)))
           refine S.qgm 3 [] [(72, .v (B (!(f_guestOk (el m.guests k)))))] (.cons (Q_call fun w hw => c_impl_GuestOk w (el m.guests k) (pm.guests.2 k) (rd_of (LRd.el (RMon.guests (d := m) (S.arg hm)) k (by omega)) hw)) .nil) 1 [] ?_; clear S; intro ac w β S
           refine (nt (S.c (!(f_guestOk (el m.guests k))) (fun h39 => ?_) (fun h39 => ?_)))
           ·have h40 := not_t h39
            refine ws (rg ?_)
            refine S.qe 1 [] [(2, .v (B false))] ?_; clear S; intro ac w β S
            exact (nt (wr (rb (rt (rt (rb (rt (S.r [B false] ⟨retB k0_impl_MonOk, S.chg⟩))))))))
           ·have h41 := not_f h39
            refine wk (nb (nt (rg ?_)))
            refine S.qg 2 [] [(66, .v (I ((k : Int) + 1)))] (.cons (Q_add (x := (k : Int)) (y := 1) ⟨by omega, by omega⟩) .nil) ?_; clear S; intro ac w β S
            refine (nt ?_)
            refine ⟨(m.guests).length - (k + 1), by omega, k + 1, _, _, _, rfl, ?_, ?_, S.z⟩
            ·clear S; first | omega | (simp [*]; done) | (simp [*]; omega)
            ·clear S; exact all_step (by omega) he (by first | assumption | (simp only [f_slotOk, f_within] at *; simp_all; done) | (simp_all; done) | (simp_all; omega))
          ·have g42 := of_decide_eq_false h37
           refine wp_exit (ex_then (ex_then (ex_hit (nt (ws (ws (rg ?_)))))))
           refine S.qe 4 [] [(75, .v (slv (m.outer).length pm.outer.1)), (76, .v (I ((m.outer).length : Int))), (77, .v (I 0))] ?_; clear S; intro ac w β S
           refine (nt (wp_block ?_))
           refine wp_loop_down (fun mm ac w => ∃ (j : Nat)  (u : World) (N : Bl) (β : Nat → Nat), mm = m.outer.length - j ∧ (j ≤ m.outer.length) ∧ ((List.range j).all (f_pageSlot m) = true) ∧ St Tryz.prog Tryz.f142.ntmps w0 NoB u N β ⟨[(1, .p 0 0), (75, .v (slv (m.outer).length pm.outer.1)), (76, .v (I ((m.outer).length : Int))), (77, .v (I (j : Int)))], [GT.cells m pm]⟩ ac w) _ ⟨0, _, _, _, rfl, (by first | omega | (simp; done) | (simp; omega)), (by rfl), S.z⟩ ?_
           clear S
           rintro mm ac w ⟨j, u, N, β, rfl, hj, hp, S⟩
           have hlo : m.outer.length = 8 := by omega
           have hlu : m.out.length = 8 := by omega
           refine ws (rg ?_)
           refine S.qe 1 [] [(78, .v (B (decide ((j : Int) < ((m.outer).length : Int)))))] ?_; clear S; intro ac w β S
           refine (nt (ws (S.c (decide ((j : Int) < ((m.outer).length : Int))) (fun h43 => ?_) (fun h43 => ?_))))
           ·have g44 := of_decide_eq_true h43
            refine wk (nt (ws (wp_block (ws (rg ?_)))))
            refine S.qgm 6 [] [(5, .v (I (j : Int))), (6, .p 1 0)] (.cons (Q_idx (RMon.outer (d := m) (S.arg hm)) (l := (m.outer).length) (k := j) (i := (j : Int)) rfl rfl (by omega) Tryz.underlying61 (by kernel_rfl)) (.cons (Q_el (RMon.outer (d := m) (S.arg hm)) (t := 37) (k := j) (by omega) rfl (by kernel_rfl) (by kernel_rfl)) .nil)) 2 [(1, GT.cells (el m.outer j) ())] ?_; clear S; intro ac w β S
            refine (nt (ws ?_))
            refine S.drawn (keep := [1, 5, 6, 75, 76, 77, 84]) (m := 2) (σ' := ⟨[(1, .p 0 0), (5, .v (I (j : Int))), (6, .p 1 0), (75, .v (slv (m.outer).length pm.outer.1)), (76, .v (I ((m.outer).length : Int))), (77, .v (I (j : Int))), (84, .v (B (decide ((el m.outer j) = ((⟨-1, 0⟩ : TSlot))))))], [GT.cells m pm, GT.cells (el m.outer j) ()]⟩) (.cons (Q_call fun w hw => c_impl_NoSlot w ) (.cons (Eq_eq_Slot (t := 37) (el m.outer j) ((⟨-1, 0⟩ : TSlot)) (by kernel_rfl)) .nil)) rfl (by kernel_rfl) (by kernel_rfl) ?_
            clear S; intro ac w S
            refine id (nt (S.c (decide ((el m.outer j) = ((⟨-1, 0⟩ : TSlot)))) (fun h45 => ?_) (fun h45 => ?_)))
            ·refine ws (rg ?_)
             refine S.qgm 7 [] [(91, .v (B (!(f_pageOk (el m.out j)))))] (.cons (Q_idx (RMon.out (d := m) (S.arg hm)) (l := (m.out).length) (k := j) (i := (j : Int)) rfl rfl (by omega) Tryz.underlying22 (by kernel_rfl)) (.cons (Q_el1 (RMon.out (d := m) (S.arg hm)) (t := 55) (k := j) (by omega) rfl (by kernel_rfl)) (.cons (Q_call fun w hw => c_impl_PageOk w (el m.out j) (pm.out.2 j) (rd_of (LRd.el (RMon.out (d := m) (S.arg hm)) j (by omega)) hw)) .nil))) 1 [] ?_; clear S; intro ac w β S
             refine (nt (S.c (!(f_pageOk (el m.out j))) (fun h46 => ?_) (fun h46 => ?_)))
             ·have h47 := not_t h46
              refine ws (rg ?_)
              refine S.qe 1 [] [(2, .v (B false))] ?_; clear S; intro ac w β S
              exact (nt (wr (rb (rt (rt (rb (rt (S.r [B false] ⟨retB k0_impl_MonOk, S.chg⟩))))))))
             ·have h48 := not_f h46
              refine wk (nb (nt (rg ?_)))
              refine S.qg 2 [] [(77, .v (I ((j : Int) + 1)))] (.cons (Q_add (x := (j : Int)) (y := 1) ⟨by omega, by omega⟩) .nil) ?_; clear S; intro ac w β S
              refine (nt ?_)
              refine ⟨m.outer.length - (j + 1), by omega, j + 1, _, _, _, rfl, ?_, ?_, S.z⟩
              ·clear S; first | omega | (simp [*]; done) | (simp [*]; omega)
              ·clear S; (refine rng_step hp ?_; unfold f_pageSlot; (repeat' split) <;> first | (exfalso; simp_all; done) | (simp_all; done) | (simp_all; omega))
            ·refine ws (rg ?_)
             refine S.qbm 5 [] [(96, .v (B (!(f_enough ((el m.outer j).rights) 1))))] (.cons (Q_call fun w hw => c_impl_Enough w ((el m.outer j).rights) 1) .nil) 1 [] ?_; clear S; intro ac w β S
             rcases Bool.eq_false_or_eq_true (!(f_enough ((el m.outer j).rights) 1)) with h49 | h49 <;> rw [h49] at S
             ·have h50 := not_t h49
              refine S.qe 8 [96] [(104, .v (B true))] ?_; clear S; intro ac w β S
              refine (nt (S.c true (fun _ => ?_) (fun hx => by cases hx)))
              refine ws (rg ?_)
              refine S.qe 1 [] [(2, .v (B false))] ?_; clear S; intro ac w β S
              exact (nt (wr (rb (rt (rt (rb (rt (S.r [B false] ⟨retB k0_impl_MonOk, S.chg⟩))))))))
             ·have h51 := not_f h49
              have g52 := enough_t h51
              have b53 : ((el m.out j)).length ≤ 4194304 := LRd.le (LRd.el (RMon.out (d := m) (S.arg hm)) j (by omega))
              refine S.qg 8 [96] [(104, .v (B (decide ((((el m.out j)).length : Int) > 0))))] (.cons (Q_idx (RMon.out (d := m) (S.arg hm)) (l := (m.out).length) (k := j) (i := (j : Int)) rfl rfl (by omega) Tryz.underlying22 (by kernel_rfl)) (.cons (Q_el1 (RMon.out (d := m) (S.arg hm)) (t := 55) (k := j) (by omega) rfl (by kernel_rfl)) .nil)) ?_; clear S; intro ac w β S
              refine (nt (S.c (decide ((((el m.out j)).length : Int) > 0)) (fun h54 => ?_) (fun h54 => ?_)))
              ·have g55 := of_decide_eq_true h54
               refine ws (rg ?_)
               refine S.qe 1 [] [(2, .v (B false))] ?_; clear S; intro ac w β S
               exact (nt (wr (rb (rt (rt (rb (rt (S.r [B false] ⟨retB k0_impl_MonOk, S.chg⟩))))))))
              ·have g56 := of_decide_eq_false h54
               refine wk (nb (nt (rg ?_)))
               refine S.qg 2 [] [(77, .v (I ((j : Int) + 1)))] (.cons (Q_add (x := (j : Int)) (y := 1) ⟨by omega, by omega⟩) .nil) ?_; clear S; intro ac w β S
               refine (nt ?_)
               refine ⟨m.outer.length - (j + 1), by omega, j + 1, _, _, _, rfl, ?_, ?_, S.z⟩
               ·clear S; first | omega | (simp [*]; done) | (simp [*]; omega)
               ·clear S; (refine rng_step hp ?_; unfold f_pageSlot; (repeat' split) <;> first | (exfalso; simp_all; done) | (simp_all; done) | (simp_all; omega))
           ·have g57 := of_decide_eq_false h43
            refine wp_exit (ex_then (ex_then (ex_hit (nt (ws (rg ?_))))))
            refine S.qe 1 [] [(2, .v (B true))] ?_; clear S; intro ac w β S
            exact (nt (wr (S.r [B true] ⟨retB (by clear S; (first | rfl | (symm; simp only [f_monOk, f_monHead, f_monTail, Bool.and_eq_true, decide_eq_true_eq, beq_iff_eq]; (repeat' apply And.intro); all_goals first | assumption | omega | (simp_all; done) | (simp_all; omega) | (exact all_end (by omega) he) | ((have e8 : j = 8 := (by omega)); subst e8; exact hp)))), S.chg⟩)))

theorem k0_impl_HostOk {p : Prop} (h : p := by clear S; (first | (symm; rw [← Bool.not_eq_true]; intro hc; simp only [f_hostOk, f_hostHead, Bool.and_eq_true] at hc; (first | (simp_all; done) | (simp_all; omega))) | (rw [hostOk_dead (fold_dead (k := i) (by omega) stepMon_none hu (stepMon_bad (by assumption)))]) | (rw [hostOk_dead (fold_dead (k := i) (by omega) stepMon_none hu ((stepMon_ok hmok).trans (fold_dead (k := k) (by omega) stepSlot_none hu2 (stepSlot_hit (by omega) (by assumption)))))]) | (unfold f_hostOk f_hostUsed f_hostHead; rw [take_all (by omega)] at hu; rw [hu]; simp_all; done))) : p := h
set_option maxRecDepth 100000 in
theorem c_impl_HostOk (w0 : World) (h : THost) (ph : PHost) (hh : GT.rd KK (Lt w0.heap.size) w0 h ph) : Calls Tryz.prog 81 [GT.val h ph].toArray w0 (fun e w' => e = .returned (B (f_hostOk h)) ∧ Chg NoB w0 w') := by
 refine Calls.walk (args := [GT.val h ph]) NoB Tryz.func81 rfl rfl ?_
 intro ac β S
 have hleh_mem : h.mem.length ≤ 4194304 := LRd.le (RHost.mem (d := h) hh)
 have hleh_mons : h.mons.length ≤ 4194304 := LRd.le (RHost.mons (d := h) hh)
 have hleh_buf : h.buf.length ≤ 4194304 := LRd.le (RHost.buf (d := h) hh)
 have hleh_iobuf : h.iobuf.length ≤ 4194304 := LRd.le (RHost.iobuf (d := h) hh)
 refine ws (rg ?_)
 refine S.qem 2 [] [(1, .p 0 0)] 1 [(0, GT.cells h ph)] ?_; clear S; intro ac w β S
 refine (nt (ws (ws (rg ?_))))
 refine S.qb 5 [] [(12, .v (B (!(f_memOk h.mem 12))))] (.cons (Q_call fun w hw => c_impl_MemOk w h.mem ph.mem (rd_of (RHost.mem (d := h) (S.arg hh)) hw) 12) .nil) ?_; clear S; intro ac w β S
 rcases Bool.eq_false_or_eq_true (!(f_memOk h.mem 12)) with h1 | h1 <;> rw [h1] at S
 ·have h2 := not_t h1
  refine S.qe 18 [12] [(30, .v (B true))] ?_; clear S; intro ac w β S
  refine (nt (S.c true (fun _ => ?_) (fun hx => by cases hx)))
  refine ws (rg ?_)
  refine S.qe 1 [] [(2, .v (B false))] ?_; clear S; intro ac w β S
  exact (nt (wr (rt (S.r [B false] ⟨retB k0_impl_HostOk, S.chg⟩))))
 ·have h3 := not_f h1
  refine S.qb 7 [12] [(19, .v (B (!(f_within ((h.mons).length : Int) 1 3))))] (.cons (Q_call fun w hw => c_impl_within w ((h.mons).length : Int) 1 3) .nil) ?_; clear S; intro ac w β S
  rcases Bool.eq_false_or_eq_true (!(f_within ((h.mons).length : Int) 1 3)) with h4 | h4 <;> rw [h4] at S
  ·have h5 := not_t h4
   have g6 := within_f h5
   refine S.qe 11 [19] [(30, .v (B true))] ?_; clear S; intro ac w β S
   refine (nt (S.c true (fun _ => ?_) (fun hx => by cases hx)))
   refine ws (rg ?_)
   refine S.qe 1 [] [(2, .v (B false))] ?_; clear S; intro ac w β S
   exact (nt (wr (rt (S.r [B false] ⟨retB k0_impl_HostOk, S.chg⟩))))
  ·have h7 := not_f h4
   have g8 := within_t h7
   refine S.qb 6 [19] [(25, .v (B (!(f_bufferOk h.buf))))] (.cons (Q_call fun w hw => c_impl_BufferOk w h.buf ph.buf (rd_of (RHost.buf (d := h) (S.arg hh)) hw)) .nil) ?_; clear S; intro ac w β S
   rcases Bool.eq_false_or_eq_true (!(f_bufferOk h.buf)) with h9 | h9 <;> rw [h9] at S
   ·have h10 := not_t h9
    refine S.qe 5 [25] [(30, .v (B true))] ?_; clear S; intro ac w β S
    refine (nt (S.c true (fun _ => ?_) (fun hx => by cases hx)))
    refine ws (rg ?_)
    refine S.qe 1 [] [(2, .v (B false))] ?_; clear S; intro ac w β S
    exact (nt (wr (rt (S.r [B false] ⟨retB k0_impl_HostOk, S.chg⟩))))
   ·have h11 := not_f h9
    refine S.qg 5 [25] [(30, .v (B (!(f_bufferOk h.iobuf))))] (.cons (Q_call fun w hw => c_impl_BufferOk w h.iobuf ph.iobuf (rd_of (RHost.iobuf (d := h) (S.arg hh)) hw)) .nil) ?_; clear S; intro ac w β S
    refine (nt (S.c (!(f_bufferOk h.iobuf)) (fun h12 => ?_) (fun h12 => ?_)))
    ·have h13 := not_t h12
     refine ws (rg ?_)
     refine S.qe 1 [] [(2, .v (B false))] ?_; clear S; intro ac w β S
     exact (nt (wr (rt (S.r [B false] ⟨retB k0_impl_HostOk, S.chg⟩))))
    ·have h14 := not_f h12
     refine wk (nt (ws (rg ?_)))
     refine RG.op rfl (S.make (α := Bool) (m := 12) (by' := 1) (d := 31) (by kernel_rfl) (by omega) (show 12 ≤ 4194304 by omega) ?_)
     clear S; intro ac w N q15 F16 S up o17 d18
     clear up d18
     refine S.qe 1 [] [(3, .v (slv 12 q15.1))] ?_; clear S; intro ac w β S
     refine (nt (ws (ws (rg ?_))))
     refine S.qem 4 [] [(33, .v (slv (h.mons).length ph.mons.1)), (34, .v (I ((h.mons).length : Int))), (35, .v (I 0))] 0 [] ?_; clear S; intro ac w β S
     refine (nt (wp_block ?_))
     refine wp_loop_down (fun mm ac w => ∃ (i : Nat) (us : List Bool) (q19 : GT.Ptr (List Bool)) (F20 : Bl) (u : World) (N : Bl) (β : Nat → Nat), mm = h.mons.length - i ∧ (i ≤ h.mons.length) ∧ ((h.mons.take i).foldl stepMon (some (List.replicate 12 false)) = some us) ∧ (us.length = 12) ∧ St Tryz.prog Tryz.f81.ntmps w0 NoB u N β ⟨[(3, .v (slv 12 q19.1)), (33, .v (slv (h.mons).length ph.mons.1)), (34, .v (I ((h.mons).length : Int))), (35, .v (I (i : Int)))], []⟩ ac w ∧ Ow w0 NoB u N F20 us q19) _ ⟨0, (List.replicate 12 (GT.dflt : Bool)), q15, F16, _, _, _, rfl, (by first | omega | (simp; done) | (simp; omega)), (by rfl), (by rfl), S.z, o17⟩ ?_
     clear S o17
     rintro mm ac w ⟨i, us, q19, F20, u, N, β, rfl, hi, hu, hul, S, o21⟩
     refine ws (rg ?_)
     refine S.qe 1 [] [(36, .v (B (decide ((i : Int) < ((h.mons).length : Int)))))] ?_; clear S; intro ac w β S
     refine (nt (ws (S.c (decide ((i : Int) < ((h.mons).length : Int))) (fun h22 => ?_) (fun h22 => ?_))))
     ·have g23 := of_decide_eq_true h22
      refine wk (nt (ws (wp_block (ws (rg ?_)))))
      refine S.qgm 4 [] [(5, .p 0 0)] (.cons (Q_idx (RHost.mons (d := h) (S.arg hh)) (l := (h.mons).length) (k := i) (i := (i : Int)) rfl rfl (by omega) Tryz.underlying30 (by kernel_rfl)) (.cons (Q_el (RHost.mons (d := h) (S.arg hh)) (t := 65) (k := i) (by omega) rfl (by kernel_rfl) (by kernel_rfl)) .nil)) 1 [(0, GT.cells (el h.mons i) (ph.mons.2 i))] ?_; clear S; intro ac w β S
      refine (nt (ws (ws (rg ?_))))
      refine S.qg 3 [] [(41, .v (B (!(f_monOk (el h.mons i)))))] (.cons (Q_call fun w hw => c_impl_MonOk w (el h.mons i) (ph.mons.2 i) (rd_of (LRd.el (RHost.mons (d := h) (S.arg hh)) i (by omega)) hw)) .nil) ?_; clear S; intro ac w β S
      refine (nt (S.c (!(f_monOk (el h.mons i))) (fun h24 => ?_) (fun h24 => ?_)))
      ·have h25 := not_t h24
       refine ws (rg ?_)
       refine S.qe 1 [] [(2, .v (B false))] ?_; clear S; intro ac w β S
       exact (nt (wr (rt (rb (rt (rt (rb (rt (S.r [B false] ⟨retB k0_impl_HostOk, S.chg⟩)))))))))
      ·have h26 := not_f h24
       have g27 := monOk_t h26
       refine wk (nt (ws (rg ?_)))
       have b28 : ((el h.mons i).outer).length ≤ 4194304 := LRd.le (RMon.outer (d := (el h.mons i)) (LRd.el (RHost.mons (d := h) (S.arg hh)) i (by omega)))
       refine S.qem 4 [] [(43, .v (slv ((el h.mons i).outer).length ((ph.mons.2 i).outer).1)), (44, .v (I (((el h.mons i).outer).length : Int))), (45, .v (I 0))] 0 [] ?_; clear S; intro ac w β S
       refine (nt (wp_block ?_))
       refine wp_loop_down (fun mm ac w => ∃ (k : Nat) (us2 : List Bool) (q29 : GT.Ptr (List Bool)) (F30 : Bl) (u : World) (N : Bl) (β : Nat → Nat), mm = (el h.mons i).outer.length - k ∧ (k ≤ (el h.mons i).outer.length) ∧ (((el h.mons i).outer.take k).foldl stepSlot (some us) = some us2) ∧ (us2.length = 12) ∧ St Tryz.prog Tryz.f81.ntmps w0 NoB u N β ⟨[(3, .v (slv 12 q29.1)), (33, .v (slv (h.mons).length ph.mons.1)), (34, .v (I ((h.mons).length : Int))), (35, .v (I (i : Int))), (43, .v (slv ((el h.mons i).outer).length ((ph.mons.2 i).outer).1)), (44, .v (I (((el h.mons i).outer).length : Int))), (45, .v (I (k : Int)))], []⟩ ac w ∧ Ow w0 NoB u N F30 us2 q29) _ ⟨0, us, q19, F20, _, _, _, rfl, (by first | omega | (simp; done) | (simp; omega)), (by rfl), (by omega), S.z, o21⟩ ?_
       clear S o21
       rintro mm ac w ⟨k, us2, q29, F30, u, N, β, rfl, hk, hu2, hul2, S, o31⟩
       have hmok : f_monOk (el h.mons i) = true := by assumption
       have hpg := page_lt hmok k
       have hol := (monOk_t hmok).1
       refine ws (rg ?_)
       refine S.qe 1 [] [(46, .v (B (decide ((k : Int) < (((el h.mons i).outer).length : Int)))))] ?_; clear S; intro ac w β S
       refine (nt (ws (S.c (decide ((k : Int) < (((el h.mons i).outer).length : Int))) (fun h32 => ?_) (fun h32 => ?_))))
       ·have g33 := of_decide_eq_true h32
        refine wk (nt (ws (wp_block (ws (rg ?_)))))
        refine S.qgm 4 [] [(7, .p 0 0)] (.cons (Q_idx (RMon.outer (d := (el h.mons i)) (LRd.el (RHost.mons (d := h) (S.arg hh)) i (by omega))) (l := ((el h.mons i).outer).length) (k := k) (i := (k : Int)) rfl rfl (by omega) Tryz.underlying61 (by kernel_rfl)) (.cons (Q_el (RMon.outer (d := (el h.mons i)) (LRd.el (RHost.mons (d := h) (S.arg hh)) i (by omega))) (t := 37) (k := k) (by omega) rfl (by kernel_rfl) (by kernel_rfl)) .nil)) 1 [(0, GT.cells (el ((el h.mons i).outer) k) ())] ?_; clear S; intro ac w β S
        refine (nt (ws (ws (rg ?_))))
        refine S.qe 3 [] [(51, .v (B (decide ((el ((el h.mons i).outer) k).page < 0))))] ?_; clear S; intro ac w β S
        refine (nt (S.c (decide ((el ((el h.mons i).outer) k).page < 0)) (fun h34 => ?_) (fun h34 => ?_)))
        ·have g35 := of_decide_eq_true h34
         refine wp_exit (ex_then (ex_hit (nt (rg ?_))))
         refine S.qgm 2 [] [(45, .v (I ((k : Int) + 1)))] (.cons (Q_add (x := (k : Int)) (y := 1) ⟨by omega, by omega⟩) .nil) 0 [] ?_; clear S; intro ac w β S
         refine (nt ?_)
         refine ⟨(el h.mons i).outer.length - (k + 1), by omega, k + 1, us2, q29, F30, _, _, _, rfl, ?_, ?_, ?_, S.z, o31⟩
         ·clear S; first | omega | (simp [*]; done) | (simp [*]; omega)
         ·clear S; (rw [fold_step (by omega), hu2]; first | exact stepSlot_neg (by omega) | exact stepSlot_new (by omega) (by assumption) | exact stepSlot_new (by omega) (by simp_all))
         ·clear S; (first | omega | (simp; omega))
        ·have g36 := of_decide_eq_false h34
         refine wk (nt (ws (ws (rg ?_))))
         refine S.qg 5 [] [(56, .v (B (el us2 (((el ((el h.mons i).outer) k).page).toNat))))] (.cons (Q_idx o31.rn (l := 12) (k := ((el ((el h.mons i).outer) k).page).toNat) (i := (el ((el h.mons i).outer) k).page) (by omega) (by omega) (by omega) Tryz.underlying62 (by kernel_rfl)) (.cons (Q_el1 o31.rn (t := 4) (k := ((el ((el h.mons i).outer) k).page).toNat) (by omega) rfl (by kernel_rfl)) .nil)) ?_; clear S; intro ac w β S
         refine (nt (S.c (el us2 (((el ((el h.mons i).outer) k).page).toNat)) (fun h37 => ?_) (fun h37 => ?_)))
         ·refine ws (rg ?_)
          refine S.qe 1 [] [(2, .v (B false))] ?_; clear S; intro ac w β S
          exact (nt (wr (rt (rb (rt (rt (rb (rb (rt (rt (rb (rt (S.r [B false] ⟨retB k0_impl_HostOk, S.chg⟩)))))))))))))
         ·refine wk (nt (rg ?_))
          refine S.qbm 4 [] [(60, .v (pt q29.1.b (q29.1.off + (((el ((el h.mons i).outer) k).page).toNat) * 1)))] (.cons (Q_idx o31.rn (l := 12) (k := ((el ((el h.mons i).outer) k).page).toNat) (i := (el ((el h.mons i).outer) k).page) (by omega) (by omega) (by omega) Tryz.underlying62 (by kernel_rfl)) .nil) 0 [] ?_; clear S; intro ac w β S
          refine RG.op rfl (S.setEl (α := Bool) o31 (t := 4) (v := B true) (k := ((el ((el h.mons i).outer) k).page).toNat) (j := 0) (off := q29.1.off + (((el ((el h.mons i).outer) k).page).toNat) * 1) (y := true) (q := ()) (Fy := NoB) (by kernel_rfl) (by kernel_rfl) (by omega) (by kernel_rfl) (by kernel_rfl) (Nat.le_of_ble_eq_true (by kernel_rfl)) (by kernel_rfl) (fun _ _ _ => ⟨NoB, trivial, fun _ h => False.elim h⟩) (fun b _ h => False.elim h) (fun b h => False.elim h) (fun b h => False.elim h) ?_)
          clear S; intro w N F39 q40 S up o38 d41 s42 n43
          clear up d41 o31 n43
          have l44 : (us2.set (((el ((el h.mons i).outer) k).page).toNat) true).length = (us2).length := List.length_set
          refine rd (nb (nt (rg ?_)))
          refine S.qg 2 [] [(45, .v (I ((k : Int) + 1)))] (.cons (Q_add (x := (k : Int)) (y := 1) ⟨by omega, by omega⟩) .nil) ?_; clear S; intro ac w β S
          refine (nt ?_)
          refine ⟨(el h.mons i).outer.length - (k + 1), by omega, k + 1, (us2.set (((el ((el h.mons i).outer) k).page).toNat) true), (q29.1, q40), F39, _, _, _, rfl, ?_, ?_, ?_, S.z, o38⟩
          ·clear S; first | omega | (simp [*]; done) | (simp [*]; omega)
          ·clear S; (rw [fold_step (by omega), hu2]; first | exact stepSlot_neg (by omega) | exact stepSlot_new (by omega) (by assumption) | exact stepSlot_new (by omega) (by simp_all))
          ·clear S; (first | omega | (simp; omega))
       ·have g45 := of_decide_eq_false h32
        refine wp_exit (ex_then (ex_then (ex_hit (nb (nt (rg ?_))))))
        refine S.qg 2 [] [(35, .v (I ((i : Int) + 1)))] (.cons (Q_add (x := (i : Int)) (y := 1) ⟨by omega, by omega⟩) .nil) ?_; clear S; intro ac w β S
        refine (nt ?_)
        refine ⟨h.mons.length - (i + 1), by omega, i + 1, us2, q29, F30, _, _, _, rfl, ?_, ?_, ?_, S.z, o31⟩
        ·clear S; first | omega | (simp [*]; done) | (simp [*]; omega)
        ·clear S; (rw [fold_step (by omega), hu, stepMon_ok (by assumption)]; rw [take_all (by omega)] at hu2; exact hu2)
        ·clear S; omega
     ·have g46 := of_decide_eq_false h22
      refine wp_exit (ex_then (ex_then (ex_hit (nt (ws (rg ?_))))))
      refine S.qe 1 [] [(2, .v (B true))] ?_; clear S; intro ac w β S
      exact (nt (wr (S.r [B true] ⟨retB k0_impl_HostOk, S.chg⟩)))

set_option maxRecDepth 100000 in
theorem c_impl_has (w0 : World) (k : Int) (length : Int) (pre0 : -9223372036854775808 < length) : Calls Tryz.prog 82 [I k, I length].toArray w0 (fun e w' => e = .returned (B (f_within k 0 (length - 1))) ∧ Chg NoB w0 w') := by
 refine Calls.walk (args := [I k, I length]) NoB Tryz.func82 rfl rfl ?_
 intro ac β S
 refine ws (rg ?_)
 refine S.qe 1 [] [] ?_; clear S; intro ac w β S
 refine (nt (ws (rg ?_)))
 refine S.qa 3 [] [(7, .v (B (decide (k ≥ 0))))] ?_; clear S; intro ac w β S
 rcases Bool.eq_false_or_eq_true (decide (k ≥ 0)) with h1 | h1 <;> rw [h1] at S
 ·have g2 := of_decide_eq_true h1
  refine S.qe 5 [7] [(4, .v (B (decide (k < length))))] ?_; clear S; intro ac w β S
  exact (nt (wr (S.r [B (decide (k < length))] ⟨retB (by clear S; (rw [Bool.eq_iff_iff]; simp [f_within]; omega)), S.chg⟩)))
 ·have g3 := of_decide_eq_false h1
  refine S.qe 5 [7] [(4, .v (B false))] ?_; clear S; intro ac w β S
  exact (nt (wr (S.r [B false] ⟨retB (by clear S; (rw [Bool.eq_iff_iff]; simp [f_within]; omega)), S.chg⟩)))

theorem k0_impl_MonAt {p : Prop} (h : p := by clear S; (first | (unfold f_monAt; rw [if_pos (by omega)]) | (unfold f_monAt; rw [if_neg (by omega)]))) : p := h
set_option maxRecDepth 100000 in
theorem c_impl_MonAt (w0 : World) (h : THost) (ph : PHost) (hh : GT.rd KK (Lt w0.heap.size) w0 h ph) (m : Int) : Calls Tryz.prog 143 [GT.val h ph, I m].toArray w0 (Ret2 NoB w0 ((f_monAt h m).1 : TMon) ((f_monAt h m).2 : Bool)) := by
 refine Calls.walk (args := [GT.val h ph, I m]) NoB Tryz.func143 rfl rfl ?_
 intro ac β S
 have hleh_mem : h.mem.length ≤ 4194304 := LRd.le (RHost.mem (d := h) hh)
 have hleh_mons : h.mons.length ≤ 4194304 := LRd.le (RHost.mons (d := h) hh)
 have hleh_buf : h.buf.length ≤ 4194304 := LRd.le (RHost.buf (d := h) hh)
 have hleh_iobuf : h.iobuf.length ≤ 4194304 := LRd.le (RHost.iobuf (d := h) hh)
 refine ws (rg ?_)
 refine S.qem 3 [] [(2, .p 0 0), (4, .p 1 0)] 2 [(0, GT.cells h ph), (1, Zc TMon)] ?_; clear S; intro ac w β S
 refine (nt (ws (ws (rg ?_))))
 refine S.qg 6 [] [(11, .v (B (!(f_within m 0 (((h.mons).length : Int) - 1)))))] (.cons (Q_call fun w hw => c_impl_has w m ((h.mons).length : Int) (by omega)) .nil) ?_; clear S; intro ac w β S
 refine (nt (S.c (!(f_within m 0 (((h.mons).length : Int) - 1))) (fun h1 => ?_) (fun h1 => ?_)))
 ·have h2 := not_t h1
  have g3 := within_f h2
  refine ws (rg ?_)
  refine S.qgm 3 [] [(5, .v (B false))] (.cons (Q_sem (s := Instr.build 65 [].toArray) (v := .agg [slv (([] : List TSlot)).length (GT.pdflt (α := List TSlot)).1, slv (([] : List (List Int))).length (GT.pdflt (α := List (List Int))).1, slv (([] : List Bool)).length (GT.pdflt (α := List Bool)).1, slv (([] : List TGuest)).length (GT.pdflt (α := List TGuest)).1, slv (([] : List Int)).length (GT.pdflt (α := List Int)).1, I 0, I 0, slv (([] : List TKept)).length (GT.pdflt (α := List TKept)).1, I 0].toArray) (fun w => by kernel_rfl)) .nil) 2 [(1, [slv (([] : List TSlot)).length (GT.pdflt (α := List TSlot)).1, slv (([] : List (List Int))).length (GT.pdflt (α := List (List Int))).1, slv (([] : List Bool)).length (GT.pdflt (α := List Bool)).1, slv (([] : List TGuest)).length (GT.pdflt (α := List TGuest)).1, slv (([] : List Int)).length (GT.pdflt (α := List Int)).1, I 0, I 0, slv (([] : List TKept)).length (GT.pdflt (α := List TKept)).1, I 0])] ?_; clear S; intro ac w β S
  refine (nt (wr (rt (S.r [GT.val (⟨([] : List TSlot), ([] : List (List Int)), ([] : List Bool), ([] : List TGuest), ([] : List Int), 0, 0, ([] : List TKept), 0⟩ : TMon) (⟨(GT.pdflt (α := List TSlot)), (GT.pdflt (α := List (List Int))), (GT.pdflt (α := List Bool)), (GT.pdflt (α := List TGuest)), (GT.pdflt (α := List Int)), (GT.pdflt (α := List TKept))⟩ : PMon), B false] ?_))))
  have o4 := S.nilOw (α := TSlot)
  have o5 := S.nilOw (α := List Int)
  have o6 := S.nilOw (α := Bool)
  have o7 := S.nilOw (α := TGuest)
  have o8 := S.nilOw (α := Int)
  have o9 := S.nilOw (α := TKept)
  have o10 := ow_Mon (x := (⟨([] : List TSlot), ([] : List (List Int)), ([] : List Bool), ([] : List TGuest), ([] : List Int), 0, 0, ([] : List TKept), 0⟩ : TMon)) (p := (⟨(GT.pdflt (α := List TSlot)), (GT.pdflt (α := List (List Int))), (GT.pdflt (α := List Bool)), (GT.pdflt (α := List TGuest)), (GT.pdflt (α := List Int)), (GT.pdflt (α := List TKept))⟩ : PMon)) o4 o5 o6 o7 o8 o9 (fun b _ h => False.elim h) (fun b _ h => False.elim h) (fun b _ h => False.elim h) (fun b _ h => False.elim h) (fun b _ h => False.elim h) (fun b _ h => False.elim h) (fun b _ h => False.elim h) (fun b _ h => False.elim h) (fun b _ h => False.elim h) (fun b _ h => False.elim h) (fun b _ h => False.elim h) (fun b _ h => False.elim h) (fun b _ h => False.elim h) (fun b _ h => False.elim h) (fun b _ h => False.elim h) (show In64 0 from ⟨by decide, by decide⟩) (show In64 0 from ⟨by decide, by decide⟩) (show In64 0 from ⟨by decide, by decide⟩)
  exact ret2_of (p' := ()) S (show (f_monAt h m).1 = (⟨([] : List TSlot), ([] : List (List Int)), ([] : List Bool), ([] : List TGuest), ([] : List Int), 0, 0, ([] : List TKept), 0⟩ : TMon) from k0_impl_MonAt) (show (f_monAt h m).2 = false from k0_impl_MonAt) rfl rfl o10 trivial
 ·have h11 := not_f h1
  have g12 := within_t h11
  refine wk (nt (ws (rg ?_)))
  refine S.qb 5 [] [(17, .v (GT.val (el h.mons ((m).toNat)) (ph.mons.2 ((m).toNat))))] (.cons (Q_idx (RHost.mons (d := h) (S.arg hh)) (l := (h.mons).length) (k := (m).toNat) (i := m) rfl (by omega) (by omega) Tryz.underlying30 (by kernel_rfl)) (.cons (Q_el (RHost.mons (d := h) (S.arg hh)) (t := 65) (k := (m).toNat) (by omega) rfl (by kernel_rfl) (by kernel_rfl)) .nil)) ?_; clear S; intro ac w β S
  refine RG.op rfl (S.call1 (r := (el h.mons ((m).toNat))) (d := 18) (c_impl_copyMon w (el h.mons ((m).toNat)) (ph.mons.2 ((m).toNat)) (S.rd (LRd.el (RHost.mons (d := h) (S.arg hh)) ((m).toNat) (by omega)))) (by kernel_rfl) rfl ?_)
  clear S; intro ac w N q13 F14 S up o15 d16
  clear up d16
  have i32 : In64 (el h.mons ((m).toNat)).pend := RMon.pend (d := (el h.mons ((m).toNat))) o15.rn
  have i33 : In64 (el h.mons ((m).toNat)).traps := RMon.traps (d := (el h.mons ((m).toNat))) o15.rn
  have i37 : In64 (el h.mons ((m).toNat)).owned := RMon.owned (d := (el h.mons ((m).toNat))) o15.rn
  obtain ⟨F17, F20, F23, F26, F29, F34, o18, o21, o24, o27, o30, o35, s19, s22, s25, s28, s31, s36, d38, d39, d40, d41, d42, d43, d44, d45, d46, d47, d48, d49, d50, d51, d52⟩ := sp_Mon o15
  refine S.qem 2 [] [(5, .v (B true))] 2 [(1, [slv ((el h.mons ((m).toNat)).outer).length q13.outer.1, slv ((el h.mons ((m).toNat)).out).length q13.out.1, slv ((el h.mons ((m).toNat)).dirty).length q13.dirty.1, slv ((el h.mons ((m).toNat)).guests).length q13.guests.1, slv ((el h.mons ((m).toNat)).outs).length q13.outs.1, I ((el h.mons ((m).toNat)).pend), I ((el h.mons ((m).toNat)).traps), slv ((el h.mons ((m).toNat)).tables).length q13.tables.1, I ((el h.mons ((m).toNat)).owned)])] ?_; clear S; intro ac w β S
  refine (nt (wr (S.r [GT.val (el h.mons ((m).toNat)) q13, B true] ?_)))
  have o53 := ow_Mon (x := (el h.mons ((m).toNat))) (p := q13) o18 o21 o24 o27 o30 o35 d38 d39 d40 d41 d42 d43 d44 d45 d46 d47 d48 d49 d50 d51 d52 i32 i33 i37
  exact ret2_of (p' := ()) S (show (f_monAt h m).1 = (el h.mons ((m).toNat)) from k0_impl_MonAt) (show (f_monAt h m).2 = true from k0_impl_MonAt) rfl rfl o53 trivial

theorem k0_impl_SlotAt {p : Prop} (h : p := by clear S; (first | (unfold f_slotAt; rw [if_pos (by omega)]) | (unfold f_slotAt; rw [if_neg (by omega)]))) : p := h
set_option maxRecDepth 100000 in
theorem c_impl_SlotAt (w0 : World) (t : List TSlot) (pt : LP TSlot) (ht : GT.rd KK (Lt w0.heap.size) w0 t pt) (page : Int) : Calls Tryz.prog 175 [slv (t).length pt.1, I page].toArray w0 (fun e w' => e = .returned (GT.val (f_slotAt t page) ()) ∧ Chg NoB w0 w') := by
 refine Calls.walk (args := [slv (t).length pt.1, I page]) NoB Tryz.func175 rfl rfl ?_
 intro ac β S
 have hlet : t.length ≤ 4194304 := LRd.le ht
 refine ws (rg ?_)
 refine S.qem 1 [] [(4, .p 0 0)] 1 [(0, Zc TSlot)] ?_; clear S; intro ac w β S
 refine (nt (ws (ws (rg ?_))))
 refine S.qg 5 [] [(9, .v (B (!(f_within page 0 (((t).length : Int) - 1)))))] (.cons (Q_call fun w hw => c_impl_has w page ((t).length : Int) (by omega)) .nil) ?_; clear S; intro ac w β S
 refine (nt (S.c (!(f_within page 0 (((t).length : Int) - 1))) (fun h1 => ?_) (fun h1 => ?_)))
 ·have h2 := not_t h1
  have g3 := within_f h2
  refine ws (rg ?_)
  refine S.qgm 2 [] [] (.cons (Q_call fun w hw => c_impl_NoSlot w ) .nil) 1 [(0, GT.cells ((⟨-1, 0⟩ : TSlot)) ())] ?_; clear S; intro ac w β S
  exact (nt (wr (rt (S.r [GT.val ((⟨-1, 0⟩ : TSlot)) ()] ⟨retV (p := ()) k0_impl_SlotAt, S.chg⟩))))
 ·have h4 := not_f h1
  have g5 := within_t h4
  refine wk (nt (ws (rg ?_)))
  refine S.qgm 5 [] [] (.cons (Q_idx (S.arg ht) (l := (t).length) (k := (page).toNat) (i := page) rfl (by omega) (by omega) Tryz.underlying61 (by kernel_rfl)) (.cons (Q_el (S.arg ht) (t := 37) (k := (page).toNat) (by omega) rfl (by kernel_rfl) (by kernel_rfl)) .nil)) 1 [(0, GT.cells (el t ((page).toNat)) ())] ?_; clear S; intro ac w β S
  exact (nt (wr (S.r [GT.val (el t ((page).toNat)) ()] ⟨retV (p := ()) k0_impl_SlotAt, S.chg⟩)))

theorem k0_impl_PageAt {p : Prop} (h : p := by clear S; (first | (unfold f_pageAt; rw [if_pos (by omega)]; done) | (unfold f_pageAt; rw [if_pos (by omega)]; first | rfl | (simp; done)) | (unfold f_pageAt; rw [if_neg (by omega)]; done) | (unfold f_pageAt; rw [if_neg (by omega)]; first | rfl | (simp; done)))) : p := h
set_option maxRecDepth 100000 in
theorem c_impl_PageAt (w0 : World) (m : List (List Int)) (pm : LP (List Int)) (hm : GT.rd KK (Lt w0.heap.size) w0 m pm) (page : Int) : Calls Tryz.prog 176 [slv (m).length pm.1, I page].toArray w0 (Ret1 NoB w0 (f_pageAt m page : List Int)) := by
 refine Calls.walk (args := [slv (m).length pm.1, I page]) NoB Tryz.func176 rfl rfl ?_
 intro ac β S
 have hlem : m.length ≤ 4194304 := LRd.le hm
 refine ws (rg ?_)
 refine S.qe 1 [] [] ?_; clear S; intro ac w β S
 refine (nt (ws (ws (rg ?_))))
 refine S.qg 5 [] [(9, .v (B (!(f_within page 0 (((m).length : Int) - 1)))))] (.cons (Q_call fun w hw => c_impl_has w page ((m).length : Int) (by omega)) .nil) ?_; clear S; intro ac w β S
 refine (nt (S.c (!(f_within page 0 (((m).length : Int) - 1))) (fun h1 => ?_) (fun h1 => ?_)))
 ·have h2 := not_t h1
  have g3 := within_f h2
  refine ws (rg ?_)
  refine RG.op rfl (S.make (α := Int) (m := 4) (by' := 8) (d := 10) (by kernel_rfl) (by omega) (show 4 ≤ 4194304 by omega) ?_)
  clear S; intro ac w N q4 F5 S up o6 d7
  clear up d7
  refine S.qe 1 [] [(4, .v (slv 4 q4.1))] ?_; clear S; intro ac w β S
  exact (nt (wr (rt (S.r [slv 4 q4.1] (ret1_of S (show f_pageAt m page = (List.replicate 4 (GT.dflt : Int)) from k0_impl_PageAt) (by rw [show 4 = ((List.replicate 4 (GT.dflt : Int))).length from (by simp)]; rfl) o6)))))
 ·have h8 := not_f h1
  have g9 := within_t h8
  refine wk (nt (ws (rg ?_)))
  refine S.qb 4 [] [(14, .v (slv ((el m ((page).toNat))).length (pm.2 ((page).toNat)).1))] (.cons (Q_idx (S.arg hm) (l := (m).length) (k := (page).toNat) (i := page) rfl (by omega) (by omega) Tryz.underlying22 (by kernel_rfl)) (.cons (Q_el1 (S.arg hm) (t := 55) (k := (page).toNat) (by omega) rfl (by kernel_rfl)) .nil)) ?_; clear S; intro ac w β S
  refine RG.op rfl (S.call1 (r := (el m ((page).toNat))) (d := 15) (c_impl_copyInts w (el m ((page).toNat)) (pm.2 ((page).toNat)) (S.rd (LRd.el (S.arg hm) ((page).toNat) (by omega)))) (by kernel_rfl) rfl ?_)
  clear S; intro ac w N q10 F11 S up o12 d13
  clear up d13
  refine S.qe 1 [] [(4, .v (slv ((el m ((page).toNat))).length q10.1))] ?_; clear S; intro ac w β S
  exact (nt (wr (S.r [slv ((el m ((page).toNat))).length q10.1] (ret1_of S (show f_pageAt m page = (el m ((page).toNat)) from k0_impl_PageAt) rfl o12))))

theorem k0_impl_PageOf {p : Prop} (h : p := by clear S; (unfold f_pageOf; (repeat' split) <;> first | rfl | (exfalso; omega) | (exfalso; simp_all; done) | (exfalso; simp_all; omega))) : p := h
set_option maxRecDepth 100000 in
theorem c_impl_PageOf (w0 : World) (h : THost) (ph : PHost) (hh : GT.rd KK (Lt w0.heap.size) w0 h ph) (m : Int) (page : Int) : Calls Tryz.prog 144 [GT.val h ph, I m, I page].toArray w0 (Ret1 NoB w0 (f_pageOf h m page : List Int)) := by
 refine Calls.walk (args := [GT.val h ph, I m, I page]) NoB Tryz.func144 rfl rfl ?_
 intro ac β S
 have hleh_mem : h.mem.length ≤ 4194304 := LRd.le (RHost.mem (d := h) hh)
 have hleh_mons : h.mons.length ≤ 4194304 := LRd.le (RHost.mons (d := h) hh)
 have hleh_buf : h.buf.length ≤ 4194304 := LRd.le (RHost.buf (d := h) hh)
 have hleh_iobuf : h.iobuf.length ≤ 4194304 := LRd.le (RHost.iobuf (d := h) hh)
 refine ws (rg ?_)
 refine S.qem 2 [] [(3, .p 0 0)] 1 [(0, GT.cells h ph)] ?_; clear S; intro ac w β S
 refine (nt (ws (ws (rg ?_))))
 refine S.qb 7 [] [(15, .v (B (!(f_within m 0 (((h.mons).length : Int) - 1)))))] (.cons (Q_call fun w hw => c_impl_has w m ((h.mons).length : Int) (by omega)) .nil) ?_; clear S; intro ac w β S
 rcases Bool.eq_false_or_eq_true (!(f_within m 0 (((h.mons).length : Int) - 1))) with h1 | h1 <;> rw [h1] at S
 ·have h2 := not_t h1
  have g3 := within_f h2
  refine S.qe 4 [15] [(19, .v (B true))] ?_; clear S; intro ac w β S
  refine (nt (S.c true (fun _ => ?_) (fun hx => by cases hx)))
  refine ws (rg ?_)
  refine RG.op rfl (S.make (α := Int) (m := 4) (by' := 8) (d := 20) (by kernel_rfl) (by omega) (show 4 ≤ 4194304 by omega) ?_)
  clear S; intro ac w N q4 F5 S up o6 d7
  clear up d7
  refine S.qe 1 [] [(6, .v (slv 4 q4.1))] ?_; clear S; intro ac w β S
  exact (nt (wr (rt (S.r [slv 4 q4.1] (ret1_of S (show f_pageOf h m page = (List.replicate 4 (GT.dflt : Int)) from k0_impl_PageOf) (by rw [show 4 = ((List.replicate 4 (GT.dflt : Int))).length from (by simp)]; rfl) o6)))))
 ·have h8 := not_f h1
  have g9 := within_t h8
  refine S.qg 4 [15] [(19, .v (B (!(f_within page 0 (8 - 1)))))] (.cons (Q_call fun w hw => c_impl_has w page 8 (by omega)) .nil) ?_; clear S; intro ac w β S
  refine (nt (S.c (!(f_within page 0 (8 - 1))) (fun h10 => ?_) (fun h10 => ?_)))
  ·have h11 := not_t h10
   have g12 := within_f h11
   refine ws (rg ?_)
   refine RG.op rfl (S.make (α := Int) (m := 4) (by' := 8) (d := 20) (by kernel_rfl) (by omega) (show 4 ≤ 4194304 by omega) ?_)
   clear S; intro ac w N q13 F14 S up o15 d16
   clear up d16
   refine S.qe 1 [] [(6, .v (slv 4 q13.1))] ?_; clear S; intro ac w β S
   exact (nt (wr (rt (S.r [slv 4 q13.1] (ret1_of S (show f_pageOf h m page = (List.replicate 4 (GT.dflt : Int)) from k0_impl_PageOf) (by rw [show 4 = ((List.replicate 4 (GT.dflt : Int))).length from (by simp)]; rfl) o15)))))
  ·have h17 := not_f h10
   have g18 := within_t h17
   refine wk (nt (ws (rg ?_)))
   refine S.qgm 7 [] [(7, .p 1 0)] (.cons (Q_idx (RHost.mons (d := h) (S.arg hh)) (l := (h.mons).length) (k := (m).toNat) (i := m) rfl (by omega) (by omega) Tryz.underlying30 (by kernel_rfl)) (.cons (Q_el (RHost.mons (d := h) (S.arg hh)) (t := 65) (k := (m).toNat) (by omega) rfl (by kernel_rfl) (by kernel_rfl)) .nil)) 2 [(1, GT.cells (el h.mons ((m).toNat)) (ph.mons.2 ((m).toNat)))] ?_; clear S; intro ac w β S
   refine (nt (ws (ws (rg ?_))))
   refine S.qgm 6 [] [(8, .p 2 0)] (.cons (Q_call fun w hw => c_impl_SlotAt w ((el h.mons ((m).toNat)).outer) ((ph.mons.2 ((m).toNat)).outer) (rd_of (RMon.outer (d := (el h.mons ((m).toNat))) (LRd.el (RHost.mons (d := h) (S.arg hh)) ((m).toNat) (by omega))) hw) page) .nil) 3 [(2, GT.cells (f_slotAt ((el h.mons ((m).toNat)).outer) page) ())] ?_; clear S; intro ac w β S
   refine (nt (ws (rg ?_)))
   refine S.qe 3 [] [(32, .v (B ((f_slotAt ((el h.mons ((m).toNat)).outer) page).page != (-1))))] ?_; clear S; intro ac w β S
   refine (nt (S.c ((f_slotAt ((el h.mons ((m).toNat)).outer) page).page != (-1)) (fun h19 => ?_) (fun h19 => ?_)))
   ·have g20 : ¬ ((f_slotAt ((el h.mons ((m).toNat)).outer) page).page = (-1)) := bne_iff_ne.1 h19
    refine ws (rg ?_)
    refine S.qam 4 [] [(34, .v (slv (h.mem).length ph.mem.1)), (36, .v (I ((f_slotAt ((el h.mons ((m).toNat)).outer) page).page)))] 0 [] ?_; clear S; intro ac w β S
    refine RG.op rfl (S.call1 (r := f_pageAt h.mem ((f_slotAt ((el h.mons ((m).toNat)).outer) page).page)) (d := 37) (c_impl_PageAt w h.mem ph.mem (S.rd (RHost.mem (d := h) (S.arg hh))) ((f_slotAt ((el h.mons ((m).toNat)).outer) page).page)) (by kernel_rfl) rfl ?_)
    clear S; intro ac w N q21 F22 S up o23 d24
    clear up d24
    refine S.qe 1 [] [(6, .v (slv ((f_pageAt h.mem ((f_slotAt ((el h.mons ((m).toNat)).outer) page).page))).length q21.1))] ?_; clear S; intro ac w β S
    exact (nt (wr (rt (S.r [slv ((f_pageAt h.mem ((f_slotAt ((el h.mons ((m).toNat)).outer) page).page))).length q21.1] (ret1_of S (show f_pageOf h m page = (f_pageAt h.mem ((f_slotAt ((el h.mons ((m).toNat)).outer) page).page)) from k0_impl_PageOf) rfl o23)))))
   ·have g25 : (f_slotAt ((el h.mons ((m).toNat)).outer) page).page = (-1) := ne_f h19
    refine wk (nt (ws (rg ?_)))
    refine S.qam 3 [] [(39, .v (slv ((el h.mons ((m).toNat)).out).length ((ph.mons.2 ((m).toNat)).out).1)), (40, .v (I page))] 0 [] ?_; clear S; intro ac w β S
    refine RG.op rfl (S.call1 (r := f_pageAt ((el h.mons ((m).toNat)).out) page) (d := 41) (c_impl_PageAt w ((el h.mons ((m).toNat)).out) ((ph.mons.2 ((m).toNat)).out) (S.rd (RMon.out (d := (el h.mons ((m).toNat))) (LRd.el (RHost.mons (d := h) (S.arg hh)) ((m).toNat) (by omega)))) page) (by kernel_rfl) rfl ?_)
    clear S; intro ac w N q26 F27 S up o28 d29
    clear up d29
    refine S.qe 1 [] [(6, .v (slv ((f_pageAt ((el h.mons ((m).toNat)).out) page)).length q26.1))] ?_; clear S; intro ac w β S
    exact (nt (wr (S.r [slv ((f_pageAt ((el h.mons ((m).toNat)).out) page)).length q26.1] (ret1_of S (show f_pageOf h m page = (f_pageAt ((el h.mons ((m).toNat)).out) page) from k0_impl_PageOf) rfl o28))))

theorem k0_impl_SeenAs {p : Prop} (h : p := by clear S; (first | (unfold f_seenAs; rw [if_neg (monAt_f (by assumption))]; done) | (unfold f_seenAs; rw [if_pos (monAt_t (by assumption)), monAt_1 (monAt_t (by assumption)), hacc, show i = 8 by omega]))) : p := h
set_option maxRecDepth 100000 in
theorem c_impl_SeenAs (w0 : World) (h : THost) (ph : PHost) (hh : GT.rd KK (Lt w0.heap.size) w0 h ph) (m : Int) : Calls Tryz.prog 83 [GT.val h ph, I m].toArray w0 (Ret1 NoB w0 (f_seenAs h m : TBare)) := by
 refine Calls.walk (args := [GT.val h ph, I m]) NoB Tryz.func83 rfl rfl ?_
 intro ac β S
 have hleh_mem : h.mem.length ≤ 4194304 := LRd.le (RHost.mem (d := h) hh)
 have hleh_mons : h.mons.length ≤ 4194304 := LRd.le (RHost.mons (d := h) hh)
 have hleh_buf : h.buf.length ≤ 4194304 := LRd.le (RHost.buf (d := h) hh)
 have hleh_iobuf : h.iobuf.length ≤ 4194304 := LRd.le (RHost.iobuf (d := h) hh)
 refine ws (rg ?_)
 refine S.qem 2 [] [(2, .p 0 0), (4, .p 1 0)] 2 [(0, GT.cells h ph), (1, Zc TBare)] ?_; clear S; intro ac w β S
 refine (nt (ws (rg ?_)))
 refine S.qa 2 [] [(10, .v (GT.val h ph)), (11, .v (I m))] ?_; clear S; intro ac w β S
 refine RG.op rfl (S.call2 (r := (f_monAt h m).1) (r' := (f_monAt h m).2) (d := 12) (c_impl_MonAt w h ph (S.rd (S.arg hh)) m) (by kernel_rfl) rfl ?_)
 clear S; intro ac w N q1 q2 F3 F4 S up o5 o6 d7 d8 d9
 clear up d7
 clear d8
 have i25 : In64 ((f_monAt h m).1).pend := RMon.pend (d := ((f_monAt h m).1)) o5.rn
 have i26 : In64 ((f_monAt h m).1).traps := RMon.traps (d := ((f_monAt h m).1)) o5.rn
 have i30 : In64 ((f_monAt h m).1).owned := RMon.owned (d := ((f_monAt h m).1)) o5.rn
 obtain ⟨F10, F13, F16, F19, F22, F27, o11, o14, o17, o20, o23, o28, s12, s15, s18, s21, s24, s29, d31, d32, d33, d34, d35, d36, d37, d38, d39, d40, d41, d42, d43, d44, d45⟩ := sp_Mon o5
 refine S.qem 6 [] [(5, .p 2 0), (6, .v (B ((f_monAt h m).2)))] 3 [(2, [slv (((f_monAt h m).1).outer).length q1.outer.1, slv (((f_monAt h m).1).out).length q1.out.1, slv (((f_monAt h m).1).dirty).length q1.dirty.1, slv (((f_monAt h m).1).guests).length q1.guests.1, slv (((f_monAt h m).1).outs).length q1.outs.1, I (((f_monAt h m).1).pend), I (((f_monAt h m).1).traps), slv (((f_monAt h m).1).tables).length q1.tables.1, I (((f_monAt h m).1).owned)])] ?_; clear S; intro ac w β S
 refine (nt (ws (ws (rg ?_))))
 refine S.qe 2 [] [(16, .v (B (!((f_monAt h m).2))))] ?_; clear S; intro ac w β S
 refine (nt (S.c (!((f_monAt h m).2)) (fun h46 => ?_) (fun h46 => ?_)))
 ·have h47 := not_t h46
  refine ws (rg ?_)
  refine S.qgm 2 [] [] (.cons (Q_sem (s := Instr.build 57 [].toArray) (v := .agg [slv (([] : List (List Int))).length (GT.pdflt (α := List (List Int))).1, slv (([] : List TGuest)).length (GT.pdflt (α := List TGuest)).1, slv (([] : List Int)).length (GT.pdflt (α := List Int)).1, I 0].toArray) (fun w => by kernel_rfl)) .nil) 2 [(1, [slv (([] : List (List Int))).length (GT.pdflt (α := List (List Int))).1, slv (([] : List TGuest)).length (GT.pdflt (α := List TGuest)).1, slv (([] : List Int)).length (GT.pdflt (α := List Int)).1, I 0])] ?_; clear S; intro ac w β S
  refine (nt (wr (rt (S.r [GT.val (⟨([] : List (List Int)), ([] : List TGuest), ([] : List Int), 0⟩ : TBare) (⟨(GT.pdflt (α := List (List Int))), (GT.pdflt (α := List TGuest)), (GT.pdflt (α := List Int))⟩ : PBare)] ?_))))
  have o48 := S.nilOw (α := List Int)
  have o49 := S.nilOw (α := TGuest)
  have o50 := S.nilOw (α := Int)
  have o51 := ow_Bare (x := (⟨([] : List (List Int)), ([] : List TGuest), ([] : List Int), 0⟩ : TBare)) (p := (⟨(GT.pdflt (α := List (List Int))), (GT.pdflt (α := List TGuest)), (GT.pdflt (α := List Int))⟩ : PBare)) o48 o49 o50 (fun b _ h => False.elim h) (fun b _ h => False.elim h) (fun b _ h => False.elim h) (show In64 0 from ⟨by decide, by decide⟩)
  exact ret1_of S (show f_seenAs h m = (⟨([] : List (List Int)), ([] : List TGuest), ([] : List Int), 0⟩ : TBare) from k0_impl_SeenAs) rfl o51
 ·have h52 := not_f h46
  refine wk (nt (ws (rg ?_)))
  refine S.qgm 9 [] [(7, .p 3 0)] (.cons (Q_sem (s := Instr.build 57 [(1, slv (((f_monAt h m).1).guests).length q1.guests.1), (2, slv (((f_monAt h m).1).outs).length q1.outs.1), (3, I (((f_monAt h m).1).pend))].toArray) (v := .agg [slv (([] : List (List Int))).length (GT.pdflt (α := List (List Int))).1, slv (((f_monAt h m).1).guests).length q1.guests.1, slv (((f_monAt h m).1).outs).length q1.outs.1, I (((f_monAt h m).1).pend)].toArray) (fun w => by kernel_rfl)) .nil) 4 [(3, [slv (([] : List (List Int))).length (GT.pdflt (α := List (List Int))).1, slv (((f_monAt h m).1).guests).length q1.guests.1, slv (((f_monAt h m).1).outs).length q1.outs.1, I (((f_monAt h m).1).pend)])] ?_; clear S; intro ac w β S
  refine (nt (ws (ws (rg ?_))))
  refine S.qe 1 [] [(8, .v (I 0))] ?_; clear S; intro ac w β S
  refine (nt (wp_block ?_))
  have o56 := S.nilOw (α := List Int)
  refine wp_loop_down (fun mm ac w => ∃ (i : Nat) (acc : List (List Int)) (q53 : GT.Ptr (List (List Int))) (F54 : Bl) (u : World) (N : Bl) (β : Nat → Nat), mm = 8 - i ∧ (i ≤ 8) ∧ (acc = (List.range i).map (fun (j : Nat) => f_pageOf h m (j : Int))) ∧ St Tryz.prog Tryz.f83.ntmps w0 NoB u N β ⟨[(1, .v (I m)), (2, .p 0 0), (4, .p 1 0), (7, .p 3 0), (8, .v (I (i : Int)))], [GT.cells h ph, Zc TBare, [slv (((f_monAt h m).1).outer).length q1.outer.1, slv (((f_monAt h m).1).out).length q1.out.1, slv (((f_monAt h m).1).dirty).length q1.dirty.1, slv (((f_monAt h m).1).guests).length q1.guests.1, slv (((f_monAt h m).1).outs).length q1.outs.1, I (((f_monAt h m).1).pend), I (((f_monAt h m).1).traps), slv (((f_monAt h m).1).tables).length q1.tables.1, I (((f_monAt h m).1).owned)], [slv (acc).length q53.1, slv (((f_monAt h m).1).guests).length q1.guests.1, slv (((f_monAt h m).1).outs).length q1.outs.1, I (((f_monAt h m).1).pend)]]⟩ ac w ∧ Ow w0 NoB u N F54 acc q53 ∧ Ow w0 NoB u N F10 (((f_monAt h m).1).outer) q1.outer ∧ Ow w0 NoB u N F13 (((f_monAt h m).1).out) q1.out ∧ Ow w0 NoB u N F16 (((f_monAt h m).1).dirty) q1.dirty ∧ Ow w0 NoB u N F19 (((f_monAt h m).1).guests) q1.guests ∧ Ow w0 NoB u N F22 (((f_monAt h m).1).outs) q1.outs ∧ Ow w0 NoB u N F27 (((f_monAt h m).1).tables) q1.tables ∧ Disj F54 F10 ∧ Disj F54 F13 ∧ Disj F54 F16 ∧ Disj F54 F19 ∧ Disj F54 F22 ∧ Disj F54 F27) _ ⟨0, ([] : List (List Int)), (GT.pdflt (α := List (List Int))), NoB, _, _, _, rfl, (by first | omega | (simp; done) | (simp; omega)), (by rfl), S.z, o56, o11, o14, o17, o20, o23, o28, (Disj.symm (fun b _ h => False.elim h)), (Disj.symm (fun b _ h => False.elim h)), (Disj.symm (fun b _ h => False.elim h)), (Disj.symm (fun b _ h => False.elim h)), (Disj.symm (fun b _ h => False.elim h)), (Disj.symm (fun b _ h => False.elim h))⟩ ?_
  clear S o11 o14 o17 o20 o23 o28 o56 o6
  rintro mm ac w ⟨i, acc, q53, F54, u, N, β, rfl, hi, hacc, S, o55, o11, o14, o17, o20, o23, o28, d57, d58, d59, d60, d61, d62⟩
  have hlacc : acc.length = i := by rw [hacc]; simp
  refine ws (ws (rg ?_))
  refine S.qe 2 [] [(26, .v (B (decide ((i : Int) < 8))))] ?_; clear S; intro ac w β S
  refine (nt (S.c (decide ((i : Int) < 8)) (fun h63 => ?_) (fun h63 => ?_)))
  ·have g64 := of_decide_eq_true h63
   refine wk (nt (ws (wp_block ?_)))
   refine S.draw0 (f := 10) 7 rfl rfl ?_
   clear S; intro w S
   refine S.hoist (i := 0) (path := [1, 0]) (keep := [1, 2, 4, 7, 8, 29]) (m := 4) (σ' := ⟨[(1, .v (I m)), (2, .p 0 0), (4, .p 1 0), (7, .p 3 0), (8, .v (I (i : Int))), (29, .p 3 0)], [GT.cells h ph, Zc TBare, [slv (((f_monAt h m).1).outer).length q1.outer.1, slv (((f_monAt h m).1).out).length q1.out.1, slv (((f_monAt h m).1).dirty).length q1.dirty.1, slv (((f_monAt h m).1).guests).length q1.guests.1, slv (((f_monAt h m).1).outs).length q1.outs.1, I (((f_monAt h m).1).pend), I (((f_monAt h m).1).traps), slv (((f_monAt h m).1).tables).length q1.tables.1, I (((f_monAt h m).1).owned)], [slv (acc).length q53.1, slv (((f_monAt h m).1).guests).length q1.guests.1, slv (((f_monAt h m).1).outs).length q1.outs.1, I (((f_monAt h m).1).pend)]]⟩) (by kernel_rfl) (by kernel_rfl) .nil (by kernel_rfl) ?_
   clear S; intro ac S
   refine S.hoist (i := 1) (path := [1]) (keep := [1, 2, 4, 7, 8, 30]) (m := 4) (σ' := ⟨[(1, .v (I m)), (2, .p 0 0), (4, .p 1 0), (7, .p 3 0), (8, .v (I (i : Int))), (30, .v (slv (acc).length q53.1))], [GT.cells h ph, Zc TBare, [slv (((f_monAt h m).1).outer).length q1.outer.1, slv (((f_monAt h m).1).out).length q1.out.1, slv (((f_monAt h m).1).dirty).length q1.dirty.1, slv (((f_monAt h m).1).guests).length q1.guests.1, slv (((f_monAt h m).1).outs).length q1.outs.1, I (((f_monAt h m).1).pend), I (((f_monAt h m).1).traps), slv (((f_monAt h m).1).tables).length q1.tables.1, I (((f_monAt h m).1).owned)], [slv (acc).length q53.1, slv (((f_monAt h m).1).guests).length q1.guests.1, slv (((f_monAt h m).1).outs).length q1.outs.1, I (((f_monAt h m).1).pend)]]⟩) (by kernel_rfl) (by kernel_rfl) .nil (by kernel_rfl) ?_
   clear S; intro ac S
   refine S.hoist (i := 2) (path := [5, 2]) (keep := [1, 2, 4, 7, 8, 30, 31]) (m := 4) (σ' := ⟨[(1, .v (I m)), (2, .p 0 0), (4, .p 1 0), (7, .p 3 0), (8, .v (I (i : Int))), (30, .v (slv (acc).length q53.1)), (31, .v (GT.val h ph))], [GT.cells h ph, Zc TBare, [slv (((f_monAt h m).1).outer).length q1.outer.1, slv (((f_monAt h m).1).out).length q1.out.1, slv (((f_monAt h m).1).dirty).length q1.dirty.1, slv (((f_monAt h m).1).guests).length q1.guests.1, slv (((f_monAt h m).1).outs).length q1.outs.1, I (((f_monAt h m).1).pend), I (((f_monAt h m).1).traps), slv (((f_monAt h m).1).tables).length q1.tables.1, I (((f_monAt h m).1).owned)], [slv (acc).length q53.1, slv (((f_monAt h m).1).guests).length q1.guests.1, slv (((f_monAt h m).1).outs).length q1.outs.1, I (((f_monAt h m).1).pend)]]⟩) (by kernel_rfl) (by kernel_rfl) .nil (by kernel_rfl) ?_
   clear S; intro ac S
   refine S.hoist (i := 3) (path := [5, 3]) (keep := [1, 2, 4, 7, 8, 30, 31, 32]) (m := 4) (σ' := ⟨[(1, .v (I m)), (2, .p 0 0), (4, .p 1 0), (7, .p 3 0), (8, .v (I (i : Int))), (30, .v (slv (acc).length q53.1)), (31, .v (GT.val h ph)), (32, .v (I m))], [GT.cells h ph, Zc TBare, [slv (((f_monAt h m).1).outer).length q1.outer.1, slv (((f_monAt h m).1).out).length q1.out.1, slv (((f_monAt h m).1).dirty).length q1.dirty.1, slv (((f_monAt h m).1).guests).length q1.guests.1, slv (((f_monAt h m).1).outs).length q1.outs.1, I (((f_monAt h m).1).pend), I (((f_monAt h m).1).traps), slv (((f_monAt h m).1).tables).length q1.tables.1, I (((f_monAt h m).1).owned)], [slv (acc).length q53.1, slv (((f_monAt h m).1).guests).length q1.guests.1, slv (((f_monAt h m).1).outs).length q1.outs.1, I (((f_monAt h m).1).pend)]]⟩) (by kernel_rfl) (by kernel_rfl) .nil (by kernel_rfl) ?_
   clear S; intro ac S
   refine S.hoist (i := 4) (path := [5, 4]) (keep := [1, 2, 4, 7, 8, 30, 31, 32, 33]) (m := 4) (σ' := ⟨[(1, .v (I m)), (2, .p 0 0), (4, .p 1 0), (7, .p 3 0), (8, .v (I (i : Int))), (30, .v (slv (acc).length q53.1)), (31, .v (GT.val h ph)), (32, .v (I m)), (33, .v (I (i : Int)))], [GT.cells h ph, Zc TBare, [slv (((f_monAt h m).1).outer).length q1.outer.1, slv (((f_monAt h m).1).out).length q1.out.1, slv (((f_monAt h m).1).dirty).length q1.dirty.1, slv (((f_monAt h m).1).guests).length q1.guests.1, slv (((f_monAt h m).1).outs).length q1.outs.1, I (((f_monAt h m).1).pend), I (((f_monAt h m).1).traps), slv (((f_monAt h m).1).tables).length q1.tables.1, I (((f_monAt h m).1).owned)], [slv (acc).length q53.1, slv (((f_monAt h m).1).guests).length q1.guests.1, slv (((f_monAt h m).1).outs).length q1.outs.1, I (((f_monAt h m).1).pend)]]⟩) (by kernel_rfl) (by kernel_rfl) .nil (by kernel_rfl) ?_
   clear S; intro ac S
   refine WD.one (i := 5) (by kernel_rfl) ?_
   refine id (S.call1 (r := f_pageOf h m (i : Int)) (d := 34) (c_impl_PageOf w h ph (S.rd (S.arg hh)) m (i : Int)) (by kernel_rfl) rfl ?_)
   clear S; intro ac w N q65 F66 S up o67 d68
   refine WD.next S up rfl ?_
   have d69 : Disj F54 F66 := fun b x y => d68 b (o55.sub b x) y
   have d70 : Disj F10 F66 := fun b x y => d68 b (o11.sub b x) y
   have d71 : Disj F13 F66 := fun b x y => d68 b (o14.sub b x) y
   have d72 : Disj F16 F66 := fun b x y => d68 b (o17.sub b x) y
   have d73 : Disj F19 F66 := fun b x y => d68 b (o20.sub b x) y
   have d74 : Disj F22 F66 := fun b x y => d68 b (o23.sub b x) y
   have d75 : Disj F27 F66 := fun b x y => d68 b (o28.sub b x) y
   replace o55 := o55.up up
   replace o11 := o11.up up
   replace o14 := o14.up up
   replace o17 := o17.up up
   replace o20 := o20.up up
   replace o23 := o23.up up
   replace o28 := o28.up up
   clear up d68
   refine WD.one (i := 6) (by kernel_rfl) ?_
   refine id (S.bs1 (α := List Int) (x := (f_pageOf h m (i : Int))) (p := q65) o67.own o67.sub o67.young (d := 35) (by kernel_rfl) ?_)
   clear S; intro ac w N q76 F77 S up o78 d79
   refine WD.next S up rfl ?_
   have d80 : Disj F54 F77 := d79 _ d69 o55.sub
   have d81 : Disj F10 F77 := d79 _ d70 o11.sub
   have d82 : Disj F13 F77 := d79 _ d71 o14.sub
   have d83 : Disj F16 F77 := d79 _ d72 o17.sub
   have d84 : Disj F19 F77 := d79 _ d73 o20.sub
   have d85 : Disj F22 F77 := d79 _ d74 o23.sub
   have d86 : Disj F27 F77 := d79 _ d75 o28.sub
   replace o55 := o55.up up
   replace o11 := o11.up up
   replace o14 := o14.up up
   replace o17 := o17.up up
   replace o20 := o20.up up
   replace o23 := o23.up up
   replace o28 := o28.up up
   clear up d79
   refine WD.one (i := 7) (by kernel_rfl) ?_
   refine id (S.appOwn (α := List Int) o55 o78 d80 (by' := 24) (d := 36) (lx := (acc).length) (ly := 1) rfl rfl (by kernel_rfl) (show _ ≤ 4194304 by simp only [List.length_append, List.length_cons, List.length_nil]; omega) ?_)
   clear S; intro ac w N q87 F88 S up o89 d90
   refine WD.last (by kernel_rfl) ?_
   have d91 : Disj F10 F88 := d90 _ (Disj.symm d57) d81 o11.sub
   have d92 : Disj F13 F88 := d90 _ (Disj.symm d58) d82 o14.sub
   have d93 : Disj F16 F88 := d90 _ (Disj.symm d59) d83 o17.sub
   have d94 : Disj F19 F88 := d90 _ (Disj.symm d60) d84 o20.sub
   have d95 : Disj F22 F88 := d90 _ (Disj.symm d61) d85 o23.sub
   have d96 : Disj F27 F88 := d90 _ (Disj.symm d62) d86 o28.sub
   replace o11 := o11.upF (Disj.symm d57) up
   replace o14 := o14.upF (Disj.symm d58) up
   replace o17 := o17.upF (Disj.symm d59) up
   replace o20 := o20.upF (Disj.symm d60) up
   replace o23 := o23.upF (Disj.symm d61) up
   replace o28 := o28.upF (Disj.symm d62) up
   clear up d90
   refine WD.one (i := 8) (by kernel_rfl) ?_
   refine S.stepq (i := 8) (keep := [1, 2, 4, 7, 8, 36, 37]) (m := 4) (σ' := ⟨[(1, .v (I m)), (2, .p 0 0), (4, .p 1 0), (7, .p 3 0), (8, .v (I (i : Int))), (36, .v (slv ((acc ++ [(f_pageOf h m (i : Int))])).length q87.1)), (37, .p 3 0)], [GT.cells h ph, Zc TBare, [slv (((f_monAt h m).1).outer).length q1.outer.1, slv (((f_monAt h m).1).out).length q1.out.1, slv (((f_monAt h m).1).dirty).length q1.dirty.1, slv (((f_monAt h m).1).guests).length q1.guests.1, slv (((f_monAt h m).1).outs).length q1.outs.1, I (((f_monAt h m).1).pend), I (((f_monAt h m).1).traps), slv (((f_monAt h m).1).tables).length q1.tables.1, I (((f_monAt h m).1).owned)], [slv (acc).length q53.1, slv (((f_monAt h m).1).guests).length q1.guests.1, slv (((f_monAt h m).1).outs).length q1.outs.1, I (((f_monAt h m).1).pend)]]⟩) .nil (by kernel_rfl) ?_
   clear S; intro ac w β S hβ
   refine WD.last (by kernel_rfl) ?_
   clear hβ
   refine WD.one (i := 9) (by kernel_rfl) ?_
   refine S.stepq (i := 9) (keep := [1, 2, 4, 7, 8]) (m := 4) (σ' := ⟨[(1, .v (I m)), (2, .p 0 0), (4, .p 1 0), (7, .p 3 0), (8, .v (I (i : Int)))], [GT.cells h ph, Zc TBare, [slv (((f_monAt h m).1).outer).length q1.outer.1, slv (((f_monAt h m).1).out).length q1.out.1, slv (((f_monAt h m).1).dirty).length q1.dirty.1, slv (((f_monAt h m).1).guests).length q1.guests.1, slv (((f_monAt h m).1).outs).length q1.outs.1, I (((f_monAt h m).1).pend), I (((f_monAt h m).1).traps), slv (((f_monAt h m).1).tables).length q1.tables.1, I (((f_monAt h m).1).owned)], [slv ((acc ++ [(f_pageOf h m (i : Int))])).length q87.1, slv (((f_monAt h m).1).guests).length q1.guests.1, slv (((f_monAt h m).1).outs).length q1.outs.1, I (((f_monAt h m).1).pend)]]⟩) .nil (by kernel_rfl) ?_
   clear S; intro ac w β S hβ
   refine WD.last (by kernel_rfl) ?_
   clear hβ
   refine WD.done (by kernel_rfl) ?_ _
   refine id (nb (nt (rg ?_)))
   refine S.qg 3 [] [(8, .v (I ((i : Int) + 1)))] (.cons (Q_add (x := (i : Int)) (y := 1) ⟨by omega, by omega⟩) .nil) ?_; clear S; intro ac w β S
   refine (nt ?_)
   refine ⟨8 - (i + 1), by omega, i + 1, (acc ++ [(f_pageOf h m (i : Int))]), q87, F88, _, _, _, rfl, ?_, ?_, S.z, o89, o11, o14, o17, o20, o23, o28, (Disj.symm d91), (Disj.symm d92), (Disj.symm d93), (Disj.symm d94), (Disj.symm d95), (Disj.symm d96)⟩
   ·clear S; first | omega | (simp [*]; done) | (simp [*]; omega)
   ·clear S; (rw [rmap_step, ← hacc])
  ·have g97 := of_decide_eq_false h63
   refine wp_exit (ex_then (ex_then (ex_hit (nt (ws (rg ?_))))))
   refine S.qem 2 [] [] 2 [(1, [slv (acc).length q53.1, slv (((f_monAt h m).1).guests).length q1.guests.1, slv (((f_monAt h m).1).outs).length q1.outs.1, I (((f_monAt h m).1).pend)])] ?_; clear S; intro ac w β S
   refine (nt (wr (S.r [GT.val (⟨acc, ((f_monAt h m).1).guests, ((f_monAt h m).1).outs, ((f_monAt h m).1).pend⟩ : TBare) (⟨q53, q1.guests, q1.outs⟩ : PBare)] ?_)))
   have o98 := ow_Bare (x := (⟨acc, ((f_monAt h m).1).guests, ((f_monAt h m).1).outs, ((f_monAt h m).1).pend⟩ : TBare)) (p := (⟨q53, q1.guests, q1.outs⟩ : PBare)) o55 o20 o23 d60 d61 d43 i25
   exact ret1_of S (show f_seenAs h m = (⟨acc, ((f_monAt h m).1).guests, ((f_monAt h m).1).outs, ((f_monAt h m).1).pend⟩ : TBare) from k0_impl_SeenAs) rfl o98

theorem k0_impl_reflected {p : Prop} (h : p := by clear S; (first | (unfold f_reflected; rw [if_neg (by rintro ⟨⟨h1, h2, h3⟩, h4⟩; first | omega | simp_all)]; done) | (unfold f_reflected; rw [if_pos ⟨⟨by assumption, by omega, by omega⟩, by assumption⟩]; unfold f_back; rw [← back_two (by omega)]; done) | (unfold f_reflected; rw [if_pos ⟨⟨by assumption, by omega, by omega⟩, by assumption⟩]; done))) : p := h
theorem k1_impl_reflected {p : Prop} (h : p := by clear S; (first | (unfold f_ackN; rw [if_pos ⟨by assumption, by omega, by omega⟩]; done) | (unfold f_ackN; rw [if_neg (by rintro ⟨h1, h2, h3⟩; first | omega | simp_all)]; done))) : p := h
set_option maxRecDepth 100000 in
theorem c_impl_reflected (w0 : World) (F : Bl) (h : THost) (ph : PHost) (Gh : Bl) (hh : GT.rd KK Gh w0 h ph) (gh : ∀ b, Gh b → b < w0.heap.size ∧ ¬ F b) (m : Int) (n : Int) (qn : LP Int) (hn : GT.own KK F w0 [n] qn) (hF : ∀ b, F b → b < w0.heap.size) : Calls Tryz.prog 38 [GT.val h ph, I m, .func (.func 63) #[] #[pt qn.1.b (qn.1.off + 0 * 1)]].toArray w0 (Ret2W F qn w0 ((f_reflected h m (f_ackPair (f_seenAs h m))).1 : THost) ((f_reflected h m (f_ackPair (f_seenAs h m))).2 : Bool) (f_ackN h m n)) := by
 refine Calls.walk (args := [GT.val h ph, I m, .func (.func 63) #[] #[pt qn.1.b (qn.1.off + 0 * 1)]]) F Tryz.func38 rfl rfl ?_
 intro ac β S
 have on : Ow w0 F w0 (Lt w0.heap.size) F [n] qn := ⟨hn, hF, fun b hb => .inr hb⟩
 have hleh_mem : h.mem.length ≤ 4194304 := LRd.le (RHost.mem (d := h) hh)
 have hleh_mons : h.mons.length ≤ 4194304 := LRd.le (RHost.mons (d := h) hh)
 have hleh_buf : h.buf.length ≤ 4194304 := LRd.le (RHost.buf (d := h) hh)
 have hleh_iobuf : h.iobuf.length ≤ 4194304 := LRd.le (RHost.iobuf (d := h) hh)
 refine ws (rg ?_)
 refine S.qem 3 [] [(3, .p 0 0), (6, .p 1 0)] 2 [(0, GT.cells h ph), (1, Zc THost)] ?_; clear S; intro ac w β S
 refine (nt (ws (rg ?_)))
 refine S.qa 1 [] [(11, .v (GT.val h ph))] ?_; clear S; intro ac w β S
 refine RG.op rfl (S.call1 (r := h) (d := 12) (c_impl_copyHost w h ph (S.rd (S.argG hh gh))) (by kernel_rfl) rfl ?_)
 clear S; intro ac w N q1 F2 S up o3 d4
 have d5 : Disj F F2 := fun b x y => d4 b (on.sub b x) y
 replace on := on.up up
 clear up d4
 obtain ⟨F6, F9, F12, F15, o7, o10, o13, o16, s8, s11, s14, s17, d18, d19, d20, d21, d22, d23⟩ := sp_Host o3
 refine S.qem 2 [] [(8, .p 2 0)] 3 [(2, [slv (h.mem).length q1.mem.1, slv (h.mons).length q1.mons.1, slv (h.buf).length q1.buf.1, slv (h.iobuf).length q1.iobuf.1])] ?_; clear S; intro ac w β S
 refine (nt (ws (ws (rg ?_))))
 refine S.qb 4 [] [(16, .v (B (!(f_hostOk h))))] (.cons (Q_call fun w hw => c_impl_HostOk w h ph (rd_of (S.argG hh gh) hw)) .nil) ?_; clear S; intro ac w β S
 rcases Bool.eq_false_or_eq_true (!(f_hostOk h)) with h24 | h24 <;> rw [h24] at S
 ·have h25 := not_t h24
  refine S.qe 7 [16] [(23, .v (B true))] ?_; clear S; intro ac w β S
  refine (nt (S.c true (fun _ => ?_) (fun hx => by cases hx)))
  refine ws (rg ?_)
  refine S.qem 3 [] [(7, .v (B false))] 2 [(1, [slv (h.mem).length q1.mem.1, slv (h.mons).length q1.mons.1, slv (h.buf).length q1.buf.1, slv (h.iobuf).length q1.iobuf.1])] ?_; clear S; intro ac w β S
  refine (nt (wr (rt (S.r [GT.val h q1, B false] ?_))))
  have o26 := ow_Host (x := h) (p := q1) o7 o10 o13 o16 d18 d19 d20 d21 d22 d23 
  exact ret2w_of (p' := ()) S (show (f_reflected h m (f_ackPair (f_seenAs h m))).1 = h from k0_impl_reflected) (show (f_reflected h m (f_ackPair (f_seenAs h m))).2 = false from k0_impl_reflected) (show f_ackN h m n = n from k1_impl_reflected) rfl rfl o26 trivial on (Disj.or (Disj.part (Disj.symm d5) s8) (Disj.or (Disj.part (Disj.symm d5) s11) (Disj.or (Disj.part (Disj.symm d5) s14) (Disj.or (Disj.part (Disj.symm d5) s17) Disj.nob))))
 ·have h27 := not_f h24
  have g28 := hostOk_t h27
  refine S.qg 7 [16] [(23, .v (B (!(f_within m 0 (((h.mons).length : Int) - 1)))))] (.cons (Q_call fun w hw => c_impl_has w m ((h.mons).length : Int) (by omega)) .nil) ?_; clear S; intro ac w β S
  refine (nt (S.c (!(f_within m 0 (((h.mons).length : Int) - 1))) (fun h29 => ?_) (fun h29 => ?_)))
  ·have h30 := not_t h29
   have g31 := within_f h30
   refine ws (rg ?_)
   refine S.qem 3 [] [(7, .v (B false))] 2 [(1, [slv (h.mem).length q1.mem.1, slv (h.mons).length q1.mons.1, slv (h.buf).length q1.buf.1, slv (h.iobuf).length q1.iobuf.1])] ?_; clear S; intro ac w β S
   refine (nt (wr (rt (S.r [GT.val h q1, B false] ?_))))
   have o32 := ow_Host (x := h) (p := q1) o7 o10 o13 o16 d18 d19 d20 d21 d22 d23 
   exact ret2w_of (p' := ()) S (show (f_reflected h m (f_ackPair (f_seenAs h m))).1 = h from k0_impl_reflected) (show (f_reflected h m (f_ackPair (f_seenAs h m))).2 = false from k0_impl_reflected) (show f_ackN h m n = n from k1_impl_reflected) rfl rfl o32 trivial on (Disj.or (Disj.part (Disj.symm d5) s8) (Disj.or (Disj.part (Disj.symm d5) s11) (Disj.or (Disj.part (Disj.symm d5) s14) (Disj.or (Disj.part (Disj.symm d5) s17) Disj.nob))))
  ·have h33 := not_f h29
   have g34 := within_t h33
   refine wk (nt (ws (rg ?_)))
   refine S.qa 3 [] [(26, .v (.func (.func 63) #[] #[pt qn.1.b (qn.1.off + 0 * 1)])), (27, .v (GT.val h ph)), (28, .v (I m))] ?_; clear S; intro ac w β S
   refine RG.op rfl (S.call1 (r := f_seenAs h m) (d := 29) (c_impl_SeenAs w h ph (S.rd (S.argG hh gh)) m) (by kernel_rfl) rfl ?_)
   clear S; intro ac w N q35 F36 S up o37 d38
   have d39 : Disj F F36 := fun b x y => d38 b (on.sub b x) y
   have d40 : Disj F6 F36 := fun b x y => d38 b (o7.sub b x) y
   have d41 : Disj F9 F36 := fun b x y => d38 b (o10.sub b x) y
   have d42 : Disj F12 F36 := fun b x y => d38 b (o13.sub b x) y
   have d43 : Disj F15 F36 := fun b x y => d38 b (o16.sub b x) y
   replace on := on.up up
   replace o7 := o7.up up
   replace o10 := o10.up up
   replace o13 := o13.up up
   replace o16 := o16.up up
   clear up d38
   have i53 : In64 (f_seenAs h m).pend := RBare.pend (d := (f_seenAs h m)) o37.rn
   obtain ⟨F44, F47, F50, o45, o48, o51, s46, s49, s52, d54, d55, d56⟩ := sp_Bare o37
   have o57 := ow_Bare (x := (f_seenAs h m)) (p := q35) o45 o48 o51 d54 d55 d56 i53
   refine RG.op rfl (S.call2W (r := (f_ackPair (f_seenAs h m)).1) (r' := (f_ackPair (f_seenAs h m)).2) (n' := (f_bareAck (f_seenAs h m)).2.1) (d := 30) on (c_impl_HostAck_1 w F (f_seenAs h m) q35 (uniB [F44, F47, F50]) (GT.own_rd (S.ownw o57)) (fun b hb => ⟨(S.sep b (o57.sub b hb)).1, (Disj.or (Disj.part (Disj.symm d39) s46) (Disj.or (Disj.part (Disj.symm d39) s49) (Disj.or (Disj.part (Disj.symm d39) s52) Disj.nob))) b hb⟩) n qn (S.ownw on) (fun b hb => (S.sep b (on.sub b hb)).1)) ?_)
   clear S; intro ac w N q58 q59 F60 p61 S up o62 o63 d64
   have d65 : Disj F6 F60 := fun b x y => d64 b (o7.sub b x) y
   have d66 : Disj F9 F60 := fun b x y => d64 b (o10.sub b x) y
   have d67 : Disj F12 F60 := fun b x y => d64 b (o13.sub b x) y
   have d68 : Disj F15 F60 := fun b x y => d64 b (o16.sub b x) y
   have d69 : Disj F44 F60 := fun b x y => d64 b (o45.sub b x) y
   have d70 : Disj F47 F60 := fun b x y => d64 b (o48.sub b x) y
   have d71 : Disj F50 F60 := fun b x y => d64 b (o51.sub b x) y
   have d72 : Disj F F60 := fun b x y => d64 b (on.sub b x) y
   replace o7 := o7.upF (Disj.part (Disj.symm d5) s8) up
   replace o10 := o10.upF (Disj.part (Disj.symm d5) s11) up
   replace o13 := o13.upF (Disj.part (Disj.symm d5) s14) up
   replace o16 := o16.upF (Disj.part (Disj.symm d5) s17) up
   replace o45 := o45.upF (Disj.part (Disj.symm d39) s46) up
   replace o48 := o48.upF (Disj.part (Disj.symm d39) s49) up
   replace o51 := o51.upF (Disj.part (Disj.symm d39) s52) up
   clear up d64 on
   have i73 : In64 ((f_bareAck (f_seenAs h m)).2.1) := LRd.el o63.rn 0 (Nat.succ_pos 0)
   have i83 : In64 ((f_ackPair (f_seenAs h m)).1).pend := RBare.pend (d := ((f_ackPair (f_seenAs h m)).1)) o62.rn
   obtain ⟨F74, F77, F80, o75, o78, o81, s76, s79, s82, d84, d85, d86⟩ := sp_Bare o62
   refine S.qem 6 [26] [(9, .p 3 0), (10, .v (B ((f_ackPair (f_seenAs h m)).2)))] 4 [(3, [slv (((f_ackPair (f_seenAs h m)).1).mem).length q58.mem.1, slv (((f_ackPair (f_seenAs h m)).1).guests).length q58.guests.1, slv (((f_ackPair (f_seenAs h m)).1).outs).length q58.outs.1, I (((f_ackPair (f_seenAs h m)).1).pend)])] ?_; clear S; intro ac w β S
   refine (nt (ws (ws (rg ?_))))
   refine S.qe 1 [] [(33, .v (B ((f_ackPair (f_seenAs h m)).2)))] ?_; clear S; intro ac w β S
   refine (nt (S.c ((f_ackPair (f_seenAs h m)).2) (fun h87 => ?_) (fun h87 => ?_)))
   ·rw [h87] at S
    refine ws ?_
    refine S.draw0 (f := 9) 8 rfl rfl ?_
    clear S; intro w S
    refine S.hoist (i := 0) (path := [0]) (keep := [1, 6, 8, 9, 10, 34]) (m := 4) (σ' := ⟨[(1, .v (I m)), (6, .p 1 0), (8, .p 2 0), (9, .p 3 0), (10, .v (B true)), (34, .p 2 1)], [GT.cells h ph, Zc THost, [slv (h.mem).length q1.mem.1, slv (h.mons).length q1.mons.1, slv (h.buf).length q1.buf.1, slv (h.iobuf).length q1.iobuf.1], [slv (((f_ackPair (f_seenAs h m)).1).mem).length q58.mem.1, slv (((f_ackPair (f_seenAs h m)).1).guests).length q58.guests.1, slv (((f_ackPair (f_seenAs h m)).1).outs).length q58.outs.1, I (((f_ackPair (f_seenAs h m)).1).pend)]]⟩) (by kernel_rfl) (by kernel_rfl) .nil (by kernel_rfl) ?_
    clear S; intro ac S
    refine S.hoist (i := 1) (path := [1]) (keep := [1, 6, 8, 9, 10, 35]) (m := 4) (σ' := ⟨[(1, .v (I m)), (6, .p 1 0), (8, .p 2 0), (9, .p 3 0), (10, .v (B true)), (35, .v (slv (h.mons).length q1.mons.1))], [GT.cells h ph, Zc THost, [slv (h.mem).length q1.mem.1, slv (h.mons).length q1.mons.1, slv (h.buf).length q1.buf.1, slv (h.iobuf).length q1.iobuf.1], [slv (((f_ackPair (f_seenAs h m)).1).mem).length q58.mem.1, slv (((f_ackPair (f_seenAs h m)).1).guests).length q58.guests.1, slv (((f_ackPair (f_seenAs h m)).1).outs).length q58.outs.1, I (((f_ackPair (f_seenAs h m)).1).pend)]]⟩) (by kernel_rfl) (by kernel_rfl) .nil (by kernel_rfl) ?_
    clear S; intro ac S
    refine S.hoist (i := 2) (path := [2]) (keep := [1, 6, 8, 9, 10, 35, 36]) (m := 4) (σ' := ⟨[(1, .v (I m)), (6, .p 1 0), (8, .p 2 0), (9, .p 3 0), (10, .v (B true)), (35, .v (slv (h.mons).length q1.mons.1)), (36, .v (I m))], [GT.cells h ph, Zc THost, [slv (h.mem).length q1.mem.1, slv (h.mons).length q1.mons.1, slv (h.buf).length q1.buf.1, slv (h.iobuf).length q1.iobuf.1], [slv (((f_ackPair (f_seenAs h m)).1).mem).length q58.mem.1, slv (((f_ackPair (f_seenAs h m)).1).guests).length q58.guests.1, slv (((f_ackPair (f_seenAs h m)).1).outs).length q58.outs.1, I (((f_ackPair (f_seenAs h m)).1).pend)]]⟩) (by kernel_rfl) (by kernel_rfl) .nil (by kernel_rfl) ?_
    clear S; intro ac S
    refine S.hoist (i := 3) (path := [3]) (keep := [1, 6, 8, 9, 10, 35, 36, 37]) (m := 4) (σ' := ⟨[(1, .v (I m)), (6, .p 1 0), (8, .p 2 0), (9, .p 3 0), (10, .v (B true)), (35, .v (slv (h.mons).length q1.mons.1)), (36, .v (I m)), (37, .p 3 1)], [GT.cells h ph, Zc THost, [slv (h.mem).length q1.mem.1, slv (h.mons).length q1.mons.1, slv (h.buf).length q1.buf.1, slv (h.iobuf).length q1.iobuf.1], [slv (((f_ackPair (f_seenAs h m)).1).mem).length q58.mem.1, slv (((f_ackPair (f_seenAs h m)).1).guests).length q58.guests.1, slv (((f_ackPair (f_seenAs h m)).1).outs).length q58.outs.1, I (((f_ackPair (f_seenAs h m)).1).pend)]]⟩) (by kernel_rfl) (by kernel_rfl) .nil (by kernel_rfl) ?_
    clear S; intro ac S
    refine S.hoist (i := 4) (path := [4]) (keep := [1, 6, 8, 9, 10, 35, 36, 38]) (m := 4) (σ' := ⟨[(1, .v (I m)), (6, .p 1 0), (8, .p 2 0), (9, .p 3 0), (10, .v (B true)), (35, .v (slv (h.mons).length q1.mons.1)), (36, .v (I m)), (38, .v (slv (((f_ackPair (f_seenAs h m)).1).guests).length q58.guests.1))], [GT.cells h ph, Zc THost, [slv (h.mem).length q1.mem.1, slv (h.mons).length q1.mons.1, slv (h.buf).length q1.buf.1, slv (h.iobuf).length q1.iobuf.1], [slv (((f_ackPair (f_seenAs h m)).1).mem).length q58.mem.1, slv (((f_ackPair (f_seenAs h m)).1).guests).length q58.guests.1, slv (((f_ackPair (f_seenAs h m)).1).outs).length q58.outs.1, I (((f_ackPair (f_seenAs h m)).1).pend)]]⟩) (by kernel_rfl) (by kernel_rfl) .nil (by kernel_rfl) ?_
    clear S; intro ac S
    refine WD.one (i := 5) (by kernel_rfl) ?_
    refine id (S.call1 (r := (((f_ackPair (f_seenAs h m)).1).guests)) (d := 39) (c_impl_copyGuests w (((f_ackPair (f_seenAs h m)).1).guests) q58.guests (S.rd o78.rn)) (by kernel_rfl) rfl ?_)
    clear S; intro ac w N q88 F89 S up o90 d91
    refine WD.next S up rfl ?_
    have d92 : Disj F6 F89 := fun b x y => d91 b (o7.sub b x) y
    have d93 : Disj F9 F89 := fun b x y => d91 b (o10.sub b x) y
    have d94 : Disj F12 F89 := fun b x y => d91 b (o13.sub b x) y
    have d95 : Disj F15 F89 := fun b x y => d91 b (o16.sub b x) y
    have d96 : Disj F F89 := fun b x y => d91 b (o63.sub b x) y
    have d97 : Disj F74 F89 := fun b x y => d91 b (o75.sub b x) y
    have d98 : Disj F77 F89 := fun b x y => d91 b (o78.sub b x) y
    have d99 : Disj F80 F89 := fun b x y => d91 b (o81.sub b x) y
    replace o7 := o7.up up
    replace o10 := o10.up up
    replace o13 := o13.up up
    replace o16 := o16.up up
    replace o63 := o63.up up
    replace o75 := o75.up up
    replace o78 := o78.up up
    replace o81 := o81.up up
    clear up d91
    refine S.hoist (i := 6) (path := [7, 6]) (keep := [1, 6, 8, 9, 10, 39, 40]) (m := 4) (σ' := ⟨[(1, .v (I m)), (6, .p 1 0), (8, .p 2 0), (9, .p 3 0), (10, .v (B true)), (39, .v (slv ((((f_ackPair (f_seenAs h m)).1).guests)).length q88.1)), (40, .v (pt q1.mons.1.b (q1.mons.1.off + ((m).toNat) * 9)))], [GT.cells h ph, Zc THost, [slv (h.mem).length q1.mem.1, slv (h.mons).length q1.mons.1, slv (h.buf).length q1.buf.1, slv (h.iobuf).length q1.iobuf.1], [slv (((f_ackPair (f_seenAs h m)).1).mem).length q58.mem.1, slv (((f_ackPair (f_seenAs h m)).1).guests).length q58.guests.1, slv (((f_ackPair (f_seenAs h m)).1).outs).length q58.outs.1, I (((f_ackPair (f_seenAs h m)).1).pend)]]⟩) (by kernel_rfl) (by kernel_rfl) (.cons (Q_idx o10.rn (l := (h.mons).length) (k := (m).toNat) (i := m) rfl (by omega) (by omega) Tryz.underlying30 (by kernel_rfl)) .nil) (by kernel_rfl) ?_
    clear S; intro ac S
    refine S.hoist (i := 7) (path := [7]) (keep := [1, 6, 8, 9, 10, 39, 41]) (m := 4) (σ' := ⟨[(1, .v (I m)), (6, .p 1 0), (8, .p 2 0), (9, .p 3 0), (10, .v (B true)), (39, .v (slv ((((f_ackPair (f_seenAs h m)).1).guests)).length q88.1)), (41, .v (pt q1.mons.1.b (q1.mons.1.off + ((m).toNat) * 9 + 3)))], [GT.cells h ph, Zc THost, [slv (h.mem).length q1.mem.1, slv (h.mons).length q1.mons.1, slv (h.buf).length q1.buf.1, slv (h.iobuf).length q1.iobuf.1], [slv (((f_ackPair (f_seenAs h m)).1).mem).length q58.mem.1, slv (((f_ackPair (f_seenAs h m)).1).guests).length q58.guests.1, slv (((f_ackPair (f_seenAs h m)).1).outs).length q58.outs.1, I (((f_ackPair (f_seenAs h m)).1).pend)]]⟩) (by kernel_rfl) (by kernel_rfl) .nil (by kernel_rfl) ?_
    clear S; intro ac S
    refine WD.one (i := 8) (by kernel_rfl) ?_
    refine id (S.setEl (α := TMon) o10 (t := 54) (v := slv ((((f_ackPair (f_seenAs h m)).1).guests)).length q88.1) (k := (m).toNat) (j := 3) (off := q1.mons.1.off + ((m).toNat) * 9 + 3) (y := ({ el h.mons ((m).toNat) with guests := (((f_ackPair (f_seenAs h m)).1).guests) } : TMon)) (q := ({ q1.mons.2 ((m).toNat) with guests := q88 } : PMon)) (Fy := F89) (by kernel_rfl) (by kernel_rfl) (by omega) (by kernel_rfl) (by kernel_rfl) (Nat.le_of_ble_eq_true (by kernel_rfl)) (by kernel_rfl) (fun G g_ gF => ⟨_, owl_Mon_guests g_ o90.own (fun b h h2 => d93 b (gF b h) h2), fun _ h => h⟩) d93 o90.sub o90.young ?_)
    clear S; intro w N F101 q102 S up o100 d103 s104 n105
    refine WD.last (by kernel_rfl) ?_
    have d106 : Disj F6 F101 := d103 _ d18 d92 o7.sub
    have d107 : Disj F12 F101 := d103 _ (Disj.symm d21) d94 o13.sub
    have d108 : Disj F15 F101 := d103 _ (Disj.symm d22) d95 o16.sub
    have d109 : Disj F F101 := d103 _ (Disj.symm (Disj.part (Disj.symm d5) s11)) d96 o63.sub
    have d110 : Disj F74 F101 := d103 _ (Disj.part (Disj.symm d66) s76) d97 o75.sub
    have d111 : Disj F77 F101 := d103 _ (Disj.part (Disj.symm d66) s79) d98 o78.sub
    have d112 : Disj F80 F101 := d103 _ (Disj.part (Disj.symm d66) s82) d99 o81.sub
    replace o7 := o7.upF d18 up
    replace o13 := o13.upF (Disj.symm d21) up
    replace o16 := o16.upF (Disj.symm d22) up
    replace o63 := o63.upF (Disj.symm (Disj.part (Disj.symm d5) s11)) up
    replace o75 := o75.upF (Disj.part (Disj.symm d66) s76) up
    replace o78 := o78.upF (Disj.part (Disj.symm d66) s79) up
    replace o81 := o81.upF (Disj.part (Disj.symm d66) s82) up
    clear up d103 o10 n105
    have l113 : ((h.mons).set ((m).toNat) ({ el h.mons ((m).toNat) with guests := (((f_ackPair (f_seenAs h m)).1).guests) })).length = (h.mons).length := List.length_set
    replace S := S.z (σ' := ⟨[(1, .v (I m)), (6, .p 1 0), (8, .p 2 0), (9, .p 3 0), (10, .v (B true)), (39, .v (slv ((((f_ackPair (f_seenAs h m)).1).guests)).length q88.1)), (41, .v (pt q1.mons.1.b (q1.mons.1.off + ((m).toNat) * 9 + 3)))], [GT.cells h ph, Zc THost, [slv (h.mem).length q1.mem.1, slv (h.mons).length q1.mons.1, slv (h.buf).length q1.buf.1, slv (h.iobuf).length q1.iobuf.1], [slv (((f_ackPair (f_seenAs h m)).1).mem).length q58.mem.1, slv (((f_ackPair (f_seenAs h m)).1).guests).length q58.guests.1, slv (((f_ackPair (f_seenAs h m)).1).outs).length q58.outs.1, I (((f_ackPair (f_seenAs h m)).1).pend)]]⟩)
    replace S := S.cast (σ' := ⟨[(1, .v (I m)), (6, .p 1 0), (8, .p 2 0), (9, .p 3 0), (10, .v (B true)), (39, .v (slv ((((f_ackPair (f_seenAs h m)).1).guests)).length q88.1)), (41, .v (pt q1.mons.1.b (q1.mons.1.off + ((m).toNat) * 9 + 3)))], [GT.cells h ph, Zc THost, [slv (h.mem).length q1.mem.1, slv (((h.mons).set ((m).toNat) ({ el h.mons ((m).toNat) with guests := (((f_ackPair (f_seenAs h m)).1).guests) }))).length q1.mons.1, slv (h.buf).length q1.buf.1, slv (h.iobuf).length q1.iobuf.1], [slv (((f_ackPair (f_seenAs h m)).1).mem).length q58.mem.1, slv (((f_ackPair (f_seenAs h m)).1).guests).length q58.guests.1, slv (((f_ackPair (f_seenAs h m)).1).outs).length q58.outs.1, I (((f_ackPair (f_seenAs h m)).1).pend)]]⟩) (by rw [show (((h.mons).set ((m).toNat) ({ el h.mons ((m).toNat) with guests := (((f_ackPair (f_seenAs h m)).1).guests) }))).length = (h.mons).length by omega])
    refine WD.done (by kernel_rfl) ?_ _
    refine id (nt (rg ?_))
    refine S.qbm 7 [] [(46, .v (I (((f_ackPair (f_seenAs h m)).1).pend))), (48, .v (pt q1.mons.1.b (q1.mons.1.off + ((m).toNat) * 9 + 5)))] (.cons (Q_idx o100.rn (l := (((h.mons).set ((m).toNat) ({ el h.mons ((m).toNat) with guests := (((f_ackPair (f_seenAs h m)).1).guests) }))).length) (k := (m).toNat) (i := m) rfl (by omega) (by omega) Tryz.underlying30 (by kernel_rfl)) .nil) 3 [] ?_; clear S; intro ac w β S
    refine RG.op rfl (S.setEl (α := TMon) o100 (t := 3) (v := I (((f_ackPair (f_seenAs h m)).1).pend)) (k := (m).toNat) (j := 5) (off := q1.mons.1.off + ((m).toNat) * 9 + 5) (y := ({ el ((h.mons).set ((m).toNat) ({ el h.mons ((m).toNat) with guests := (((f_ackPair (f_seenAs h m)).1).guests) })) ((m).toNat) with pend := ((f_ackPair (f_seenAs h m)).1).pend } : TMon)) (q := ((q1.mons.1, q102).2 ((m).toNat))) (Fy := NoB) (by kernel_rfl) (by kernel_rfl) (by omega) (by kernel_rfl) (by kernel_rfl) (Nat.le_of_ble_eq_true (by kernel_rfl)) (by kernel_rfl) (fun G g_ _ => ⟨G, ows_Mon_pend g_ (i83), fun _ h => .inl h⟩) (fun b _ h => False.elim h) (fun b h => False.elim h) (fun b h => False.elim h) ?_)
    clear S; intro w N F115 q116 S up o114 d117 s118 n119
    have d120 : Disj F6 F115 := d117 _ d106 (fun b _ h => False.elim h) o7.sub
    have d121 : Disj F12 F115 := d117 _ d107 (fun b _ h => False.elim h) o13.sub
    have d122 : Disj F15 F115 := d117 _ d108 (fun b _ h => False.elim h) o16.sub
    have d123 : Disj F F115 := d117 _ d109 (fun b _ h => False.elim h) o63.sub
    replace o7 := o7.upF d106 up
    replace o13 := o13.upF d107 up
    replace o16 := o16.upF d108 up
    replace o63 := o63.upF d109 up
    clear up d117 o100 n119
    have l124 : ((((h.mons).set ((m).toNat) ({ el h.mons ((m).toNat) with guests := (((f_ackPair (f_seenAs h m)).1).guests) }))).set ((m).toNat) ({ el ((h.mons).set ((m).toNat) ({ el h.mons ((m).toNat) with guests := (((f_ackPair (f_seenAs h m)).1).guests) })) ((m).toNat) with pend := ((f_ackPair (f_seenAs h m)).1).pend })).length = (((h.mons).set ((m).toNat) ({ el h.mons ((m).toNat) with guests := (((f_ackPair (f_seenAs h m)).1).guests) }))).length := List.length_set
    replace S := S.z (σ' := ⟨[(6, .p 1 0), (8, .p 2 0), (10, .v (B true)), (46, .v (I (((f_ackPair (f_seenAs h m)).1).pend))), (48, .v (pt q1.mons.1.b (q1.mons.1.off + ((m).toNat) * 9 + 5)))], [GT.cells h ph, Zc THost, [slv (h.mem).length q1.mem.1, slv (((h.mons).set ((m).toNat) ({ el h.mons ((m).toNat) with guests := (((f_ackPair (f_seenAs h m)).1).guests) }))).length q1.mons.1, slv (h.buf).length q1.buf.1, slv (h.iobuf).length q1.iobuf.1]]⟩)
    replace S := S.cast (σ' := ⟨[(6, .p 1 0), (8, .p 2 0), (10, .v (B true)), (46, .v (I (((f_ackPair (f_seenAs h m)).1).pend))), (48, .v (pt q1.mons.1.b (q1.mons.1.off + ((m).toNat) * 9 + 5)))], [GT.cells h ph, Zc THost, [slv (h.mem).length q1.mem.1, slv (((((h.mons).set ((m).toNat) ({ el h.mons ((m).toNat) with guests := (((f_ackPair (f_seenAs h m)).1).guests) }))).set ((m).toNat) ({ el ((h.mons).set ((m).toNat) ({ el h.mons ((m).toNat) with guests := (((f_ackPair (f_seenAs h m)).1).guests) })) ((m).toNat) with pend := ((f_ackPair (f_seenAs h m)).1).pend }))).length q1.mons.1, slv (h.buf).length q1.buf.1, slv (h.iobuf).length q1.iobuf.1]]⟩) (by rw [show (((((h.mons).set ((m).toNat) ({ el h.mons ((m).toNat) with guests := (((f_ackPair (f_seenAs h m)).1).guests) }))).set ((m).toNat) ({ el ((h.mons).set ((m).toNat) ({ el h.mons ((m).toNat) with guests := (((f_ackPair (f_seenAs h m)).1).guests) })) ((m).toNat) with pend := ((f_ackPair (f_seenAs h m)).1).pend }))).length = (((h.mons).set ((m).toNat) ({ el h.mons ((m).toNat) with guests := (((f_ackPair (f_seenAs h m)).1).guests) }))).length by omega])
    refine rd (nt (ws (rg ?_)))
    refine S.qem 4 [] [(7, .v (B true))] 2 [(1, [slv (h.mem).length q1.mem.1, slv (((((h.mons).set ((m).toNat) ({ el h.mons ((m).toNat) with guests := (((f_ackPair (f_seenAs h m)).1).guests) }))).set ((m).toNat) ({ el ((h.mons).set ((m).toNat) ({ el h.mons ((m).toNat) with guests := (((f_ackPair (f_seenAs h m)).1).guests) })) ((m).toNat) with pend := ((f_ackPair (f_seenAs h m)).1).pend }))).length q1.mons.1, slv (h.buf).length q1.buf.1, slv (h.iobuf).length q1.iobuf.1])] ?_; clear S; intro ac w β S
    refine (nt (wr (S.r [GT.val (⟨h.mem, ((((h.mons).set ((m).toNat) ({ el h.mons ((m).toNat) with guests := (((f_ackPair (f_seenAs h m)).1).guests) }))).set ((m).toNat) ({ el ((h.mons).set ((m).toNat) ({ el h.mons ((m).toNat) with guests := (((f_ackPair (f_seenAs h m)).1).guests) })) ((m).toNat) with pend := ((f_ackPair (f_seenAs h m)).1).pend })), h.buf, h.iobuf⟩ : THost) (⟨q1.mem, (q1.mons.1, q116), q1.buf, q1.iobuf⟩ : PHost), B true] ?_)))
    have o125 := ow_Host (x := (⟨h.mem, ((((h.mons).set ((m).toNat) ({ el h.mons ((m).toNat) with guests := (((f_ackPair (f_seenAs h m)).1).guests) }))).set ((m).toNat) ({ el ((h.mons).set ((m).toNat) ({ el h.mons ((m).toNat) with guests := (((f_ackPair (f_seenAs h m)).1).guests) })) ((m).toNat) with pend := ((f_ackPair (f_seenAs h m)).1).pend })), h.buf, h.iobuf⟩ : THost)) (p := (⟨q1.mem, (q1.mons.1, q116), q1.buf, q1.iobuf⟩ : PHost)) o7 o114 o13 o16 d120 d19 d20 (Disj.symm d121) (Disj.symm d122) d23 
    exact ret2w_of (p' := ()) S (show (f_reflected h m (f_ackPair (f_seenAs h m))).1 = (⟨h.mem, ((((h.mons).set ((m).toNat) ({ el h.mons ((m).toNat) with guests := (((f_ackPair (f_seenAs h m)).1).guests) }))).set ((m).toNat) ({ el ((h.mons).set ((m).toNat) ({ el h.mons ((m).toNat) with guests := (((f_ackPair (f_seenAs h m)).1).guests) })) ((m).toNat) with pend := ((f_ackPair (f_seenAs h m)).1).pend })), h.buf, h.iobuf⟩ : THost) from k0_impl_reflected) (show (f_reflected h m (f_ackPair (f_seenAs h m))).2 = true from k0_impl_reflected) (show f_ackN h m n = (f_bareAck (f_seenAs h m)).2.1 from k1_impl_reflected) rfl rfl o125 trivial o63 (Disj.or (Disj.part (Disj.symm d5) s8) (Disj.or (Disj.symm d123) (Disj.or (Disj.part (Disj.symm d5) s14) (Disj.or (Disj.part (Disj.symm d5) s17) Disj.nob))))
   ·rw [h87] at S
    refine wk (nt (ws (rg ?_)))
    refine S.qem 4 [10, 33] [(7, .v (B false))] 2 [(1, [slv (h.mem).length q1.mem.1, slv (h.mons).length q1.mons.1, slv (h.buf).length q1.buf.1, slv (h.iobuf).length q1.iobuf.1])] ?_; clear S; intro ac w β S
    refine (nt (wr (S.r [GT.val h q1, B false] ?_)))
    have o126 := ow_Host (x := h) (p := q1) o7 o10 o13 o16 d18 d19 d20 d21 d22 d23 
    exact ret2w_of (p' := ()) S (show (f_reflected h m (f_ackPair (f_seenAs h m))).1 = h from k0_impl_reflected) (show (f_reflected h m (f_ackPair (f_seenAs h m))).2 = false from k0_impl_reflected) (show f_ackN h m n = (f_bareAck (f_seenAs h m)).2.1 from k1_impl_reflected) rfl rfl o126 trivial o63 (Disj.or (Disj.part (Disj.symm d5) s8) (Disj.or (Disj.part (Disj.symm d5) s11) (Disj.or (Disj.part (Disj.symm d5) s14) (Disj.or (Disj.part (Disj.symm d5) s17) Disj.nob))))

set_option maxRecDepth 100000 in
theorem c_impl_HostAck (w0 : World) (h : THost) (ph : PHost) (hh : GT.rd KK (Lt w0.heap.size) w0 h ph) (m : Int) : Calls Tryz.prog 26 [GT.val h ph, I m].toArray w0 (Ret3 NoB w0 ((f_hostAck h m).1 : THost) ((f_hostAck h m).2.1 : Int) ((f_hostAck h m).2.2 : Bool)) := by
 refine Calls.walk (args := [GT.val h ph, I m]) NoB Tryz.func26 rfl rfl ?_
 intro ac β S
 have hleh_mem : h.mem.length ≤ 4194304 := LRd.le (RHost.mem (d := h) hh)
 have hleh_mons : h.mons.length ≤ 4194304 := LRd.le (RHost.mons (d := h) hh)
 have hleh_buf : h.buf.length ≤ 4194304 := LRd.le (RHost.buf (d := h) hh)
 have hleh_iobuf : h.iobuf.length ≤ 4194304 := LRd.le (RHost.iobuf (d := h) hh)
 refine ws (rg ?_)
 refine S.qem 4 [] [(2, .p 0 0), (4, .p 1 0)] 2 [(0, GT.cells h ph), (1, Zc THost)] ?_; clear S; intro ac w β S
 refine (nt (ws (rg ?_)))
 refine S.qem 2 [] [(7, .p 2 0)] 3 [(2, [I (-1)])] ?_; clear S; intro ac w β S
 refine (nt (ws ?_))
 refine S.frz 2 (-1) () (show In64 (-1) from ⟨by decide, by decide⟩) ?_
 clear S; intro β N b1 F2 S up o3 d4
 clear up d4
 refine rg ?_
 refine S.qa 3 [] [(11, .v (GT.val h ph)), (12, .v (I m)), (13, .v (.func (.func 63) #[] #[pt (cap1 b1 () : LP Int).1.b ((cap1 b1 () : LP Int).1.off + 0 * 1)]))] ?_; clear S; intro ac w β S
 refine RG.op rfl (S.call2W (r := (f_reflected h m (f_ackPair (f_seenAs h m))).1) (r' := (f_reflected h m (f_ackPair (f_seenAs h m))).2) (n' := f_ackN h m (-1)) (d := 14) o3 (c_impl_reflected w F2 h ph (fun b => b < w0.heap.size) (S.oldrd hh) (fun b hb => ⟨Nat.lt_of_lt_of_le hb S.chg.size, fun hf => Nat.not_lt_of_le ((o3.young b hf).resolve_right id) hb⟩) m (-1) (cap1 b1 () : LP Int) (S.ownw o3) (fun b hb => (S.sep b (o3.sub b hb)).1)) ?_)
 clear S; intro ac w N q5 q6 F7 p8 S up o9 o10 d11
 have d12 : Disj F2 F7 := fun b x y => d11 b (o3.sub b x) y
 clear up d11 o3
 have i13 : In64 (f_ackN h m (-1)) := LRd.el o10.rn 0 (Nat.succ_pos 0)
 obtain ⟨F14, F17, F20, F23, o15, o18, o21, o24, s16, s19, s22, s25, d26, d27, d28, d29, d30, d31⟩ := sp_Host o9
 refine S.qem 6 [13] [(7, .v (pt (((cap1 b1 () : LP Int).1, p8) : LP Int).1.b ((((cap1 b1 () : LP Int).1, p8) : LP Int).1.off + 0 * 1))), (8, .p 2 0), (9, .v (B ((f_reflected h m (f_ackPair (f_seenAs h m))).2)))] 3 [(2, [slv (((f_reflected h m (f_ackPair (f_seenAs h m))).1).mem).length q5.mem.1, slv (((f_reflected h m (f_ackPair (f_seenAs h m))).1).mons).length q5.mons.1, slv (((f_reflected h m (f_ackPair (f_seenAs h m))).1).buf).length q5.buf.1, slv (((f_reflected h m (f_ackPair (f_seenAs h m))).1).iobuf).length q5.iobuf.1])] ?_; clear S; intro ac w β S
 refine (nt (ws ?_))
 let σ32 : Sy := ⟨[(4, .p 1 0), (7, .v (pt (((cap1 b1 () : LP Int).1, p8) : LP Int).1.b ((((cap1 b1 () : LP Int).1, p8) : LP Int).1.off + 0 * 1))), (8, .p 2 0), (9, .v (B ((f_reflected h m (f_ackPair (f_seenAs h m))).2)))], [GT.cells h ph, Zc THost, [slv (((f_reflected h m (f_ackPair (f_seenAs h m))).1).mem).length q5.mem.1, slv (((f_reflected h m (f_ackPair (f_seenAs h m))).1).mons).length q5.mons.1, slv (((f_reflected h m (f_ackPair (f_seenAs h m))).1).buf).length q5.buf.1, slv (((f_reflected h m (f_ackPair (f_seenAs h m))).1).iobuf).length q5.iobuf.1]]⟩
 obtain ⟨u0, N0, β0, S, o10, o15, o18, o21, o24⟩ : ∃ u0 N0 β0, St Tryz.prog Tryz.f26.ntmps w0 NoB u0 N0 β0 σ32 ac w ∧ Ow w0 NoB u0 N0 F2 ([f_ackN h m (-1)]) (((cap1 b1 () : LP Int).1, p8) : LP Int) ∧ Ow w0 NoB u0 N0 F14 (((f_reflected h m (f_ackPair (f_seenAs h m))).1).mem) q5.mem ∧ Ow w0 NoB u0 N0 F17 (((f_reflected h m (f_ackPair (f_seenAs h m))).1).mons) q5.mons ∧ Ow w0 NoB u0 N0 F20 (((f_reflected h m (f_ackPair (f_seenAs h m))).1).buf) q5.buf ∧ Ow w0 NoB u0 N0 F23 (((f_reflected h m (f_ackPair (f_seenAs h m))).1).iobuf) q5.iobuf := ⟨_, _, _, S.z, o10, o15, o18, o21, o24⟩
 refine wp_region_cut (fun ac w => ∃  u N β, St Tryz.prog Tryz.f26.ntmps w0 NoB u N β (σ32.dl [7, 8, 9] [(5, .v (I (f_ackN h m (-1)))), (6, .v (B ((f_reflected h m (f_ackPair (f_seenAs h m))).2)))] 2 [(1, [slv (((f_reflected h m (f_ackPair (f_seenAs h m))).1).mem).length q5.mem.1, slv (((f_reflected h m (f_ackPair (f_seenAs h m))).1).mons).length q5.mons.1, slv (((f_reflected h m (f_ackPair (f_seenAs h m))).1).buf).length q5.buf.1, slv (((f_reflected h m (f_ackPair (f_seenAs h m))).1).iobuf).length q5.iobuf.1])]) ac w ∧ Ow w0 NoB u N F14 (((f_reflected h m (f_ackPair (f_seenAs h m))).1).mem) q5.mem ∧ Ow w0 NoB u N F17 (((f_reflected h m (f_ackPair (f_seenAs h m))).1).mons) q5.mons ∧ Ow w0 NoB u N F20 (((f_reflected h m (f_ackPair (f_seenAs h m))).1).buf) q5.buf ∧ Ow w0 NoB u N F23 (((f_reflected h m (f_ackPair (f_seenAs h m))).1).iobuf) q5.iobuf) ?_ ?_
 ·refine S.draw0 (f := 6) 3 rfl rfl ?_
  clear S; intro w S
  refine S.hq 0 [0] [] [(17, .v (GT.val ((f_reflected h m (f_ackPair (f_seenAs h m))).1) q5))] .nil ?_
  clear S; intro ac S
  refine WD.nameW fun W hW => ?_
  refine WD.castW (l' := mkL 6 [0]) (by kernel_rfl) ?_
  have hK33 ac w u N β (S : St Tryz.prog Tryz.f26.ntmps w0 NoB u N β (σ32.dl [7, 8, 9] [(5, .v (I (f_ackN h m (-1)))), (6, .v (B ((f_reflected h m (f_ackPair (f_seenAs h m))).2)))] 3 [(1, [slv (((f_reflected h m (f_ackPair (f_seenAs h m))).1).mem).length q5.mem.1, slv (((f_reflected h m (f_ackPair (f_seenAs h m))).1).mons).length q5.mons.1, slv (((f_reflected h m (f_ackPair (f_seenAs h m))).1).buf).length q5.buf.1, slv (((f_reflected h m (f_ackPair (f_seenAs h m))).1).iobuf).length q5.iobuf.1])]) ac w) (o15 : Ow w0 NoB u N F14 (((f_reflected h m (f_ackPair (f_seenAs h m))).1).mem) q5.mem) (o18 : Ow w0 NoB u N F17 (((f_reflected h m (f_ackPair (f_seenAs h m))).1).mons) q5.mons) (o21 : Ow w0 NoB u N F20 (((f_reflected h m (f_ackPair (f_seenAs h m))).1).buf) q5.buf) (o24 : Ow w0 NoB u N F23 (((f_reflected h m (f_ackPair (f_seenAs h m))).1).iobuf) q5.iobuf) : W 0 (mkL 6 [0, 1, 2, 3, 4, 5]) ac w := by
   replace S := S.wt 2
   exact od hW ⟨rfl, _, _, _, S.z, o15, o18, o21, o24⟩
  have hK34 ac w u N β (S : St Tryz.prog Tryz.f26.ntmps w0 NoB u N β (σ32.dl [7, 8, 9] [(17, .v (GT.val ((f_reflected h m (f_ackPair (f_seenAs h m))).1) q5)), (18, .v (I (f_ackN h m (-1)))), (19, .v (B ((f_reflected h m (f_ackPair (f_seenAs h m))).2)))] 3 []) ac w) (o15 : Ow w0 NoB u N F14 (((f_reflected h m (f_ackPair (f_seenAs h m))).1).mem) q5.mem) (o18 : Ow w0 NoB u N F17 (((f_reflected h m (f_ackPair (f_seenAs h m))).1).mons) q5.mons) (o21 : Ow w0 NoB u N F20 (((f_reflected h m (f_ackPair (f_seenAs h m))).1).buf) q5.buf) (o24 : Ow w0 NoB u N F23 (((f_reflected h m (f_ackPair (f_seenAs h m))).1).iobuf) q5.iobuf) (hNN : NN N0 u0 N u) (hBB : BB σ32.bx.length β0 β) : W 3 (mkL 6 [0, 1, 2]) ac w := by
   exact o1 hW 3 (S.wl hW [4, 5] .nil fun _ _ _ S => hK33 _ _ _ _ _ S o15 o18 o21 o24)
  have hK35 ac w u N β (S : St Tryz.prog Tryz.f26.ntmps w0 NoB u N β (σ32.dl [8, 9] [(19, .v (B ((f_reflected h m (f_ackPair (f_seenAs h m))).2)))] 3 [(1, [slv (((f_reflected h m (f_ackPair (f_seenAs h m))).1).mem).length q5.mem.1, slv (((f_reflected h m (f_ackPair (f_seenAs h m))).1).mons).length q5.mons.1, slv (((f_reflected h m (f_ackPair (f_seenAs h m))).1).buf).length q5.buf.1, slv (((f_reflected h m (f_ackPair (f_seenAs h m))).1).iobuf).length q5.iobuf.1])]) ac w) (o10 : Ow w0 NoB u N F2 ([f_ackN h m (-1)]) (((cap1 b1 () : LP Int).1, p8) : LP Int)) (o15 : Ow w0 NoB u N F14 (((f_reflected h m (f_ackPair (f_seenAs h m))).1).mem) q5.mem) (o18 : Ow w0 NoB u N F17 (((f_reflected h m (f_ackPair (f_seenAs h m))).1).mons) q5.mons) (o21 : Ow w0 NoB u N F20 (((f_reflected h m (f_ackPair (f_seenAs h m))).1).buf) q5.buf) (o24 : Ow w0 NoB u N F23 (((f_reflected h m (f_ackPair (f_seenAs h m))).1).iobuf) q5.iobuf) : W 3 (mkL 6 [0, 2, 3]) ac w := by
   exact o1 hW 1 (S.wl hW [4, 5] (.cons (Q_el1 o10.rn (t := 3) (k := 0) (Nat.succ_pos 0) rfl (by kernel_rfl)) .nil) fun _ _ _ S => hK33 _ _ _ _ _ S o15 o18 o21 o24)
  have hK36 ac w u N β (S : St Tryz.prog Tryz.f26.ntmps w0 NoB u N β (σ32.dl [8, 9] [(17, .v (GT.val ((f_reflected h m (f_ackPair (f_seenAs h m))).1) q5)), (19, .v (B ((f_reflected h m (f_ackPair (f_seenAs h m))).2)))] 3 []) ac w) (o10 : Ow w0 NoB u N F2 ([f_ackN h m (-1)]) (((cap1 b1 () : LP Int).1, p8) : LP Int)) (o15 : Ow w0 NoB u N F14 (((f_reflected h m (f_ackPair (f_seenAs h m))).1).mem) q5.mem) (o18 : Ow w0 NoB u N F17 (((f_reflected h m (f_ackPair (f_seenAs h m))).1).mons) q5.mons) (o21 : Ow w0 NoB u N F20 (((f_reflected h m (f_ackPair (f_seenAs h m))).1).buf) q5.buf) (o24 : Ow w0 NoB u N F23 (((f_reflected h m (f_ackPair (f_seenAs h m))).1).iobuf) q5.iobuf) (hNN : NN N0 u0 N u) (hBB : BB σ32.bx.length β0 β) : W 4 (mkL 6 [0, 2]) ac w := by
   exact o2 hW 1 3 (S.wq hW hNN hBB [] (.cons (Q_el1 o10.rn (t := 3) (k := 0) (Nat.succ_pos 0) rfl (by kernel_rfl)) .nil) fun _ _ _ S hB => hK34 _ _ _ _ _ S o15 o18 o21 o24 hNN hB) (S.wl hW [] .nil fun _ _ _ S => hK35 _ _ _ _ _ S o10 o15 o18 o21 o24)
  rw [hW]
  exact S.wh hW [2] (fun _ => S.rcx) fun _ S => hK36 _ _ _ _ _ S o10 o15 o18 o21 o24 (fun _ h => ⟨h, rfl⟩) (fun _ _ => rfl)
 clear S o10 o15 o18 o21 o24
 rintro ac w ⟨u, N, β, S, o15, o18, o21, o24⟩
 refine id (nt (wr (S.r [GT.val ((f_reflected h m (f_ackPair (f_seenAs h m))).1) q5, I (f_ackN h m (-1)), B ((f_reflected h m (f_ackPair (f_seenAs h m))).2)] ?_)))
 have o37 := ow_Host (x := ((f_reflected h m (f_ackPair (f_seenAs h m))).1)) (p := q5) o15 o18 o21 o24 d26 d27 d28 d29 d30 d31 
 exact ret3_of (p' := ()) (p'' := ()) S (show (f_hostAck h m).1 = ((f_reflected h m (f_ackPair (f_seenAs h m))).1) by clear S; (first | rfl | (unfold f_hostAck; rfl))) (show (f_hostAck h m).2.1 = f_ackN h m (-1) by clear S; (first | rfl | (unfold f_hostAck; rfl))) (show (f_hostAck h m).2.2 = ((f_reflected h m (f_ackPair (f_seenAs h m))).2) by clear S; (first | rfl | (unfold f_hostAck; rfl))) rfl rfl rfl o37 i13 trivial

theorem k0_laws_eqIntS {p : Prop} (h : p := by clear S; first | (simp; intro e; subst e; simp_all; done) | (simp; rw [take_all (by omega), take_all (by omega)] at he; exact he) | (simp; exact take_ne (by simp_all))) : p := h
set_option maxRecDepth 100000 in
theorem c_laws_eqIntS (w0 : World) (a : List Int) (pa : LP Int) (ha : GT.rd KK (Lt w0.heap.size) w0 a pa) (b : List Int) (pb : LP Int) (hb : GT.rd KK (Lt w0.heap.size) w0 b pb) : Calls Tryz.prog 89 [slv (a).length pa.1, slv (b).length pb.1].toArray w0 (fun e w' => e = .returned (B (decide (a = b))) ∧ Chg NoB w0 w') := by
 refine Calls.walk (args := [slv (a).length pa.1, slv (b).length pb.1]) NoB Tryz.func89 rfl rfl ?_
 intro ac β S
 have hlea : a.length ≤ 4194304 := LRd.le ha
 have hleb : b.length ≤ 4194304 := LRd.le hb
 refine ws (rg ?_)
 refine S.qe 1 [] [] ?_; clear S; intro ac w β S
 refine (nt (ws (ws (rg ?_))))
 refine S.qe 5 [] [(10, .v (B (((a).length : Int) != ((b).length : Int))))] ?_; clear S; intro ac w β S
 refine (nt (S.c (((a).length : Int) != ((b).length : Int)) (fun h1 => ?_) (fun h1 => ?_)))
 ·have g2 : ¬ (((a).length : Int) = ((b).length : Int)) := bne_iff_ne.1 h1
  refine ws (rg ?_)
  refine S.qe 1 [] [(4, .v (B false))] ?_; clear S; intro ac w β S
  exact (nt (wr (rt (S.r [B false] ⟨retB k0_laws_eqIntS, S.chg⟩))))
 ·have g3 : ((a).length : Int) = ((b).length : Int) := ne_f h1
  refine wk (nt (ws (ws (rg ?_))))
  refine S.qe 1 [] [(5, .v (I 0))] ?_; clear S; intro ac w β S
  refine (nt (wp_block ?_))
  refine wp_loop_down (fun mm ac w => ∃ (k : Nat)  (u : World) (N : Bl) (β : Nat → Nat), mm = a.length - k ∧ (k ≤ a.length) ∧ (a.length = b.length) ∧ (a.take k = b.take k) ∧ St Tryz.prog Tryz.f89.ntmps w0 NoB u N β ⟨[(0, .v (slv (a).length pa.1)), (1, .v (slv (b).length pb.1)), (5, .v (I (k : Int)))], []⟩ ac w) _ ⟨0, _, _, _, rfl, (by first | omega | (simp; done) | (simp; omega)), (by first | omega | (simp; done) | (simp; omega)), (by simp), S.z⟩ ?_
  clear S
  rintro mm ac w ⟨k, u, N, β, rfl, hk, hab, he, S⟩
  refine ws (ws (rg ?_))
  refine S.qe 4 [] [(14, .v (B (decide ((k : Int) < ((a).length : Int)))))] ?_; clear S; intro ac w β S
  refine (nt (S.c (decide ((k : Int) < ((a).length : Int))) (fun h4 => ?_) (fun h4 => ?_)))
  ·have g5 := of_decide_eq_true h4
   refine wk (nt (ws (wp_block (ws ?_))))
   refine S.drawn (keep := [0, 1, 5, 25]) (m := 0) (σ' := ⟨[(0, .v (slv (a).length pa.1)), (1, .v (slv (b).length pb.1)), (5, .v (I (k : Int))), (25, .v (B ((el a k) != (el b k))))], []⟩) (.cons (Q_idx (S.arg ha) (l := (a).length) (k := k) (i := (k : Int)) rfl rfl (by omega) Tryz.underlying55 (by kernel_rfl)) (.cons (Q_el1 (S.arg ha) (t := 3) (k := k) (by omega) rfl (by kernel_rfl)) (.cons (Q_idx (S.arg hb) (l := (b).length) (k := k) (i := (k : Int)) rfl rfl (by omega) Tryz.underlying55 (by kernel_rfl)) (.cons (Q_el1 (S.arg hb) (t := 3) (k := k) (by omega) rfl (by kernel_rfl)) .nil)))) rfl (by kernel_rfl) (by kernel_rfl) ?_
   clear S; intro ac w S
   refine id (nt (S.c ((el a k) != (el b k)) (fun h6 => ?_) (fun h6 => ?_)))
   ·have g7 : ¬ ((el a k) = (el b k)) := bne_iff_ne.1 h6
    refine ws (rg ?_)
    refine S.qe 1 [] [(4, .v (B false))] ?_; clear S; intro ac w β S
    exact (nt (wr (rb (rt (rt (rb (rt (S.r [B false] ⟨retB k0_laws_eqIntS, S.chg⟩))))))))
   ·have g8 : (el a k) = (el b k) := ne_f h6
    refine wk (nb (nt (rg ?_)))
    refine S.qg 3 [] [(5, .v (I ((k : Int) + 1)))] (.cons (Q_add (x := (k : Int)) (y := 1) ⟨by omega, by omega⟩) .nil) ?_; clear S; intro ac w β S
    refine (nt ?_)
    refine ⟨a.length - (k + 1), by omega, k + 1, _, _, _, rfl, ?_, ?_, ?_, S.z⟩
    ·clear S; first | omega | (simp [*]; done) | (simp [*]; omega)
    ·clear S; first | omega | (simp [*]; done) | (simp [*]; omega)
    ·clear S; exact take_eq_step (by omega) (by omega) he (by simp_all)
  ·have g9 := of_decide_eq_false h4
   refine wp_exit (ex_then (ex_then (ex_hit (nt (ws (rg ?_))))))
   refine S.qe 1 [] [(4, .v (B true))] ?_; clear S; intro ac w β S
   exact (nt (wr (S.r [B true] ⟨retB k0_laws_eqIntS, S.chg⟩)))

theorem k0_laws_eqIntSS {p : Prop} (h : p := by clear S; first | (simp; intro e; subst e; simp_all; done) | (simp; rw [take_all (by omega), take_all (by omega)] at he; exact he) | (simp; exact take_ne (by simp_all))) : p := h
set_option maxRecDepth 100000 in
theorem c_laws_eqIntSS (w0 : World) (a : List (List Int)) (pa : LP (List Int)) (ha : GT.rd KK (Lt w0.heap.size) w0 a pa) (b : List (List Int)) (pb : LP (List Int)) (hb : GT.rd KK (Lt w0.heap.size) w0 b pb) : Calls Tryz.prog 41 [slv (a).length pa.1, slv (b).length pb.1].toArray w0 (fun e w' => e = .returned (B (decide (a = b))) ∧ Chg NoB w0 w') := by
 refine Calls.walk (args := [slv (a).length pa.1, slv (b).length pb.1]) NoB Tryz.func41 rfl rfl ?_
 intro ac β S
 have hlea : a.length ≤ 4194304 := LRd.le ha
 have hleb : b.length ≤ 4194304 := LRd.le hb
 refine ws (rg ?_)
 refine S.qe 1 [] [] ?_; clear S; intro ac w β S
 refine (nt (ws (ws (rg ?_))))
 refine S.qe 5 [] [(10, .v (B (((a).length : Int) != ((b).length : Int))))] ?_; clear S; intro ac w β S
 refine (nt (S.c (((a).length : Int) != ((b).length : Int)) (fun h1 => ?_) (fun h1 => ?_)))
 ·have g2 : ¬ (((a).length : Int) = ((b).length : Int)) := bne_iff_ne.1 h1
  refine ws (rg ?_)
  refine S.qe 1 [] [(4, .v (B false))] ?_; clear S; intro ac w β S
  exact (nt (wr (rt (S.r [B false] ⟨retB k0_laws_eqIntSS, S.chg⟩))))
 ·have g3 : ((a).length : Int) = ((b).length : Int) := ne_f h1
  refine wk (nt (ws (ws (rg ?_))))
  refine S.qe 1 [] [(5, .v (I 0))] ?_; clear S; intro ac w β S
  refine (nt (wp_block ?_))
  refine wp_loop_down (fun mm ac w => ∃ (k : Nat)  (u : World) (N : Bl) (β : Nat → Nat), mm = a.length - k ∧ (k ≤ a.length) ∧ (a.length = b.length) ∧ (a.take k = b.take k) ∧ St Tryz.prog Tryz.f41.ntmps w0 NoB u N β ⟨[(0, .v (slv (a).length pa.1)), (1, .v (slv (b).length pb.1)), (5, .v (I (k : Int)))], []⟩ ac w) _ ⟨0, _, _, _, rfl, (by first | omega | (simp; done) | (simp; omega)), (by first | omega | (simp; done) | (simp; omega)), (by simp), S.z⟩ ?_
  clear S
  rintro mm ac w ⟨k, u, N, β, rfl, hk, hab, he, S⟩
  refine ws (ws (rg ?_))
  refine S.qe 4 [] [(14, .v (B (decide ((k : Int) < ((a).length : Int)))))] ?_; clear S; intro ac w β S
  refine (nt (S.c (decide ((k : Int) < ((a).length : Int))) (fun h4 => ?_) (fun h4 => ?_)))
  ·have g5 := of_decide_eq_true h4
   refine wk (nt (ws (wp_block (ws ?_))))
   refine S.drawn (keep := [0, 1, 5, 26]) (m := 0) (σ' := ⟨[(0, .v (slv (a).length pa.1)), (1, .v (slv (b).length pb.1)), (5, .v (I (k : Int))), (26, .v (B (!(decide ((el a k) = (el b k))))))], []⟩) (.cons (Q_idx (S.arg ha) (l := (a).length) (k := k) (i := (k : Int)) rfl rfl (by omega) Tryz.underlying22 (by kernel_rfl)) (.cons (Q_el1 (S.arg ha) (t := 55) (k := k) (by omega) rfl (by kernel_rfl)) (.cons (Q_idx (S.arg hb) (l := (b).length) (k := k) (i := (k : Int)) rfl rfl (by omega) Tryz.underlying22 (by kernel_rfl)) (.cons (Q_el1 (S.arg hb) (t := 55) (k := k) (by omega) rfl (by kernel_rfl)) (.cons (Q_call fun w hw => c_laws_eqIntS w (el a k) (pa.2 k) (rd_of (LRd.el (S.arg ha) k (by omega)) hw) (el b k) (pb.2 k) (rd_of (LRd.el (S.arg hb) k (by omega)) hw)) .nil))))) rfl (by kernel_rfl) (by kernel_rfl) ?_
   clear S; intro ac w S
   refine id (nt (S.c (!(decide ((el a k) = (el b k)))) (fun h6 => ?_) (fun h6 => ?_)))
   ·have h7 := not_t h6
    have g8 := of_decide_eq_false h7
    refine ws (rg ?_)
    refine S.qe 1 [] [(4, .v (B false))] ?_; clear S; intro ac w β S
    exact (nt (wr (rb (rt (rt (rb (rt (S.r [B false] ⟨retB k0_laws_eqIntSS, S.chg⟩))))))))
   ·have h9 := not_f h6
    have g10 := of_decide_eq_true h9
    refine wk (nb (nt (rg ?_)))
    refine S.qg 3 [] [(5, .v (I ((k : Int) + 1)))] (.cons (Q_add (x := (k : Int)) (y := 1) ⟨by omega, by omega⟩) .nil) ?_; clear S; intro ac w β S
    refine (nt ?_)
    refine ⟨a.length - (k + 1), by omega, k + 1, _, _, _, rfl, ?_, ?_, ?_, S.z⟩
    ·clear S; first | omega | (simp [*]; done) | (simp [*]; omega)
    ·clear S; first | omega | (simp [*]; done) | (simp [*]; omega)
    ·clear S; exact take_eq_step (by omega) (by omega) he (by simp_all)
  ·have g11 := of_decide_eq_false h4
   refine wp_exit (ex_then (ex_then (ex_hit (nt (ws (rg ?_))))))
   refine S.qe 1 [] [(4, .v (B true))] ?_; clear S; intro ac w β S
   exact (nt (wr (S.r [B true] ⟨retB k0_laws_eqIntSS, S.chg⟩)))

theorem k0_laws_eqSlot {p : Prop} (h : p := by clear S; first | (simp [TSlot.ext_iff, *]; done) | (simp_all [TSlot.ext_iff]; done)) : p := h
set_option maxRecDepth 100000 in
theorem c_laws_eqSlot (w0 : World) (a : TSlot) (b : TSlot) : Calls Tryz.prog 178 [GT.val a (), GT.val b ()].toArray w0 (fun e w' => e = .returned (B (decide (a = b))) ∧ Chg NoB w0 w') := by
 refine Calls.walk (args := [GT.val a (), GT.val b ()]) NoB Tryz.func178 rfl rfl ?_
 intro ac β S
 refine ws (rg ?_)
 refine S.qem 3 [] [(2, .p 0 0), (3, .p 1 0)] 2 [(0, GT.cells a ()), (1, GT.cells b ())] ?_; clear S; intro ac w β S
 refine (nt (ws (ws (rg ?_))))
 refine S.qe 5 [] [(9, .v (B (a.page != b.page)))] ?_; clear S; intro ac w β S
 refine (nt (S.c (a.page != b.page) (fun h1 => ?_) (fun h1 => ?_)))
 ·have g2 : ¬ (a.page = b.page) := bne_iff_ne.1 h1
  refine ws (rg ?_)
  refine S.qe 1 [] [(4, .v (B false))] ?_; clear S; intro ac w β S
  exact (nt (wr (rt (S.r [B false] ⟨retB k0_laws_eqSlot, S.chg⟩))))
 ·have g3 : a.page = b.page := ne_f h1
  refine wk (nt (ws (ws (rg ?_))))
  refine S.qem 5 [] [(14, .v (B (a.rights != b.rights)))] 0 [] ?_; clear S; intro ac w β S
  refine (nt (S.c (a.rights != b.rights) (fun h4 => ?_) (fun h4 => ?_)))
  ·have g5 : ¬ (a.rights = b.rights) := bne_iff_ne.1 h4
   refine ws (rg ?_)
   refine S.qe 1 [] [(4, .v (B false))] ?_; clear S; intro ac w β S
   exact (nt (wr (rt (S.r [B false] ⟨retB k0_laws_eqSlot, S.chg⟩))))
  ·have g6 : a.rights = b.rights := ne_f h4
   refine wk (nt (ws (rg ?_)))
   refine S.qe 1 [] [(4, .v (B true))] ?_; clear S; intro ac w β S
   exact (nt (wr (S.r [B true] ⟨retB k0_laws_eqSlot, S.chg⟩)))

theorem k0_laws_eqSlotS {p : Prop} (h : p := by clear S; first | (simp; intro e; subst e; simp_all; done) | (simp; rw [take_all (by omega), take_all (by omega)] at he; exact he) | (simp; exact take_ne (by simp_all))) : p := h
set_option maxRecDepth 100000 in
theorem c_laws_eqSlotS (w0 : World) (a : List TSlot) (pa : LP TSlot) (ha : GT.rd KK (Lt w0.heap.size) w0 a pa) (b : List TSlot) (pb : LP TSlot) (hb : GT.rd KK (Lt w0.heap.size) w0 b pb) : Calls Tryz.prog 149 [slv (a).length pa.1, slv (b).length pb.1].toArray w0 (fun e w' => e = .returned (B (decide (a = b))) ∧ Chg NoB w0 w') := by
 refine Calls.walk (args := [slv (a).length pa.1, slv (b).length pb.1]) NoB Tryz.func149 rfl rfl ?_
 intro ac β S
 have hlea : a.length ≤ 4194304 := LRd.le ha
 have hleb : b.length ≤ 4194304 := LRd.le hb
 refine ws (rg ?_)
 refine S.qe 1 [] [] ?_; clear S; intro ac w β S
 refine (nt (ws (ws (rg ?_))))
 refine S.qe 5 [] [(10, .v (B (((a).length : Int) != ((b).length : Int))))] ?_; clear S; intro ac w β S
 refine (nt (S.c (((a).length : Int) != ((b).length : Int)) (fun h1 => ?_) (fun h1 => ?_)))
 ·have g2 : ¬ (((a).length : Int) = ((b).length : Int)) := bne_iff_ne.1 h1
  refine ws (rg ?_)
  refine S.qe 1 [] [(4, .v (B false))] ?_; clear S; intro ac w β S
  exact (nt (wr (rt (S.r [B false] ⟨retB k0_laws_eqSlotS, S.chg⟩))))
 ·have g3 : ((a).length : Int) = ((b).length : Int) := ne_f h1
  refine wk (nt (ws (ws (rg ?_))))
  refine S.qe 1 [] [(5, .v (I 0))] ?_; clear S; intro ac w β S
  refine (nt (wp_block ?_))
  refine wp_loop_down (fun mm ac w => ∃ (k : Nat)  (u : World) (N : Bl) (β : Nat → Nat), mm = a.length - k ∧ (k ≤ a.length) ∧ (a.length = b.length) ∧ (a.take k = b.take k) ∧ St Tryz.prog Tryz.f149.ntmps w0 NoB u N β ⟨[(0, .v (slv (a).length pa.1)), (1, .v (slv (b).length pb.1)), (5, .v (I (k : Int)))], []⟩ ac w) _ ⟨0, _, _, _, rfl, (by first | omega | (simp; done) | (simp; omega)), (by first | omega | (simp; done) | (simp; omega)), (by simp), S.z⟩ ?_
  clear S
  rintro mm ac w ⟨k, u, N, β, rfl, hk, hab, he, S⟩
  refine ws (ws (rg ?_))
  refine S.qe 4 [] [(14, .v (B (decide ((k : Int) < ((a).length : Int)))))] ?_; clear S; intro ac w β S
  refine (nt (S.c (decide ((k : Int) < ((a).length : Int))) (fun h4 => ?_) (fun h4 => ?_)))
  ·have g5 := of_decide_eq_true h4
   refine wk (nt (ws (wp_block (ws ?_))))
   refine S.drawn (keep := [0, 1, 5, 26]) (m := 0) (σ' := ⟨[(0, .v (slv (a).length pa.1)), (1, .v (slv (b).length pb.1)), (5, .v (I (k : Int))), (26, .v (B (!(decide ((el a k) = (el b k))))))], []⟩) (.cons (Q_idx (S.arg ha) (l := (a).length) (k := k) (i := (k : Int)) rfl rfl (by omega) Tryz.underlying61 (by kernel_rfl)) (.cons (Q_el (S.arg ha) (t := 37) (k := k) (by omega) rfl (by kernel_rfl) (by kernel_rfl)) (.cons (Q_idx (S.arg hb) (l := (b).length) (k := k) (i := (k : Int)) rfl rfl (by omega) Tryz.underlying61 (by kernel_rfl)) (.cons (Q_el (S.arg hb) (t := 37) (k := k) (by omega) rfl (by kernel_rfl) (by kernel_rfl)) (.cons (Q_call fun w hw => c_laws_eqSlot w (el a k) (el b k)) .nil))))) rfl (by kernel_rfl) (by kernel_rfl) ?_
   clear S; intro ac w S
   refine id (nt (S.c (!(decide ((el a k) = (el b k)))) (fun h6 => ?_) (fun h6 => ?_)))
   ·have h7 := not_t h6
    have g8 := of_decide_eq_false h7
    refine ws (rg ?_)
    refine S.qe 1 [] [(4, .v (B false))] ?_; clear S; intro ac w β S
    exact (nt (wr (rb (rt (rt (rb (rt (S.r [B false] ⟨retB k0_laws_eqSlotS, S.chg⟩))))))))
   ·have h9 := not_f h6
    have g10 := of_decide_eq_true h9
    refine wk (nb (nt (rg ?_)))
    refine S.qg 3 [] [(5, .v (I ((k : Int) + 1)))] (.cons (Q_add (x := (k : Int)) (y := 1) ⟨by omega, by omega⟩) .nil) ?_; clear S; intro ac w β S
    refine (nt ?_)
    refine ⟨a.length - (k + 1), by omega, k + 1, _, _, _, rfl, ?_, ?_, ?_, S.z⟩
    ·clear S; first | omega | (simp [*]; done) | (simp [*]; omega)
    ·clear S; first | omega | (simp [*]; done) | (simp [*]; omega)
    ·clear S; exact take_eq_step (by omega) (by omega) he (by simp_all)
  ·have g11 := of_decide_eq_false h4
   refine wp_exit (ex_then (ex_then (ex_hit (nt (ws (rg ?_))))))
   refine S.qe 1 [] [(4, .v (B true))] ?_; clear S; intro ac w β S
   exact (nt (wr (S.r [B true] ⟨retB k0_laws_eqSlotS, S.chg⟩)))

theorem k0_laws_eqBoolS {p : Prop} (h : p := by clear S; first | (simp; intro e; subst e; simp_all; done) | (simp; rw [take_all (by omega), take_all (by omega)] at he; exact he) | (simp; exact take_ne (by simp_all))) : p := h
set_option maxRecDepth 100000 in
theorem c_laws_eqBoolS (w0 : World) (a : List Bool) (pa : LP Bool) (ha : GT.rd KK (Lt w0.heap.size) w0 a pa) (b : List Bool) (pb : LP Bool) (hb : GT.rd KK (Lt w0.heap.size) w0 b pb) : Calls Tryz.prog 150 [slv (a).length pa.1, slv (b).length pb.1].toArray w0 (fun e w' => e = .returned (B (decide (a = b))) ∧ Chg NoB w0 w') := by
 refine Calls.walk (args := [slv (a).length pa.1, slv (b).length pb.1]) NoB Tryz.func150 rfl rfl ?_
 intro ac β S
 have hlea : a.length ≤ 4194304 := LRd.le ha
 have hleb : b.length ≤ 4194304 := LRd.le hb
 refine ws (rg ?_)
 refine S.qe 1 [] [] ?_; clear S; intro ac w β S
 refine (nt (ws (ws (rg ?_))))
 refine S.qe 5 [] [(10, .v (B (((a).length : Int) != ((b).length : Int))))] ?_; clear S; intro ac w β S
 refine (nt (S.c (((a).length : Int) != ((b).length : Int)) (fun h1 => ?_) (fun h1 => ?_)))
 ·have g2 : ¬ (((a).length : Int) = ((b).length : Int)) := bne_iff_ne.1 h1
  refine ws (rg ?_)
  refine S.qe 1 [] [(4, .v (B false))] ?_; clear S; intro ac w β S
  exact (nt (wr (rt (S.r [B false] ⟨retB k0_laws_eqBoolS, S.chg⟩))))
 ·have g3 : ((a).length : Int) = ((b).length : Int) := ne_f h1
  refine wk (nt (ws (ws (rg ?_))))
  refine S.qe 1 [] [(5, .v (I 0))] ?_; clear S; intro ac w β S
  refine (nt (wp_block ?_))
  refine wp_loop_down (fun mm ac w => ∃ (k : Nat)  (u : World) (N : Bl) (β : Nat → Nat), mm = a.length - k ∧ (k ≤ a.length) ∧ (a.length = b.length) ∧ (a.take k = b.take k) ∧ St Tryz.prog Tryz.f150.ntmps w0 NoB u N β ⟨[(0, .v (slv (a).length pa.1)), (1, .v (slv (b).length pb.1)), (5, .v (I (k : Int)))], []⟩ ac w) _ ⟨0, _, _, _, rfl, (by first | omega | (simp; done) | (simp; omega)), (by first | omega | (simp; done) | (simp; omega)), (by simp), S.z⟩ ?_
  clear S
  rintro mm ac w ⟨k, u, N, β, rfl, hk, hab, he, S⟩
  refine ws (ws (rg ?_))
  refine S.qe 4 [] [(14, .v (B (decide ((k : Int) < ((a).length : Int)))))] ?_; clear S; intro ac w β S
  refine (nt (S.c (decide ((k : Int) < ((a).length : Int))) (fun h4 => ?_) (fun h4 => ?_)))
  ·have g5 := of_decide_eq_true h4
   refine wk (nt (ws (wp_block (ws ?_))))
   refine S.drawn (keep := [0, 1, 5, 25]) (m := 0) (σ' := ⟨[(0, .v (slv (a).length pa.1)), (1, .v (slv (b).length pb.1)), (5, .v (I (k : Int))), (25, .v (B (!((el a k) == (el b k)))))], []⟩) (.cons (Q_idx (S.arg ha) (l := (a).length) (k := k) (i := (k : Int)) rfl rfl (by omega) Tryz.underlying62 (by kernel_rfl)) (.cons (Q_el1 (S.arg ha) (t := 4) (k := k) (by omega) rfl (by kernel_rfl)) (.cons (Q_idx (S.arg hb) (l := (b).length) (k := k) (i := (k : Int)) rfl rfl (by omega) Tryz.underlying62 (by kernel_rfl)) (.cons (Q_el1 (S.arg hb) (t := 4) (k := k) (by omega) rfl (by kernel_rfl)) .nil)))) rfl (by kernel_rfl) (by kernel_rfl) ?_
   clear S; intro ac w S
   refine id (nt (S.c (!((el a k) == (el b k))) (fun h6 => ?_) (fun h6 => ?_)))
   ·have h7 := not_t h6
    have g8 : ¬ ((el a k) = (el b k)) := ne_of_beq_false h7
    refine ws (rg ?_)
    refine S.qe 1 [] [(4, .v (B false))] ?_; clear S; intro ac w β S
    exact (nt (wr (rb (rt (rt (rb (rt (S.r [B false] ⟨retB k0_laws_eqBoolS, S.chg⟩))))))))
   ·have h9 := not_f h6
    have g10 : (el a k) = (el b k) := eq_of_beq h9
    refine wk (nb (nt (rg ?_)))
    refine S.qg 3 [] [(5, .v (I ((k : Int) + 1)))] (.cons (Q_add (x := (k : Int)) (y := 1) ⟨by omega, by omega⟩) .nil) ?_; clear S; intro ac w β S
    refine (nt ?_)
    refine ⟨a.length - (k + 1), by omega, k + 1, _, _, _, rfl, ?_, ?_, ?_, S.z⟩
    ·clear S; first | omega | (simp [*]; done) | (simp [*]; omega)
    ·clear S; first | omega | (simp [*]; done) | (simp [*]; omega)
    ·clear S; exact take_eq_step (by omega) (by omega) he (by simp_all)
  ·have g11 := of_decide_eq_false h4
   refine wp_exit (ex_then (ex_then (ex_hit (nt (ws (rg ?_))))))
   refine S.qe 1 [] [(4, .v (B true))] ?_; clear S; intro ac w β S
   exact (nt (wr (S.r [B true] ⟨retB k0_laws_eqBoolS, S.chg⟩)))

theorem k0_laws_eqIns {p : Prop} (h : p := by clear S; first | (simp [TIns.ext_iff, *]; done) | (simp_all [TIns.ext_iff]; done)) : p := h
set_option maxRecDepth 100000 in
theorem c_laws_eqIns (w0 : World) (a : TIns) (b : TIns) : Calls Tryz.prog 204 [GT.val a (), GT.val b ()].toArray w0 (fun e w' => e = .returned (B (decide (a = b))) ∧ Chg NoB w0 w') := by
 refine Calls.walk (args := [GT.val a (), GT.val b ()]) NoB Tryz.func204 rfl rfl ?_
 intro ac β S
 refine ws (rg ?_)
 refine S.qem 3 [] [(2, .p 0 0), (3, .p 1 0)] 2 [(0, GT.cells a ()), (1, GT.cells b ())] ?_; clear S; intro ac w β S
 refine (nt (ws (ws (rg ?_))))
 refine S.qe 5 [] [(9, .v (B (a.opc != b.opc)))] ?_; clear S; intro ac w β S
 refine (nt (S.c (a.opc != b.opc) (fun h1 => ?_) (fun h1 => ?_)))
 ·have g2 : ¬ (a.opc = b.opc) := bne_iff_ne.1 h1
  refine ws (rg ?_)
  refine S.qe 1 [] [(4, .v (B false))] ?_; clear S; intro ac w β S
  exact (nt (wr (rt (S.r [B false] ⟨retB k0_laws_eqIns, S.chg⟩))))
 ·have g3 : a.opc = b.opc := ne_f h1
  refine wk (nt (ws (ws (rg ?_))))
  refine S.qem 5 [] [(14, .v (B (a.x != b.x)))] 0 [] ?_; clear S; intro ac w β S
  refine (nt (S.c (a.x != b.x) (fun h4 => ?_) (fun h4 => ?_)))
  ·have g5 : ¬ (a.x = b.x) := bne_iff_ne.1 h4
   refine ws (rg ?_)
   refine S.qe 1 [] [(4, .v (B false))] ?_; clear S; intro ac w β S
   exact (nt (wr (rt (S.r [B false] ⟨retB k0_laws_eqIns, S.chg⟩))))
  ·have g6 : a.x = b.x := ne_f h4
   refine wk (nt (ws (rg ?_)))
   refine S.qe 1 [] [(4, .v (B true))] ?_; clear S; intro ac w β S
   exact (nt (wr (S.r [B true] ⟨retB k0_laws_eqIns, S.chg⟩)))

theorem k0_laws_eqInsS {p : Prop} (h : p := by clear S; first | (simp; intro e; subst e; simp_all; done) | (simp; rw [take_all (by omega), take_all (by omega)] at he; exact he) | (simp; exact take_ne (by simp_all))) : p := h
set_option maxRecDepth 100000 in
theorem c_laws_eqInsS (w0 : World) (a : List TIns) (pa : LP TIns) (ha : GT.rd KK (Lt w0.heap.size) w0 a pa) (b : List TIns) (pb : LP TIns) (hb : GT.rd KK (Lt w0.heap.size) w0 b pb) : Calls Tryz.prog 194 [slv (a).length pa.1, slv (b).length pb.1].toArray w0 (fun e w' => e = .returned (B (decide (a = b))) ∧ Chg NoB w0 w') := by
 refine Calls.walk (args := [slv (a).length pa.1, slv (b).length pb.1]) NoB Tryz.func194 rfl rfl ?_
 intro ac β S
 have hlea : a.length ≤ 4194304 := LRd.le ha
 have hleb : b.length ≤ 4194304 := LRd.le hb
 refine ws (rg ?_)
 refine S.qe 1 [] [] ?_; clear S; intro ac w β S
 refine (nt (ws (ws (rg ?_))))
 refine S.qe 5 [] [(10, .v (B (((a).length : Int) != ((b).length : Int))))] ?_; clear S; intro ac w β S
 refine (nt (S.c (((a).length : Int) != ((b).length : Int)) (fun h1 => ?_) (fun h1 => ?_)))
 ·have g2 : ¬ (((a).length : Int) = ((b).length : Int)) := bne_iff_ne.1 h1
  refine ws (rg ?_)
  refine S.qe 1 [] [(4, .v (B false))] ?_; clear S; intro ac w β S
  exact (nt (wr (rt (S.r [B false] ⟨retB k0_laws_eqInsS, S.chg⟩))))
 ·have g3 : ((a).length : Int) = ((b).length : Int) := ne_f h1
  refine wk (nt (ws (ws (rg ?_))))
  refine S.qe 1 [] [(5, .v (I 0))] ?_; clear S; intro ac w β S
  refine (nt (wp_block ?_))
  refine wp_loop_down (fun mm ac w => ∃ (k : Nat)  (u : World) (N : Bl) (β : Nat → Nat), mm = a.length - k ∧ (k ≤ a.length) ∧ (a.length = b.length) ∧ (a.take k = b.take k) ∧ St Tryz.prog Tryz.f194.ntmps w0 NoB u N β ⟨[(0, .v (slv (a).length pa.1)), (1, .v (slv (b).length pb.1)), (5, .v (I (k : Int)))], []⟩ ac w) _ ⟨0, _, _, _, rfl, (by first | omega | (simp; done) | (simp; omega)), (by first | omega | (simp; done) | (simp; omega)), (by simp), S.z⟩ ?_
  clear S
  rintro mm ac w ⟨k, u, N, β, rfl, hk, hab, he, S⟩
  refine ws (ws (rg ?_))
  refine S.qe 4 [] [(14, .v (B (decide ((k : Int) < ((a).length : Int)))))] ?_; clear S; intro ac w β S
  refine (nt (S.c (decide ((k : Int) < ((a).length : Int))) (fun h4 => ?_) (fun h4 => ?_)))
  ·have g5 := of_decide_eq_true h4
   refine wk (nt (ws (wp_block (ws ?_))))
   refine S.drawn (keep := [0, 1, 5, 26]) (m := 0) (σ' := ⟨[(0, .v (slv (a).length pa.1)), (1, .v (slv (b).length pb.1)), (5, .v (I (k : Int))), (26, .v (B (!(decide ((el a k) = (el b k))))))], []⟩) (.cons (Q_idx (S.arg ha) (l := (a).length) (k := k) (i := (k : Int)) rfl rfl (by omega) Tryz.underlying95 (by kernel_rfl)) (.cons (Q_el (S.arg ha) (t := 181) (k := k) (by omega) rfl (by kernel_rfl) (by kernel_rfl)) (.cons (Q_idx (S.arg hb) (l := (b).length) (k := k) (i := (k : Int)) rfl rfl (by omega) Tryz.underlying95 (by kernel_rfl)) (.cons (Q_el (S.arg hb) (t := 181) (k := k) (by omega) rfl (by kernel_rfl) (by kernel_rfl)) (.cons (Q_call fun w hw => c_laws_eqIns w (el a k) (el b k)) .nil))))) rfl (by kernel_rfl) (by kernel_rfl) ?_
   clear S; intro ac w S
   refine id (nt (S.c (!(decide ((el a k) = (el b k)))) (fun h6 => ?_) (fun h6 => ?_)))
   ·have h7 := not_t h6
    have g8 := of_decide_eq_false h7
    refine ws (rg ?_)
    refine S.qe 1 [] [(4, .v (B false))] ?_; clear S; intro ac w β S
    exact (nt (wr (rb (rt (rt (rb (rt (S.r [B false] ⟨retB k0_laws_eqInsS, S.chg⟩))))))))
   ·have h9 := not_f h6
    have g10 := of_decide_eq_true h9
    refine wk (nb (nt (rg ?_)))
    refine S.qg 3 [] [(5, .v (I ((k : Int) + 1)))] (.cons (Q_add (x := (k : Int)) (y := 1) ⟨by omega, by omega⟩) .nil) ?_; clear S; intro ac w β S
    refine (nt ?_)
    refine ⟨a.length - (k + 1), by omega, k + 1, _, _, _, rfl, ?_, ?_, ?_, S.z⟩
    ·clear S; first | omega | (simp [*]; done) | (simp [*]; omega)
    ·clear S; first | omega | (simp [*]; done) | (simp [*]; omega)
    ·clear S; exact take_eq_step (by omega) (by omega) he (by simp_all)
  ·have g11 := of_decide_eq_false h4
   refine wp_exit (ex_then (ex_then (ex_hit (nt (ws (rg ?_))))))
   refine S.qe 1 [] [(4, .v (B true))] ?_; clear S; intro ac w β S
   exact (nt (wr (S.r [B true] ⟨retB k0_laws_eqInsS, S.chg⟩)))

theorem k0_laws_eqCtl {p : Prop} (h : p := by clear S; first | (simp [TCtl.ext_iff, *]; done) | (simp_all [TCtl.ext_iff]; done)) : p := h
set_option maxRecDepth 100000 in
theorem c_laws_eqCtl (w0 : World) (a : TCtl) (b : TCtl) : Calls Tryz.prog 195 [GT.val a (), GT.val b ()].toArray w0 (fun e w' => e = .returned (B (decide (a = b))) ∧ Chg NoB w0 w') := by
 refine Calls.walk (args := [GT.val a (), GT.val b ()]) NoB Tryz.func195 rfl rfl ?_
 intro ac β S
 refine ws (rg ?_)
 refine S.qem 3 [] [(2, .p 0 0), (3, .p 1 0)] 2 [(0, GT.cells a ()), (1, GT.cells b ())] ?_; clear S; intro ac w β S
 refine (nt (ws (ws (rg ?_))))
 refine S.qe 5 [] [(9, .v (B (a.traps != b.traps)))] ?_; clear S; intro ac w β S
 refine (nt (S.c (a.traps != b.traps) (fun h1 => ?_) (fun h1 => ?_)))
 ·have g2 : ¬ (a.traps = b.traps) := bne_iff_ne.1 h1
  refine ws (rg ?_)
  refine S.qe 1 [] [(4, .v (B false))] ?_; clear S; intro ac w β S
  exact (nt (wr (rt (S.r [B false] ⟨retB k0_laws_eqCtl, S.chg⟩))))
 ·have g3 : a.traps = b.traps := ne_f h1
  refine wk (nt (ws (ws (rg ?_))))
  refine S.qe 5 [] [(14, .v (B (a.post != b.post)))] ?_; clear S; intro ac w β S
  refine (nt (S.c (a.post != b.post) (fun h4 => ?_) (fun h4 => ?_)))
  ·have g5 : ¬ (a.post = b.post) := bne_iff_ne.1 h4
   refine ws (rg ?_)
   refine S.qe 1 [] [(4, .v (B false))] ?_; clear S; intro ac w β S
   exact (nt (wr (rt (S.r [B false] ⟨retB k0_laws_eqCtl, S.chg⟩))))
  ·have g6 : a.post = b.post := ne_f h4
   refine wk (nt (ws (ws (rg ?_))))
   refine S.qem 5 [] [(19, .v (B (!(a.opn == b.opn))))] 0 [] ?_; clear S; intro ac w β S
   refine (nt (S.c (!(a.opn == b.opn)) (fun h7 => ?_) (fun h7 => ?_)))
   ·have h8 := not_t h7
    have g9 : ¬ (a.opn = b.opn) := ne_of_beq_false h8
    refine ws (rg ?_)
    refine S.qe 1 [] [(4, .v (B false))] ?_; clear S; intro ac w β S
    exact (nt (wr (rt (S.r [B false] ⟨retB k0_laws_eqCtl, S.chg⟩))))
   ·have h10 := not_f h7
    have g11 : a.opn = b.opn := eq_of_beq h10
    refine wk (nt (ws (rg ?_)))
    refine S.qe 1 [] [(4, .v (B true))] ?_; clear S; intro ac w β S
    exact (nt (wr (S.r [B true] ⟨retB k0_laws_eqCtl, S.chg⟩)))

theorem k0_laws_eqExit {p : Prop} (h : p := by clear S; first | (simp [TExit.ext_iff, *]; done) | (simp_all [TExit.ext_iff]; done)) : p := h
set_option maxRecDepth 100000 in
theorem c_laws_eqExit (w0 : World) (a : TExit) (b : TExit) : Calls Tryz.prog 196 [GT.val a (), GT.val b ()].toArray w0 (fun e w' => e = .returned (B (decide (a = b))) ∧ Chg NoB w0 w') := by
 refine Calls.walk (args := [GT.val a (), GT.val b ()]) NoB Tryz.func196 rfl rfl ?_
 intro ac β S
 refine ws (rg ?_)
 refine S.qem 3 [] [(2, .p 0 0), (3, .p 1 0)] 2 [(0, GT.cells a ()), (1, GT.cells b ())] ?_; clear S; intro ac w β S
 refine (nt (ws (ws (rg ?_))))
 refine S.qe 5 [] [(9, .v (B (a.kind != b.kind)))] ?_; clear S; intro ac w β S
 refine (nt (S.c (a.kind != b.kind) (fun h1 => ?_) (fun h1 => ?_)))
 ·have g2 : ¬ (a.kind = b.kind) := bne_iff_ne.1 h1
  refine ws (rg ?_)
  refine S.qe 1 [] [(4, .v (B false))] ?_; clear S; intro ac w β S
  exact (nt (wr (rt (S.r [B false] ⟨retB k0_laws_eqExit, S.chg⟩))))
 ·have g3 : a.kind = b.kind := ne_f h1
  refine wk (nt (ws (ws (rg ?_))))
  refine S.qe 5 [] [(14, .v (B (a.page != b.page)))] ?_; clear S; intro ac w β S
  refine (nt (S.c (a.page != b.page) (fun h4 => ?_) (fun h4 => ?_)))
  ·have g5 : ¬ (a.page = b.page) := bne_iff_ne.1 h4
   refine ws (rg ?_)
   refine S.qe 1 [] [(4, .v (B false))] ?_; clear S; intro ac w β S
   exact (nt (wr (rt (S.r [B false] ⟨retB k0_laws_eqExit, S.chg⟩))))
  ·have g6 : a.page = b.page := ne_f h4
   refine wk (nt (ws (ws (rg ?_))))
   refine S.qe 5 [] [(19, .v (B (!(a.wr == b.wr))))] ?_; clear S; intro ac w β S
   refine (nt (S.c (!(a.wr == b.wr)) (fun h7 => ?_) (fun h7 => ?_)))
   ·have h8 := not_t h7
    have g9 : ¬ (a.wr = b.wr) := ne_of_beq_false h8
    refine ws (rg ?_)
    refine S.qe 1 [] [(4, .v (B false))] ?_; clear S; intro ac w β S
    exact (nt (wr (rt (S.r [B false] ⟨retB k0_laws_eqExit, S.chg⟩))))
   ·have h10 := not_f h7
    have g11 : a.wr = b.wr := eq_of_beq h10
    refine wk (nt (ws (ws (rg ?_))))
    refine S.qem 5 [] [(24, .v (B (a.n != b.n)))] 0 [] ?_; clear S; intro ac w β S
    refine (nt (S.c (a.n != b.n) (fun h12 => ?_) (fun h12 => ?_)))
    ·have g13 : ¬ (a.n = b.n) := bne_iff_ne.1 h12
     refine ws (rg ?_)
     refine S.qe 1 [] [(4, .v (B false))] ?_; clear S; intro ac w β S
     exact (nt (wr (rt (S.r [B false] ⟨retB k0_laws_eqExit, S.chg⟩))))
    ·have g14 : a.n = b.n := ne_f h12
     refine wk (nt (ws (rg ?_)))
     refine S.qe 1 [] [(4, .v (B true))] ?_; clear S; intro ac w β S
     exact (nt (wr (S.r [B true] ⟨retB k0_laws_eqExit, S.chg⟩)))

theorem k0_laws_eqGuest {p : Prop} (h : p := by clear S; first | (simp [TGuest.ext_iff, *]; done) | (simp_all [TGuest.ext_iff]; done)) : p := h
set_option maxRecDepth 100000 in
theorem c_laws_eqGuest (w0 : World) (a : TGuest) (pa : PGuest) (ha : GT.rd KK (Lt w0.heap.size) w0 a pa) (b : TGuest) (pb : PGuest) (hb : GT.rd KK (Lt w0.heap.size) w0 b pb) : Calls Tryz.prog 179 [GT.val a pa, GT.val b pb].toArray w0 (fun e w' => e = .returned (B (decide (a = b))) ∧ Chg NoB w0 w') := by
 refine Calls.walk (args := [GT.val a pa, GT.val b pb]) NoB Tryz.func179 rfl rfl ?_
 intro ac β S
 have hlea_prog : a.prog.length ≤ 4194304 := LRd.le (RGuest.prog (d := a) ha)
 have hlea_written : a.written.length ≤ 4194304 := LRd.le (RGuest.written (d := a) ha)
 have hlea_live : a.live.length ≤ 4194304 := LRd.le (RGuest.live (d := a) ha)
 have hlea_seen : a.seen.length ≤ 4194304 := LRd.le (RGuest.seen (d := a) ha)
 have hleb_prog : b.prog.length ≤ 4194304 := LRd.le (RGuest.prog (d := b) hb)
 have hleb_written : b.written.length ≤ 4194304 := LRd.le (RGuest.written (d := b) hb)
 have hleb_live : b.live.length ≤ 4194304 := LRd.le (RGuest.live (d := b) hb)
 have hleb_seen : b.seen.length ≤ 4194304 := LRd.le (RGuest.seen (d := b) hb)
 refine ws (rg ?_)
 refine S.qem 3 [] [(2, .p 0 0), (3, .p 1 0)] 2 [(0, GT.cells a pa), (1, GT.cells b pb)] ?_; clear S; intro ac w β S
 refine (nt (ws (ws (rg ?_))))
 refine S.qg 6 [] [(10, .v (B (!(decide (a.prog = b.prog)))))] (.cons (Q_call fun w hw => c_laws_eqInsS w a.prog pa.prog (rd_of (RGuest.prog (d := a) (S.arg ha)) hw) b.prog pb.prog (rd_of (RGuest.prog (d := b) (S.arg hb)) hw)) .nil) ?_; clear S; intro ac w β S
 refine (nt (S.c (!(decide (a.prog = b.prog))) (fun h1 => ?_) (fun h1 => ?_)))
 ·have h2 := not_t h1
  have g3 := of_decide_eq_false h2
  refine ws (rg ?_)
  refine S.qe 1 [] [(4, .v (B false))] ?_; clear S; intro ac w β S
  exact (nt (wr (rt (S.r [B false] ⟨retB k0_laws_eqGuest, S.chg⟩))))
 ·have h4 := not_f h1
  have g5 := of_decide_eq_true h4
  refine wk (nt (ws (ws (rg ?_))))
  refine S.qe 5 [] [(15, .v (B (a.acc != b.acc)))] ?_; clear S; intro ac w β S
  refine (nt (S.c (a.acc != b.acc) (fun h6 => ?_) (fun h6 => ?_)))
  ·have g7 : ¬ (a.acc = b.acc) := bne_iff_ne.1 h6
   refine ws (rg ?_)
   refine S.qe 1 [] [(4, .v (B false))] ?_; clear S; intro ac w β S
   exact (nt (wr (rt (S.r [B false] ⟨retB k0_laws_eqGuest, S.chg⟩))))
  ·have g8 : a.acc = b.acc := ne_f h6
   refine wk (nt (ws (ws (rg ?_))))
   refine S.qe 5 [] [(20, .v (B (a.pc != b.pc)))] ?_; clear S; intro ac w β S
   refine (nt (S.c (a.pc != b.pc) (fun h9 => ?_) (fun h9 => ?_)))
   ·have g10 : ¬ (a.pc = b.pc) := bne_iff_ne.1 h9
    refine ws (rg ?_)
    refine S.qe 1 [] [(4, .v (B false))] ?_; clear S; intro ac w β S
    exact (nt (wr (rt (S.r [B false] ⟨retB k0_laws_eqGuest, S.chg⟩))))
   ·have g11 : a.pc = b.pc := ne_f h9
    refine wk (nt (ws (ws (rg ?_))))
    refine S.qg 6 [] [(26, .v (B (!(decide (a.written = b.written)))))] (.cons (Q_call fun w hw => c_laws_eqSlotS w a.written pa.written (rd_of (RGuest.written (d := a) (S.arg ha)) hw) b.written pb.written (rd_of (RGuest.written (d := b) (S.arg hb)) hw)) .nil) ?_; clear S; intro ac w β S
    refine (nt (S.c (!(decide (a.written = b.written))) (fun h12 => ?_) (fun h12 => ?_)))
    ·have h13 := not_t h12
     have g14 := of_decide_eq_false h13
     refine ws (rg ?_)
     refine S.qe 1 [] [(4, .v (B false))] ?_; clear S; intro ac w β S
     exact (nt (wr (rt (S.r [B false] ⟨retB k0_laws_eqGuest, S.chg⟩))))
    ·have h15 := not_f h12
     have g16 := of_decide_eq_true h15
     refine wk (nt (ws (ws (rg ?_))))
     refine S.qg 6 [] [(32, .v (B (!(decide (a.live = b.live)))))] (.cons (Q_call fun w hw => c_laws_eqSlotS w a.live pa.live (rd_of (RGuest.live (d := a) (S.arg ha)) hw) b.live pb.live (rd_of (RGuest.live (d := b) (S.arg hb)) hw)) .nil) ?_; clear S; intro ac w β S
     refine (nt (S.c (!(decide (a.live = b.live))) (fun h17 => ?_) (fun h17 => ?_)))
     ·have h18 := not_t h17
      have g19 := of_decide_eq_false h18
      refine ws (rg ?_)
      refine S.qe 1 [] [(4, .v (B false))] ?_; clear S; intro ac w β S
      exact (nt (wr (rt (S.r [B false] ⟨retB k0_laws_eqGuest, S.chg⟩))))
     ·have h20 := not_f h17
      have g21 := of_decide_eq_true h20
      refine wk (nt (ws (ws (rg ?_))))
      refine S.qg 6 [] [(38, .v (B (!(decide (a.ctl = b.ctl)))))] (.cons (Q_call fun w hw => c_laws_eqCtl w a.ctl b.ctl) .nil) ?_; clear S; intro ac w β S
      refine (nt (S.c (!(decide (a.ctl = b.ctl))) (fun h22 => ?_) (fun h22 => ?_)))
      ·have h23 := not_t h22
       have g24 := of_decide_eq_false h23
       refine ws (rg ?_)
       refine S.qe 1 [] [(4, .v (B false))] ?_; clear S; intro ac w β S
       exact (nt (wr (rt (S.r [B false] ⟨retB k0_laws_eqGuest, S.chg⟩))))
      ·have h25 := not_f h22
       have g26 := of_decide_eq_true h25
       refine wk (nt (ws (ws (rg ?_))))
       refine S.qe 5 [] [(43, .v (B (a.pend != b.pend)))] ?_; clear S; intro ac w β S
       refine (nt (S.c (a.pend != b.pend) (fun h27 => ?_) (fun h27 => ?_)))
       ·have g28 : ¬ (a.pend = b.pend) := bne_iff_ne.1 h27
        refine ws (rg ?_)
        refine S.qe 1 [] [(4, .v (B false))] ?_; clear S; intro ac w β S
        exact (nt (wr (rt (S.r [B false] ⟨retB k0_laws_eqGuest, S.chg⟩))))
       ·have g29 : a.pend = b.pend := ne_f h27
        refine wk (nt (ws (ws (rg ?_))))
        refine S.qg 6 [] [(49, .v (B (!(decide (a.exit = b.exit)))))] (.cons (Q_call fun w hw => c_laws_eqExit w a.exit b.exit) .nil) ?_; clear S; intro ac w β S
        refine (nt (S.c (!(decide (a.exit = b.exit))) (fun h30 => ?_) (fun h30 => ?_)))
        ·have h31 := not_t h30
         have g32 := of_decide_eq_false h31
         refine ws (rg ?_)
         refine S.qe 1 [] [(4, .v (B false))] ?_; clear S; intro ac w β S
         exact (nt (wr (rt (S.r [B false] ⟨retB k0_laws_eqGuest, S.chg⟩))))
        ·have h33 := not_f h30
         have g34 := of_decide_eq_true h33
         refine wk (nt (ws (ws (rg ?_))))
         refine S.qe 5 [] [(54, .v (B (!(a.halted == b.halted))))] ?_; clear S; intro ac w β S
         refine (nt (S.c (!(a.halted == b.halted)) (fun h35 => ?_) (fun h35 => ?_)))
         ·have h36 := not_t h35
          have g37 : ¬ (a.halted = b.halted) := ne_of_beq_false h36
          refine ws (rg ?_)
          refine S.qe 1 [0, 1, 2, 3, 10, 15, 20, 26, 32, 38, 43, 49, 54] [(4, .v (B false))] ?_; clear S; intro ac w β S
          exact (nt (wr (rt (S.r [B false] ⟨retB k0_laws_eqGuest, S.chg⟩))))
         ·have h38 := not_f h35
          have g39 : a.halted = b.halted := eq_of_beq h38
          refine wk (nt (ws (ws (rg ?_))))
          refine S.qgm 6 [0, 1, 2, 3, 10, 15, 20, 26, 32, 38, 43, 49, 54] [(60, .v (B (!(decide (a.seen = b.seen)))))] (.cons (Q_call fun w hw => c_laws_eqIntS w a.seen pa.seen (rd_of (RGuest.seen (d := a) (S.arg ha)) hw) b.seen pb.seen (rd_of (RGuest.seen (d := b) (S.arg hb)) hw)) .nil) 0 [] ?_; clear S; intro ac w β S
          refine (nt (S.c (!(decide (a.seen = b.seen))) (fun h40 => ?_) (fun h40 => ?_)))
          ·have h41 := not_t h40
           have g42 := of_decide_eq_false h41
           refine ws (rg ?_)
           refine S.qe 1 [] [(4, .v (B false))] ?_; clear S; intro ac w β S
           exact (nt (wr (rt (S.r [B false] ⟨retB k0_laws_eqGuest, S.chg⟩))))
          ·have h43 := not_f h40
           have g44 := of_decide_eq_true h43
           refine wk (nt (ws (rg ?_)))
           refine S.qe 1 [] [(4, .v (B true))] ?_; clear S; intro ac w β S
           exact (nt (wr (S.r [B true] ⟨retB k0_laws_eqGuest, S.chg⟩)))

theorem k0_laws_eqGuestS {p : Prop} (h : p := by clear S; first | (simp; intro e; subst e; simp_all; done) | (simp; rw [take_all (by omega), take_all (by omega)] at he; exact he) | (simp; exact take_ne (by simp_all))) : p := h
set_option maxRecDepth 100000 in
theorem c_laws_eqGuestS (w0 : World) (a : List TGuest) (pa : LP TGuest) (ha : GT.rd KK (Lt w0.heap.size) w0 a pa) (b : List TGuest) (pb : LP TGuest) (hb : GT.rd KK (Lt w0.heap.size) w0 b pb) : Calls Tryz.prog 151 [slv (a).length pa.1, slv (b).length pb.1].toArray w0 (fun e w' => e = .returned (B (decide (a = b))) ∧ Chg NoB w0 w') := by
 refine Calls.walk (args := [slv (a).length pa.1, slv (b).length pb.1]) NoB Tryz.func151 rfl rfl ?_
 intro ac β S
 have hlea : a.length ≤ 4194304 := LRd.le ha
 have hleb : b.length ≤ 4194304 := LRd.le hb
 refine ws (rg ?_)
 refine S.qe 1 [] [] ?_; clear S; intro ac w β S
 refine (nt (ws (ws (rg ?_))))
 refine S.qe 5 [] [(10, .v (B (((a).length : Int) != ((b).length : Int))))] ?_; clear S; intro ac w β S
 refine (nt (S.c (((a).length : Int) != ((b).length : Int)) (fun h1 => ?_) (fun h1 => ?_)))
 ·have g2 : ¬ (((a).length : Int) = ((b).length : Int)) := bne_iff_ne.1 h1
  refine ws (rg ?_)
  refine S.qe 1 [] [(4, .v (B false))] ?_; clear S; intro ac w β S
  exact (nt (wr (rt (S.r [B false] ⟨retB k0_laws_eqGuestS, S.chg⟩))))
 ·have g3 : ((a).length : Int) = ((b).length : Int) := ne_f h1
  refine wk (nt (ws (ws (rg ?_))))
  refine S.qe 1 [] [(5, .v (I 0))] ?_; clear S; intro ac w β S
  refine (nt (wp_block ?_))
  refine wp_loop_down (fun mm ac w => ∃ (k : Nat)  (u : World) (N : Bl) (β : Nat → Nat), mm = a.length - k ∧ (k ≤ a.length) ∧ (a.length = b.length) ∧ (a.take k = b.take k) ∧ St Tryz.prog Tryz.f151.ntmps w0 NoB u N β ⟨[(0, .v (slv (a).length pa.1)), (1, .v (slv (b).length pb.1)), (5, .v (I (k : Int)))], []⟩ ac w) _ ⟨0, _, _, _, rfl, (by first | omega | (simp; done) | (simp; omega)), (by first | omega | (simp; done) | (simp; omega)), (by simp), S.z⟩ ?_
  clear S
  rintro mm ac w ⟨k, u, N, β, rfl, hk, hab, he, S⟩
  refine ws (ws (rg ?_))
  refine S.qe 4 [] [(14, .v (B (decide ((k : Int) < ((a).length : Int)))))] ?_; clear S; intro ac w β S
  refine (nt (S.c (decide ((k : Int) < ((a).length : Int))) (fun h4 => ?_) (fun h4 => ?_)))
  ·have g5 := of_decide_eq_true h4
   refine wk (nt (ws (wp_block (ws ?_))))
   refine S.drawn (keep := [0, 1, 5, 26]) (m := 0) (σ' := ⟨[(0, .v (slv (a).length pa.1)), (1, .v (slv (b).length pb.1)), (5, .v (I (k : Int))), (26, .v (B (!(decide ((el a k) = (el b k))))))], []⟩) (.cons (Q_idx (S.arg ha) (l := (a).length) (k := k) (i := (k : Int)) rfl rfl (by omega) Tryz.underlying54 (by kernel_rfl)) (.cons (Q_el (S.arg ha) (t := 101) (k := k) (by omega) rfl (by kernel_rfl) (by kernel_rfl)) (.cons (Q_idx (S.arg hb) (l := (b).length) (k := k) (i := (k : Int)) rfl rfl (by omega) Tryz.underlying54 (by kernel_rfl)) (.cons (Q_el (S.arg hb) (t := 101) (k := k) (by omega) rfl (by kernel_rfl) (by kernel_rfl)) (.cons (Q_call fun w hw => c_laws_eqGuest w (el a k) (pa.2 k) (rd_of (LRd.el (S.arg ha) k (by omega)) hw) (el b k) (pb.2 k) (rd_of (LRd.el (S.arg hb) k (by omega)) hw)) .nil))))) rfl (by kernel_rfl) (by kernel_rfl) ?_
   clear S; intro ac w S
   refine id (nt (S.c (!(decide ((el a k) = (el b k)))) (fun h6 => ?_) (fun h6 => ?_)))
   ·have h7 := not_t h6
    have g8 := of_decide_eq_false h7
    refine ws (rg ?_)
    refine S.qe 1 [] [(4, .v (B false))] ?_; clear S; intro ac w β S
    exact (nt (wr (rb (rt (rt (rb (rt (S.r [B false] ⟨retB k0_laws_eqGuestS, S.chg⟩))))))))
   ·have h9 := not_f h6
    have g10 := of_decide_eq_true h9
    refine wk (nb (nt (rg ?_)))
    refine S.qg 3 [] [(5, .v (I ((k : Int) + 1)))] (.cons (Q_add (x := (k : Int)) (y := 1) ⟨by omega, by omega⟩) .nil) ?_; clear S; intro ac w β S
    refine (nt ?_)
    refine ⟨a.length - (k + 1), by omega, k + 1, _, _, _, rfl, ?_, ?_, ?_, S.z⟩
    ·clear S; first | omega | (simp [*]; done) | (simp [*]; omega)
    ·clear S; first | omega | (simp [*]; done) | (simp [*]; omega)
    ·clear S; exact take_eq_step (by omega) (by omega) he (by simp_all)
  ·have g11 := of_decide_eq_false h4
   refine wp_exit (ex_then (ex_then (ex_hit (nt (ws (rg ?_))))))
   refine S.qe 1 [] [(4, .v (B true))] ?_; clear S; intro ac w β S
   exact (nt (wr (S.r [B true] ⟨retB k0_laws_eqGuestS, S.chg⟩)))

theorem k0_laws_eqKept {p : Prop} (h : p := by clear S; first | (simp [TKept.ext_iff, *]; done) | (simp_all [TKept.ext_iff]; done)) : p := h
set_option maxRecDepth 100000 in
theorem c_laws_eqKept (w0 : World) (a : TKept) (pa : PKept) (ha : GT.rd KK (Lt w0.heap.size) w0 a pa) (b : TKept) (pb : PKept) (hb : GT.rd KK (Lt w0.heap.size) w0 b pb) : Calls Tryz.prog 180 [GT.val a pa, GT.val b pb].toArray w0 (fun e w' => e = .returned (B (decide (a = b))) ∧ Chg NoB w0 w') := by
 refine Calls.walk (args := [GT.val a pa, GT.val b pb]) NoB Tryz.func180 rfl rfl ?_
 intro ac β S
 have hlea_known : a.known.length ≤ 4194304 := LRd.le (RKept.known (d := a) ha)
 have hlea_slots : a.slots.length ≤ 4194304 := LRd.le (RKept.slots (d := a) ha)
 have hleb_known : b.known.length ≤ 4194304 := LRd.le (RKept.known (d := b) hb)
 have hleb_slots : b.slots.length ≤ 4194304 := LRd.le (RKept.slots (d := b) hb)
 refine ws (rg ?_)
 refine S.qem 3 [] [(2, .p 0 0), (3, .p 1 0)] 2 [(0, GT.cells a pa), (1, GT.cells b pb)] ?_; clear S; intro ac w β S
 refine (nt (ws (ws (rg ?_))))
 refine S.qg 6 [] [(10, .v (B (!(decide (a.known = b.known)))))] (.cons (Q_call fun w hw => c_laws_eqBoolS w a.known pa.known (rd_of (RKept.known (d := a) (S.arg ha)) hw) b.known pb.known (rd_of (RKept.known (d := b) (S.arg hb)) hw)) .nil) ?_; clear S; intro ac w β S
 refine (nt (S.c (!(decide (a.known = b.known))) (fun h1 => ?_) (fun h1 => ?_)))
 ·have h2 := not_t h1
  have g3 := of_decide_eq_false h2
  refine ws (rg ?_)
  refine S.qe 1 [] [(4, .v (B false))] ?_; clear S; intro ac w β S
  exact (nt (wr (rt (S.r [B false] ⟨retB k0_laws_eqKept, S.chg⟩))))
 ·have h4 := not_f h1
  have g5 := of_decide_eq_true h4
  refine wk (nt (ws (ws (rg ?_))))
  refine S.qgm 6 [] [(16, .v (B (!(decide (a.slots = b.slots)))))] (.cons (Q_call fun w hw => c_laws_eqSlotS w a.slots pa.slots (rd_of (RKept.slots (d := a) (S.arg ha)) hw) b.slots pb.slots (rd_of (RKept.slots (d := b) (S.arg hb)) hw)) .nil) 0 [] ?_; clear S; intro ac w β S
  refine (nt (S.c (!(decide (a.slots = b.slots))) (fun h6 => ?_) (fun h6 => ?_)))
  ·have h7 := not_t h6
   have g8 := of_decide_eq_false h7
   refine ws (rg ?_)
   refine S.qe 1 [] [(4, .v (B false))] ?_; clear S; intro ac w β S
   exact (nt (wr (rt (S.r [B false] ⟨retB k0_laws_eqKept, S.chg⟩))))
  ·have h9 := not_f h6
   have g10 := of_decide_eq_true h9
   refine wk (nt (ws (rg ?_)))
   refine S.qe 1 [] [(4, .v (B true))] ?_; clear S; intro ac w β S
   exact (nt (wr (S.r [B true] ⟨retB k0_laws_eqKept, S.chg⟩)))

theorem k0_laws_eqKeptS {p : Prop} (h : p := by clear S; first | (simp; intro e; subst e; simp_all; done) | (simp; rw [take_all (by omega), take_all (by omega)] at he; exact he) | (simp; exact take_ne (by simp_all))) : p := h
set_option maxRecDepth 100000 in
theorem c_laws_eqKeptS (w0 : World) (a : List TKept) (pa : LP TKept) (ha : GT.rd KK (Lt w0.heap.size) w0 a pa) (b : List TKept) (pb : LP TKept) (hb : GT.rd KK (Lt w0.heap.size) w0 b pb) : Calls Tryz.prog 152 [slv (a).length pa.1, slv (b).length pb.1].toArray w0 (fun e w' => e = .returned (B (decide (a = b))) ∧ Chg NoB w0 w') := by
 refine Calls.walk (args := [slv (a).length pa.1, slv (b).length pb.1]) NoB Tryz.func152 rfl rfl ?_
 intro ac β S
 have hlea : a.length ≤ 4194304 := LRd.le ha
 have hleb : b.length ≤ 4194304 := LRd.le hb
 refine ws (rg ?_)
 refine S.qe 1 [] [] ?_; clear S; intro ac w β S
 refine (nt (ws (ws (rg ?_))))
 refine S.qe 5 [] [(10, .v (B (((a).length : Int) != ((b).length : Int))))] ?_; clear S; intro ac w β S
 refine (nt (S.c (((a).length : Int) != ((b).length : Int)) (fun h1 => ?_) (fun h1 => ?_)))
 ·have g2 : ¬ (((a).length : Int) = ((b).length : Int)) := bne_iff_ne.1 h1
  refine ws (rg ?_)
  refine S.qe 1 [] [(4, .v (B false))] ?_; clear S; intro ac w β S
  exact (nt (wr (rt (S.r [B false] ⟨retB k0_laws_eqKeptS, S.chg⟩))))
 ·have g3 : ((a).length : Int) = ((b).length : Int) := ne_f h1
  refine wk (nt (ws (ws (rg ?_))))
  refine S.qe 1 [] [(5, .v (I 0))] ?_; clear S; intro ac w β S
  refine (nt (wp_block ?_))
  refine wp_loop_down (fun mm ac w => ∃ (k : Nat)  (u : World) (N : Bl) (β : Nat → Nat), mm = a.length - k ∧ (k ≤ a.length) ∧ (a.length = b.length) ∧ (a.take k = b.take k) ∧ St Tryz.prog Tryz.f152.ntmps w0 NoB u N β ⟨[(0, .v (slv (a).length pa.1)), (1, .v (slv (b).length pb.1)), (5, .v (I (k : Int)))], []⟩ ac w) _ ⟨0, _, _, _, rfl, (by first | omega | (simp; done) | (simp; omega)), (by first | omega | (simp; done) | (simp; omega)), (by simp), S.z⟩ ?_
  clear S
  rintro mm ac w ⟨k, u, N, β, rfl, hk, hab, he, S⟩
  refine ws (ws (rg ?_))
  refine S.qe 4 [] [(14, .v (B (decide ((k : Int) < ((a).length : Int)))))] ?_; clear S; intro ac w β S
  refine (nt (S.c (decide ((k : Int) < ((a).length : Int))) (fun h4 => ?_) (fun h4 => ?_)))
  ·have g5 := of_decide_eq_true h4
   refine wk (nt (ws (wp_block (ws ?_))))
   refine S.drawn (keep := [0, 1, 5, 26]) (m := 0) (σ' := ⟨[(0, .v (slv (a).length pa.1)), (1, .v (slv (b).length pb.1)), (5, .v (I (k : Int))), (26, .v (B (!(decide ((el a k) = (el b k))))))], []⟩) (.cons (Q_idx (S.arg ha) (l := (a).length) (k := k) (i := (k : Int)) rfl rfl (by omega) Tryz.underlying63 (by kernel_rfl)) (.cons (Q_el (S.arg ha) (t := 135) (k := k) (by omega) rfl (by kernel_rfl) (by kernel_rfl)) (.cons (Q_idx (S.arg hb) (l := (b).length) (k := k) (i := (k : Int)) rfl rfl (by omega) Tryz.underlying63 (by kernel_rfl)) (.cons (Q_el (S.arg hb) (t := 135) (k := k) (by omega) rfl (by kernel_rfl) (by kernel_rfl)) (.cons (Q_call fun w hw => c_laws_eqKept w (el a k) (pa.2 k) (rd_of (LRd.el (S.arg ha) k (by omega)) hw) (el b k) (pb.2 k) (rd_of (LRd.el (S.arg hb) k (by omega)) hw)) .nil))))) rfl (by kernel_rfl) (by kernel_rfl) ?_
   clear S; intro ac w S
   refine id (nt (S.c (!(decide ((el a k) = (el b k)))) (fun h6 => ?_) (fun h6 => ?_)))
   ·have h7 := not_t h6
    have g8 := of_decide_eq_false h7
    refine ws (rg ?_)
    refine S.qe 1 [] [(4, .v (B false))] ?_; clear S; intro ac w β S
    exact (nt (wr (rb (rt (rt (rb (rt (S.r [B false] ⟨retB k0_laws_eqKeptS, S.chg⟩))))))))
   ·have h9 := not_f h6
    have g10 := of_decide_eq_true h9
    refine wk (nb (nt (rg ?_)))
    refine S.qg 3 [] [(5, .v (I ((k : Int) + 1)))] (.cons (Q_add (x := (k : Int)) (y := 1) ⟨by omega, by omega⟩) .nil) ?_; clear S; intro ac w β S
    refine (nt ?_)
    refine ⟨a.length - (k + 1), by omega, k + 1, _, _, _, rfl, ?_, ?_, ?_, S.z⟩
    ·clear S; first | omega | (simp [*]; done) | (simp [*]; omega)
    ·clear S; first | omega | (simp [*]; done) | (simp [*]; omega)
    ·clear S; exact take_eq_step (by omega) (by omega) he (by simp_all)
  ·have g11 := of_decide_eq_false h4
   refine wp_exit (ex_then (ex_then (ex_hit (nt (ws (rg ?_))))))
   refine S.qe 1 [] [(4, .v (B true))] ?_; clear S; intro ac w β S
   exact (nt (wr (S.r [B true] ⟨retB k0_laws_eqKeptS, S.chg⟩)))

theorem k0_laws_eqMon {p : Prop} (h : p := by clear S; first | (simp [TMon.ext_iff, *]; done) | (simp_all [TMon.ext_iff]; done)) : p := h
set_option maxRecDepth 100000 in
theorem c_laws_eqMon (w0 : World) (a : TMon) (pa : PMon) (ha : GT.rd KK (Lt w0.heap.size) w0 a pa) (b : TMon) (pb : PMon) (hb : GT.rd KK (Lt w0.heap.size) w0 b pb) : Calls Tryz.prog 90 [GT.val a pa, GT.val b pb].toArray w0 (fun e w' => e = .returned (B (decide (a = b))) ∧ Chg NoB w0 w') := by
 refine Calls.walk (args := [GT.val a pa, GT.val b pb]) NoB Tryz.func90 rfl rfl ?_
 intro ac β S
 have hlea_outer : a.outer.length ≤ 4194304 := LRd.le (RMon.outer (d := a) ha)
 have hlea_out : a.out.length ≤ 4194304 := LRd.le (RMon.out (d := a) ha)
 have hlea_dirty : a.dirty.length ≤ 4194304 := LRd.le (RMon.dirty (d := a) ha)
 have hlea_guests : a.guests.length ≤ 4194304 := LRd.le (RMon.guests (d := a) ha)
 have hlea_outs : a.outs.length ≤ 4194304 := LRd.le (RMon.outs (d := a) ha)
 have hlea_tables : a.tables.length ≤ 4194304 := LRd.le (RMon.tables (d := a) ha)
 have hleb_outer : b.outer.length ≤ 4194304 := LRd.le (RMon.outer (d := b) hb)
 have hleb_out : b.out.length ≤ 4194304 := LRd.le (RMon.out (d := b) hb)
 have hleb_dirty : b.dirty.length ≤ 4194304 := LRd.le (RMon.dirty (d := b) hb)
 have hleb_guests : b.guests.length ≤ 4194304 := LRd.le (RMon.guests (d := b) hb)
 have hleb_outs : b.outs.length ≤ 4194304 := LRd.le (RMon.outs (d := b) hb)
 have hleb_tables : b.tables.length ≤ 4194304 := LRd.le (RMon.tables (d := b) hb)
 refine ws (rg ?_)
 refine S.qem 3 [] [(2, .p 0 0), (3, .p 1 0)] 2 [(0, GT.cells a pa), (1, GT.cells b pb)] ?_; clear S; intro ac w β S
 refine (nt (ws (ws (rg ?_))))
 refine S.qg 6 [] [(10, .v (B (!(decide (a.outer = b.outer)))))] (.cons (Q_call fun w hw => c_laws_eqSlotS w a.outer pa.outer (rd_of (RMon.outer (d := a) (S.arg ha)) hw) b.outer pb.outer (rd_of (RMon.outer (d := b) (S.arg hb)) hw)) .nil) ?_; clear S; intro ac w β S
 refine (nt (S.c (!(decide (a.outer = b.outer))) (fun h1 => ?_) (fun h1 => ?_)))
 ·have h2 := not_t h1
  have g3 := of_decide_eq_false h2
  refine ws (rg ?_)
  refine S.qe 1 [] [(4, .v (B false))] ?_; clear S; intro ac w β S
  exact (nt (wr (rt (S.r [B false] ⟨retB k0_laws_eqMon, S.chg⟩))))
 ·have h4 := not_f h1
  have g5 := of_decide_eq_true h4
  refine wk (nt (ws (ws (rg ?_))))
  refine S.qg 6 [] [(16, .v (B (!(decide (a.out = b.out)))))] (.cons (Q_call fun w hw => c_laws_eqIntSS w a.out pa.out (rd_of (RMon.out (d := a) (S.arg ha)) hw) b.out pb.out (rd_of (RMon.out (d := b) (S.arg hb)) hw)) .nil) ?_; clear S; intro ac w β S
  refine (nt (S.c (!(decide (a.out = b.out))) (fun h6 => ?_) (fun h6 => ?_)))
  ·have h7 := not_t h6
   have g8 := of_decide_eq_false h7
   refine ws (rg ?_)
   refine S.qe 1 [] [(4, .v (B false))] ?_; clear S; intro ac w β S
   exact (nt (wr (rt (S.r [B false] ⟨retB k0_laws_eqMon, S.chg⟩))))
  ·have h9 := not_f h6
   have g10 := of_decide_eq_true h9
   refine wk (nt (ws (ws (rg ?_))))
   refine S.qg 6 [] [(22, .v (B (!(decide (a.dirty = b.dirty)))))] (.cons (Q_call fun w hw => c_laws_eqBoolS w a.dirty pa.dirty (rd_of (RMon.dirty (d := a) (S.arg ha)) hw) b.dirty pb.dirty (rd_of (RMon.dirty (d := b) (S.arg hb)) hw)) .nil) ?_; clear S; intro ac w β S
   refine (nt (S.c (!(decide (a.dirty = b.dirty))) (fun h11 => ?_) (fun h11 => ?_)))
   ·have h12 := not_t h11
    have g13 := of_decide_eq_false h12
    refine ws (rg ?_)
    refine S.qe 1 [] [(4, .v (B false))] ?_; clear S; intro ac w β S
    exact (nt (wr (rt (S.r [B false] ⟨retB k0_laws_eqMon, S.chg⟩))))
   ·have h14 := not_f h11
    have g15 := of_decide_eq_true h14
    refine wk (nt (ws (ws (rg ?_))))
    refine S.qg 6 [] [(28, .v (B (!(decide (a.guests = b.guests)))))] (.cons (Q_call fun w hw => c_laws_eqGuestS w a.guests pa.guests (rd_of (RMon.guests (d := a) (S.arg ha)) hw) b.guests pb.guests (rd_of (RMon.guests (d := b) (S.arg hb)) hw)) .nil) ?_; clear S; intro ac w β S
    refine (nt (S.c (!(decide (a.guests = b.guests))) (fun h16 => ?_) (fun h16 => ?_)))
    ·have h17 := not_t h16
     have g18 := of_decide_eq_false h17
     refine ws (rg ?_)
     refine S.qe 1 [] [(4, .v (B false))] ?_; clear S; intro ac w β S
     exact (nt (wr (rt (S.r [B false] ⟨retB k0_laws_eqMon, S.chg⟩))))
    ·have h19 := not_f h16
     have g20 := of_decide_eq_true h19
     refine wk (nt (ws (ws (rg ?_))))
     refine S.qg 6 [] [(34, .v (B (!(decide (a.outs = b.outs)))))] (.cons (Q_call fun w hw => c_laws_eqIntS w a.outs pa.outs (rd_of (RMon.outs (d := a) (S.arg ha)) hw) b.outs pb.outs (rd_of (RMon.outs (d := b) (S.arg hb)) hw)) .nil) ?_; clear S; intro ac w β S
     refine (nt (S.c (!(decide (a.outs = b.outs))) (fun h21 => ?_) (fun h21 => ?_)))
     ·have h22 := not_t h21
      have g23 := of_decide_eq_false h22
      refine ws (rg ?_)
      refine S.qe 1 [] [(4, .v (B false))] ?_; clear S; intro ac w β S
      exact (nt (wr (rt (S.r [B false] ⟨retB k0_laws_eqMon, S.chg⟩))))
     ·have h24 := not_f h21
      have g25 := of_decide_eq_true h24
      refine wk (nt (ws (ws (rg ?_))))
      refine S.qe 5 [] [(39, .v (B (a.pend != b.pend)))] ?_; clear S; intro ac w β S
      refine (nt (S.c (a.pend != b.pend) (fun h26 => ?_) (fun h26 => ?_)))
      ·have g27 : ¬ (a.pend = b.pend) := bne_iff_ne.1 h26
       refine ws (rg ?_)
       refine S.qe 1 [] [(4, .v (B false))] ?_; clear S; intro ac w β S
       exact (nt (wr (rt (S.r [B false] ⟨retB k0_laws_eqMon, S.chg⟩))))
      ·have g28 : a.pend = b.pend := ne_f h26
       refine wk (nt (ws (ws (rg ?_))))
       refine S.qe 5 [] [(44, .v (B (a.traps != b.traps)))] ?_; clear S; intro ac w β S
       refine (nt (S.c (a.traps != b.traps) (fun h29 => ?_) (fun h29 => ?_)))
       ·have g30 : ¬ (a.traps = b.traps) := bne_iff_ne.1 h29
        refine ws (rg ?_)
        refine S.qe 1 [] [(4, .v (B false))] ?_; clear S; intro ac w β S
        exact (nt (wr (rt (S.r [B false] ⟨retB k0_laws_eqMon, S.chg⟩))))
       ·have g31 : a.traps = b.traps := ne_f h29
        refine wk (nt (ws (ws (rg ?_))))
        refine S.qg 6 [] [(50, .v (B (!(decide (a.tables = b.tables)))))] (.cons (Q_call fun w hw => c_laws_eqKeptS w a.tables pa.tables (rd_of (RMon.tables (d := a) (S.arg ha)) hw) b.tables pb.tables (rd_of (RMon.tables (d := b) (S.arg hb)) hw)) .nil) ?_; clear S; intro ac w β S
        refine (nt (S.c (!(decide (a.tables = b.tables))) (fun h32 => ?_) (fun h32 => ?_)))
        ·have h33 := not_t h32
         have g34 := of_decide_eq_false h33
         refine ws (rg ?_)
         refine S.qe 1 [] [(4, .v (B false))] ?_; clear S; intro ac w β S
         exact (nt (wr (rt (S.r [B false] ⟨retB k0_laws_eqMon, S.chg⟩))))
        ·have h35 := not_f h32
         have g36 := of_decide_eq_true h35
         refine wk (nt (ws (ws (rg ?_))))
         refine S.qem 5 [] [(55, .v (B (a.owned != b.owned)))] 0 [] ?_; clear S; intro ac w β S
         refine (nt (S.c (a.owned != b.owned) (fun h37 => ?_) (fun h37 => ?_)))
         ·have g38 : ¬ (a.owned = b.owned) := bne_iff_ne.1 h37
          refine ws (rg ?_)
          refine S.qe 1 [] [(4, .v (B false))] ?_; clear S; intro ac w β S
          exact (nt (wr (rt (S.r [B false] ⟨retB k0_laws_eqMon, S.chg⟩))))
         ·have g39 : a.owned = b.owned := ne_f h37
          refine wk (nt (ws (rg ?_)))
          refine S.qe 1 [] [(4, .v (B true))] ?_; clear S; intro ac w β S
          exact (nt (wr (S.r [B true] ⟨retB k0_laws_eqMon, S.chg⟩)))

theorem k0_laws_eqMonS {p : Prop} (h : p := by clear S; first | (simp; intro e; subst e; simp_all; done) | (simp; rw [take_all (by omega), take_all (by omega)] at he; exact he) | (simp; exact take_ne (by simp_all))) : p := h
set_option maxRecDepth 100000 in
theorem c_laws_eqMonS (w0 : World) (a : List TMon) (pa : LP TMon) (ha : GT.rd KK (Lt w0.heap.size) w0 a pa) (b : List TMon) (pb : LP TMon) (hb : GT.rd KK (Lt w0.heap.size) w0 b pb) : Calls Tryz.prog 42 [slv (a).length pa.1, slv (b).length pb.1].toArray w0 (fun e w' => e = .returned (B (decide (a = b))) ∧ Chg NoB w0 w') := by
 refine Calls.walk (args := [slv (a).length pa.1, slv (b).length pb.1]) NoB Tryz.func42 rfl rfl ?_
 intro ac β S
 have hlea : a.length ≤ 4194304 := LRd.le ha
 have hleb : b.length ≤ 4194304 := LRd.le hb
 refine ws (rg ?_)
 refine S.qe 1 [] [] ?_; clear S; intro ac w β S
 refine (nt (ws (ws (rg ?_))))
 refine S.qe 5 [] [(10, .v (B (((a).length : Int) != ((b).length : Int))))] ?_; clear S; intro ac w β S
 refine (nt (S.c (((a).length : Int) != ((b).length : Int)) (fun h1 => ?_) (fun h1 => ?_)))
 ·have g2 : ¬ (((a).length : Int) = ((b).length : Int)) := bne_iff_ne.1 h1
  refine ws (rg ?_)
  refine S.qe 1 [] [(4, .v (B false))] ?_; clear S; intro ac w β S
  exact (nt (wr (rt (S.r [B false] ⟨retB k0_laws_eqMonS, S.chg⟩))))
 ·have g3 : ((a).length : Int) = ((b).length : Int) := ne_f h1
  refine wk (nt (ws (ws (rg ?_))))
  refine S.qe 1 [] [(5, .v (I 0))] ?_; clear S; intro ac w β S
  refine (nt (wp_block ?_))
  refine wp_loop_down (fun mm ac w => ∃ (k : Nat)  (u : World) (N : Bl) (β : Nat → Nat), mm = a.length - k ∧ (k ≤ a.length) ∧ (a.length = b.length) ∧ (a.take k = b.take k) ∧ St Tryz.prog Tryz.f42.ntmps w0 NoB u N β ⟨[(0, .v (slv (a).length pa.1)), (1, .v (slv (b).length pb.1)), (5, .v (I (k : Int)))], []⟩ ac w) _ ⟨0, _, _, _, rfl, (by first | omega | (simp; done) | (simp; omega)), (by first | omega | (simp; done) | (simp; omega)), (by simp), S.z⟩ ?_
  clear S
  rintro mm ac w ⟨k, u, N, β, rfl, hk, hab, he, S⟩
  refine ws (ws (rg ?_))
  refine S.qe 4 [] [(14, .v (B (decide ((k : Int) < ((a).length : Int)))))] ?_; clear S; intro ac w β S
  refine (nt (S.c (decide ((k : Int) < ((a).length : Int))) (fun h4 => ?_) (fun h4 => ?_)))
  ·have g5 := of_decide_eq_true h4
   refine wk (nt (ws (wp_block (ws ?_))))
   refine S.drawn (keep := [0, 1, 5, 26]) (m := 0) (σ' := ⟨[(0, .v (slv (a).length pa.1)), (1, .v (slv (b).length pb.1)), (5, .v (I (k : Int))), (26, .v (B (!(decide ((el a k) = (el b k))))))], []⟩) (.cons (Q_idx (S.arg ha) (l := (a).length) (k := k) (i := (k : Int)) rfl rfl (by omega) Tryz.underlying30 (by kernel_rfl)) (.cons (Q_el (S.arg ha) (t := 65) (k := k) (by omega) rfl (by kernel_rfl) (by kernel_rfl)) (.cons (Q_idx (S.arg hb) (l := (b).length) (k := k) (i := (k : Int)) rfl rfl (by omega) Tryz.underlying30 (by kernel_rfl)) (.cons (Q_el (S.arg hb) (t := 65) (k := k) (by omega) rfl (by kernel_rfl) (by kernel_rfl)) (.cons (Q_call fun w hw => c_laws_eqMon w (el a k) (pa.2 k) (rd_of (LRd.el (S.arg ha) k (by omega)) hw) (el b k) (pb.2 k) (rd_of (LRd.el (S.arg hb) k (by omega)) hw)) .nil))))) rfl (by kernel_rfl) (by kernel_rfl) ?_
   clear S; intro ac w S
   refine id (nt (S.c (!(decide ((el a k) = (el b k)))) (fun h6 => ?_) (fun h6 => ?_)))
   ·have h7 := not_t h6
    have g8 := of_decide_eq_false h7
    refine ws (rg ?_)
    refine S.qe 1 [] [(4, .v (B false))] ?_; clear S; intro ac w β S
    exact (nt (wr (rb (rt (rt (rb (rt (S.r [B false] ⟨retB k0_laws_eqMonS, S.chg⟩))))))))
   ·have h9 := not_f h6
    have g10 := of_decide_eq_true h9
    refine wk (nb (nt (rg ?_)))
    refine S.qg 3 [] [(5, .v (I ((k : Int) + 1)))] (.cons (Q_add (x := (k : Int)) (y := 1) ⟨by omega, by omega⟩) .nil) ?_; clear S; intro ac w β S
    refine (nt ?_)
    refine ⟨a.length - (k + 1), by omega, k + 1, _, _, _, rfl, ?_, ?_, ?_, S.z⟩
    ·clear S; first | omega | (simp [*]; done) | (simp [*]; omega)
    ·clear S; first | omega | (simp [*]; done) | (simp [*]; omega)
    ·clear S; exact take_eq_step (by omega) (by omega) he (by simp_all)
  ·have g11 := of_decide_eq_false h4
   refine wp_exit (ex_then (ex_then (ex_hit (nt (ws (rg ?_))))))
   refine S.qe 1 [] [(4, .v (B true))] ?_; clear S; intro ac w β S
   exact (nt (wr (S.r [B true] ⟨retB k0_laws_eqMonS, S.chg⟩)))

theorem k0_laws_eqEntry {p : Prop} (h : p := by clear S; first | (simp [TEntry.ext_iff, *]; done) | (simp_all [TEntry.ext_iff]; done)) : p := h
set_option maxRecDepth 100000 in
theorem c_laws_eqEntry (w0 : World) (a : TEntry) (b : TEntry) : Calls Tryz.prog 91 [GT.val a (), GT.val b ()].toArray w0 (fun e w' => e = .returned (B (decide (a = b))) ∧ Chg NoB w0 w') := by
 refine Calls.walk (args := [GT.val a (), GT.val b ()]) NoB Tryz.func91 rfl rfl ?_
 intro ac β S
 refine ws (rg ?_)
 refine S.qem 3 [] [(2, .p 0 0), (3, .p 1 0)] 2 [(0, GT.cells a ()), (1, GT.cells b ())] ?_; clear S; intro ac w β S
 refine (nt (ws (ws (rg ?_))))
 refine S.qe 5 [] [(9, .v (B (a.tag != b.tag)))] ?_; clear S; intro ac w β S
 refine (nt (S.c (a.tag != b.tag) (fun h1 => ?_) (fun h1 => ?_)))
 ·have g2 : ¬ (a.tag = b.tag) := bne_iff_ne.1 h1
  refine ws (rg ?_)
  refine S.qe 1 [] [(4, .v (B false))] ?_; clear S; intro ac w β S
  exact (nt (wr (rt (S.r [B false] ⟨retB k0_laws_eqEntry, S.chg⟩))))
 ·have g3 : a.tag = b.tag := ne_f h1
  refine wk (nt (ws (ws (rg ?_))))
  refine S.qe 5 [] [(14, .v (B (a.page != b.page)))] ?_; clear S; intro ac w β S
  refine (nt (S.c (a.page != b.page) (fun h4 => ?_) (fun h4 => ?_)))
  ·have g5 : ¬ (a.page = b.page) := bne_iff_ne.1 h4
   refine ws (rg ?_)
   refine S.qe 1 [] [(4, .v (B false))] ?_; clear S; intro ac w β S
   exact (nt (wr (rt (S.r [B false] ⟨retB k0_laws_eqEntry, S.chg⟩))))
  ·have g6 : a.page = b.page := ne_f h4
   refine wk (nt (ws (ws (rg ?_))))
   refine S.qe 5 [] [(19, .v (B (a.host != b.host)))] ?_; clear S; intro ac w β S
   refine (nt (S.c (a.host != b.host) (fun h7 => ?_) (fun h7 => ?_)))
   ·have g8 : ¬ (a.host = b.host) := bne_iff_ne.1 h7
    refine ws (rg ?_)
    refine S.qe 1 [] [(4, .v (B false))] ?_; clear S; intro ac w β S
    exact (nt (wr (rt (S.r [B false] ⟨retB k0_laws_eqEntry, S.chg⟩))))
   ·have g9 : a.host = b.host := ne_f h7
    refine wk (nt (ws (ws (rg ?_))))
    refine S.qem 5 [] [(24, .v (B (a.rights != b.rights)))] 0 [] ?_; clear S; intro ac w β S
    refine (nt (S.c (a.rights != b.rights) (fun h10 => ?_) (fun h10 => ?_)))
    ·have g11 : ¬ (a.rights = b.rights) := bne_iff_ne.1 h10
     refine ws (rg ?_)
     refine S.qe 1 [] [(4, .v (B false))] ?_; clear S; intro ac w β S
     exact (nt (wr (rt (S.r [B false] ⟨retB k0_laws_eqEntry, S.chg⟩))))
    ·have g12 : a.rights = b.rights := ne_f h10
     refine wk (nt (ws (rg ?_)))
     refine S.qe 1 [] [(4, .v (B true))] ?_; clear S; intro ac w β S
     exact (nt (wr (S.r [B true] ⟨retB k0_laws_eqEntry, S.chg⟩)))

end Go.Proofs.YtkbcponpcghjpaaGreat
