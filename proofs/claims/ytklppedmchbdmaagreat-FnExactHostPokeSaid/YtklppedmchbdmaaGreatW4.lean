/- The walks: what each function that the laws reach computes (part 4). -/
import Derived.Test.YtklppedmchbdmaaGreatW3
import Derived.Test.YtklppedmchbdmaaGreatProg
import Derived.KernelRfl
namespace Go.Proofs.YtklppedmchbdmaaGreat
open Go
set_option linter.unusedVariables false
set_option linter.unusedSimpArgs false
set_option maxRecDepth 100000

theorem k0_impl_fetch {p : Prop} (h : p := by clear S; ((first | rw [fetch_free _ _ (show 0 < (f_freeIn h).length by omega)] | rw [fetch_full _ _ (show ¬ 0 < (f_freeIn h).length by omega)]); first | (subst_vars; rfl) | (subst_vars; simp [f_putIn, f_setM, f_slotTo, f_inval, el_set_self, *]; done))) : p := h
theorem c_impl_fetch (w0 : World) (h : THost) (qh : LP THost) (F : Bl) (hh : GT.own KK F w0 [h] qh) (hF : ∀ b, F b → b < w0.heap.size) (m : Int) (page : Int) (pre0 : f_hasPage h m page = true) : Calls Tryz.prog 48 [pt qh.1.b (qh.1.off + 0 * 4), I m, I page].toArray w0 (RetC hdrH F qh w0 (packed []) (f_fetch h m page)) := by
 refine Calls.walk F Tryz.func48 rfl rfl ?_
 intro ac β S
 have oh : Ow w0 F w0 (Lt w0.heap.size) F [h] qh := ⟨hh, hF, fun b hb => .inr hb⟩
 have hp := hasPage_t (h := h) (m := m) (page := page) (by assumption)
 refine ws (ws (rg ?_))
 refine S.qb 3 [] [(11, .v (GT.val h (qh.2 0)))] (.cons (Q_el oh.rn (t := 31) (k := 0) (Nat.succ_pos 0) rfl (by kernel_rfl) (by kernel_rfl)) .nil) fun ac w β S => ?_
 refine RG.op rfl (S.k1 12 (c_impl_FreeIn w h (qh.2 0) (S.rd (show GT.rd KK _ _ h (qh.2 0) from LRd.el oh.rn 0 (Nat.succ_pos 0)))) fun ac w N q1 F2 S up o3 d4 => ?_)
 have d5 := Disj.w d4 oh.sub
 replace oh := oh.up up
 clear up d4
 refine S.qe 2 [] [(14, .v (B (((f_freeIn h).length : Int) == 0)))] fun ac w β S => ?_
 refine (nt (S.c (((f_freeIn h).length : Int) == 0) (fun h6 => ?_) (fun h6 => ?_)))
 ·have g7 : ((f_freeIn h).length : Int) = 0 := eq_of_beq h6
  refine rg ?_
  refine S.qa 1 [] [(15, .v (pt qh.1.b (qh.1.off + 0 * 4)))] fun ac w β S => ?_
  refine RG.op rfl (S.callCv (d := 16) oh (c_impl_sendFirst w h qh F (S.ownw oh) (fun b hb => (S.sep b (oh.sub b hb)).1) (by (first | assumption | exact hasPage_ok (by assumption) | omega | (dsimp only; omega))) (by (first | assumption | exact hasPage_ok (by assumption) | omega | (dsimp only; omega)))) fun ac w N p8 F9 S up o10 d12 hq11 => ?_)
  change (p8 0).mons.1 = (qh.2 0).mons.1 at hq11
  clear up d12 oh
  obtain ⟨Y13, hY14⟩ : ∃ z, z = (f_sendFirst h) := ⟨_, rfl⟩
  have o15 : Ow w0 F w N F9 [Y13] ((qh.1, p8) : LP THost) := by rw [hY14]; exact o10
  clear o10
  have l16 := sendFirst_bd hY14 (hasPage_ok (by assumption)) (by omega) m.toNat
  try dsimp only at l16
  refine rd (nt (ws (rg ?_)))
  refine S.qg 7 [] [(0, .v (pt qh.1.b (qh.1.off + 0 * 4))), (6, .v (pt (p8 0).mons.1.b ((p8 0).mons.1.off + m.toNat * 9)))] (.cons (Q_cell o15.rn (t := 28) (k := 0) (j := 1) (v := slv Y13.mons.length (p8 0).mons.1) (Nat.succ_pos 0) (by kernel_rfl) (by kernel_rfl)) (.cons (qt (capx_mons o15.rn) m Tryz.underlying28) .nil)) fun ac w β S => ?_
  refine (nt (ws (rg ?_)))
  refine S.qb 3 [] [(25, .v (GT.val Y13 (p8 0)))] (.cons (Q_el o15.rn (t := 31) (k := 0) (Nat.succ_pos 0) rfl (by kernel_rfl) (by kernel_rfl)) .nil) fun ac w β S => ?_
  refine RG.op rfl (S.k1 26 (c_impl_FreeIn w Y13 (p8 0) (S.rd (show GT.rd KK _ _ Y13 (p8 0) from LRd.el o15.rn 0 (Nat.succ_pos 0)))) fun ac w N q17 F18 S up o19 d20 => ?_)
  have d21 := Disj.w d20 o15.sub
  replace o15 := o15.up up
  clear up d20
  have i22 : In64 (el (f_freeIn Y13) 0) := (LRd.el o19.rn 0 (by omega))
  refine S.qg 3 [] [(7, .v (I (el (f_freeIn Y13) 0)))] (.cons (qn o19.rn 0 Tryz.underlying50) (.cons (qx o19.rn 3 0) .nil)) fun ac w β S => ?_
  refine (nt (ws ?_))
  refine S.draw0 (f := 17) 16 rfl rfl fun w S => ?_
  refine S.hq 0 [0] [] [(29, .v (pt qh.1.b (qh.1.off + 0 * 4)))] .nil fun ac S => ?_
  refine S.hq 1 [1] [] [(30, .v (pt qh.1.b (qh.1.off + 0 * 4)))] .nil fun ac S => ?_
  refine S.hq 2 [2] [] [(31, .v (pt qh.1.b (qh.1.off + 0 * 4)))] .nil fun ac S => ?_
  refine S.hq 3 [3] [] [(32, .v (pt qh.1.b (qh.1.off + 0 * 4)))] .nil fun ac S => ?_
  refine S.hq 4 [4] [] [(33, .v (slv Y13.mem.length (p8 0).mem.1))] (.cons (Q_cell o15.rn (t := 22) (k := 0) (j := 0) (v := slv Y13.mem.length (p8 0).mem.1) (Nat.succ_pos 0) (by kernel_rfl) (by kernel_rfl)) .nil) fun ac S => ?_
  refine S.hq 5 [5] [] [(34, .v (I (el (f_freeIn Y13) 0)))] .nil fun ac S => ?_
  refine S.hq 6 [6] [] [(35, .v (pt (p8 0).mons.1.b ((p8 0).mons.1.off + m.toNat * 9)))] .nil fun ac S => ?_
  refine S.hq 7 [7] [] [(36, .v (pt (p8 0).mons.1.b ((p8 0).mons.1.off + m.toNat * 9)))] .nil fun ac S => ?_
  refine S.hq 8 [8] [] [(37, .v (pt (p8 0).mons.1.b ((p8 0).mons.1.off + m.toNat * 9 + 1)))] .nil fun ac S => ?_
  refine S.hq 9 [9] [] [(38, .v (slv (el Y13.mons m.toNat).out.length ((p8 0).mons.2 m.toNat).out.1))] (.cons (qc (capx_mons o15.rn) 22 m.toNat 1 (slv (el Y13.mons m.toNat).out.length ((p8 0).mons.2 m.toNat).out.1)) .nil) fun ac S => ?_
  refine S.hq 10 [10] [] [(39, .v (I page))] .nil fun ac S => ?_
  refine S.hq 11 [11] [] [(40, .v (pt ((p8 0).mons.2 m.toNat).out.1.b (((p8 0).mons.2 m.toNat).out.1.off + page.toNat * 1)))] (.cons (qt (RMon.out (d := (el Y13.mons m.toNat)) (LRd.el (capx_mons o15.rn) m.toNat (by omega))) page Tryz.underlying22) .nil) fun ac S => ?_
  refine S.hq 12 [12] [] [(41, .v (slv (el (el Y13.mons m.toNat).out page.toNat).length (((p8 0).mons.2 m.toNat).out.2 page.toNat).1))] (.cons (qx (RMon.out (d := (el Y13.mons m.toNat)) (LRd.el (capx_mons o15.rn) m.toNat (by omega))) 50 page.toNat) .nil) fun ac S => ?_
  refine WD.one (i := 13) (by kernel_rfl) ?_
  refine id (S.k1 42 (c_impl_WithPage w Y13.mem (p8 0).mem (S.rd (capx_mem o15.rn)) (el (f_freeIn Y13) 0) (el (el Y13.mons m.toNat).out page.toNat) (((p8 0).mons.2 m.toNat).out.2 page.toNat) (S.rd (LRd.el (RMon.out (d := (el Y13.mons m.toNat)) (LRd.el (capx_mons o15.rn) m.toNat (by omega))) page.toNat (by omega)))) fun ac w N q23 F24 S up o25 d26 => ?_)
  refine WD.next S up (by kernel_rfl) ?_
  have d27 := Disj.w d26 o15.sub
  replace o15 := o15.up up
  clear up d26
  refine S.hq 14 [15, 14] [] [(42, .v (slv (f_withPage Y13.mem (el (f_freeIn Y13) 0) (el (el Y13.mons m.toNat).out page.toNat)).length q23.1)), (43, .v (pt qh.1.b (qh.1.off + 0 * 4)))] .nil fun ac S => ?_
  refine S.hq 15 [15] [] [(44, .v (pt qh.1.b (qh.1.off + 0 * 4)))] .nil fun ac S => ?_
  refine WD.one (i := 16) (by kernel_rfl) ?_
  refine id (S.setElE (α := THost) o15 (t := 22) (v := slv (f_withPage Y13.mem (el (f_freeIn Y13) 0) (el (el Y13.mons m.toNat).out page.toNat)).length q23.1) (k := 0) (j := 0) (off := qh.1.off + 0 * 4) (y := (⟨(f_withPage Y13.mem (el (f_freeIn Y13) 0) (el (el Y13.mons m.toNat).out page.toNat)), Y13.mons, Y13.buf, Y13.iobuf⟩ : THost)) (q := ({ (p8 0) with mem := q23 } : PHost)) (Fy := F24) (by kernel_rfl) (by kernel_rfl) (Nat.succ_pos 0) (by kernel_rfl) (by kernel_rfl) (Nat.le_of_ble_eq_true (by kernel_rfl)) (by kernel_rfl) (fun G g_ gF => ⟨_, owl_Host_mem g_ o25.own (fun b h h2 => d27 b (gF b h) h2), fun _ h => h⟩) d27 o25.sub o25.young fun w N F29 S up o28 d31 s32 n33 => ?_)
  refine WD.last (by kernel_rfl) ?_
  obtain ⟨q30, o34, hq35⟩ : ∃ q30 : Nat → PHost, Ow w0 F _ _ F29 [(⟨(f_withPage Y13.mem (el (f_freeIn Y13) 0) (el (el Y13.mons m.toNat).out page.toNat)), Y13.mons, Y13.buf, Y13.iobuf⟩ : THost)] ((qh.1, q30) : LP THost) ∧ (q30 0).mons.1 = (p8 0).mons.1 := ⟨_, o28, rfl⟩
  clear up d31 o15 o28 s32 n33
  refine WD.done (by kernel_rfl) ?_ _
  refine id (nt (ws (rg ?_)))
  refine S.qb 5 [] [(0, .v (pt qh.1.b (qh.1.off + 0 * 4))), (48, .v (slv (el Y13.mons m.toNat).out.length (((q30 0).mons.2) m.toNat).out.1)), (49, .v (I page))] (.cons (qc (rd_hdr hq35 (cap_mons o34.rn)) 22 m.toNat 1 (slv (el Y13.mons m.toNat).out.length (((q30 0).mons.2) m.toNat).out.1)) .nil) fun ac w β S => ?_
  refine RG.op rfl (S.bs0 (α := Int) (d := 50) (by kernel_rfl) fun ac w N q36 F37 S up o38 d39 => ?_)
  have d40 := Disj.w d39 o34.sub
  replace o34 := o34.up up
  clear up d39
  refine S.qb 1 [] [(50, .v (slv 0 q36.1)), (51, .v (pt (((q30 0).mons.2) m.toNat).out.1.b ((((q30 0).mons.2) m.toNat).out.1.off + page.toNat * 1)))] (.cons (qt (RMon.out (d := (el Y13.mons m.toNat)) (LRd.el (rd_hdr hq35 (cap_mons o34.rn)) m.toNat (by omega))) page Tryz.underlying22) .nil) fun ac w β S => ?_
  obtain ⟨F41, o42, s43, b44⟩ := foc_cap o34 (fun _ o => foc2_Mon_out o (k := m.toNat) (show m.toNat < Y13.mons.length by omega))
  change Ow w0 F _ _ F41 (el Y13.mons m.toNat).out (((q30 0).mons.2) m.toNat).out at o42
  have l45 := LRd.le o42.rn
  have n46 := o42.sub
  refine RG.op rfl (S.sV (α := List Int) o42 (t := 50) (k := page.toNat) (off := (((q30 0).mons.2) m.toNat).out.1.off + page.toNat * 1) o38 (Disj.symm (Disj.symm (Disj.part d40 s43))) fun w N F48 q49 S up o47 d50 s51 n52 => ?_)
  clear d50 o42
  obtain ⟨p53, o54, hq56⟩ := b44 _ _ _ _ _ F37 up o47 s51 d40 List.length_set n52
  obtain ⟨X58, hX59⟩ : ∃ z, z = Y13.mons.set m.toNat { el Y13.mons m.toNat with out := ((el Y13.mons m.toNat).out.set page.toNat ([] : List Int)) } := ⟨_, rfl⟩
  have o57 : Ow w0 F w N (Or F29 F48) [(⟨(f_withPage Y13.mem (el (f_freeIn Y13) 0) (el (el Y13.mons m.toNat).out page.toNat)), X58, Y13.buf, Y13.iobuf⟩ : THost)] ((qh.1, p53) : LP THost) := by rw [hX59]; exact o54
  obtain ⟨l60, e61⟩ := setm_out hX59 (show m.toNat < Y13.mons.length by omega) List.length_set
  change (p53 0).mons.1 = (q30 0).mons.1 at hq56
  clear up o47 n52 o54
  refine rd (nt (ws (rg ?_)))
  refine S.qgm 9 [] [(0, .v (pt qh.1.b (qh.1.off + 0 * 4))), (8, .p 0 0)] (.cons (qc (rd_hdr (hq56.trans hq35) (cap_mons o57.rn)) 47 m.toNat 0 (slv (el X58 m.toNat).outer.length (((p53 0).mons.2) m.toNat).outer.1)) (.cons (qt (RMon.outer (d := (el X58 m.toNat)) (LRd.el (rd_hdr (hq56.trans hq35) (cap_mons o57.rn)) m.toNat (by omega))) page Tryz.underlying47) (.cons (qs (RMon.outer (d := (el X58 m.toNat)) (LRd.el (rd_hdr (hq56.trans hq35) (cap_mons o57.rn)) m.toNat (by omega))) 55 page.toNat) .nil))) 1 [(0, GT.cells (el (el X58 m.toNat).outer page.toNat) ())] fun ac w β S => ?_
  refine (nt (ws (rg ?_)))
  refine S.qb 8 [] [(65, .v (GT.val (⟨(el (f_freeIn Y13) 0), 3⟩ : TSlot) ())), (66, .v (pt (((p53 0).mons.2) m.toNat).outer.1.b ((((p53 0).mons.2) m.toNat).outer.1.off + page.toNat * 2)))] (.cons (qc (rd_hdr (hq56.trans hq35) (cap_mons o57.rn)) 47 m.toNat 0 (slv (el X58 m.toNat).outer.length (((p53 0).mons.2) m.toNat).outer.1)) (.cons (Q_sem (s := Instr.build 55 [(0, I (el (f_freeIn Y13) 0)), (1, I 3)].toArray) (v := .agg [I (el (f_freeIn Y13) 0), I 3].toArray) (fun w => by kernel_rfl)) (.cons (qt (RMon.outer (d := (el X58 m.toNat)) (LRd.el (rd_hdr (hq56.trans hq35) (cap_mons o57.rn)) m.toNat (by omega))) page Tryz.underlying47) .nil))) fun ac w β S => ?_
  obtain ⟨F62, o63, s64, b65⟩ := foc_cap o57 (fun _ o => foc2_Mon_outer o (k := m.toNat) (show m.toNat < X58.length by omega))
  change Ow w0 F _ _ F62 (el X58 m.toNat).outer (((p53 0).mons.2) m.toNat).outer at o63
  have l66 := LRd.le o63.rn
  have n67 := o63.sub
  have e68 : RSlot (el (el X58 m.toNat).outer page.toNat) := (LRd.el o63.rn page.toNat (by omega))
  refine RG.op rfl (S.sF (α := TSlot) o63 (t := 55) (k := page.toNat) (j := 0) (off := (((p53 0).mons.2) m.toNat).outer.1.off + page.toNat * 2) (v := GT.val (⟨(el (f_freeIn Y13) 0), 3⟩ : TSlot) ()) (y := (⟨(el (f_freeIn Y13) 0), 3⟩ : TSlot)) (q := ()) (fun _ _ _ => ⟨NoB, (show RSlot (⟨(el (f_freeIn Y13) 0), 3⟩ : TSlot) from ⟨i22, (show In64 3 from ⟨by decide, by decide⟩)⟩), fun _ h => False.elim h⟩) fun w N F70 q71 S up o69 d72 s73 n74 => ?_)
  clear d72 o63
  obtain ⟨p75, o76, hq78⟩ := b65 _ _ _ _ _ NoB up o69 s73 (fun b _ h => False.elim h) List.length_set n74
  obtain ⟨X80, hX81⟩ : ∃ z, z = X58.set m.toNat { el X58 m.toNat with outer := ((el X58 m.toNat).outer.set page.toNat (⟨(el (f_freeIn Y13) 0), 3⟩ : TSlot)) } := ⟨_, rfl⟩
  have o79 : Ow w0 F w N (Or (Or F29 F48) F70) [(⟨(f_withPage Y13.mem (el (f_freeIn Y13) 0) (el (el Y13.mons m.toNat).out page.toNat)), X80, Y13.buf, Y13.iobuf⟩ : THost)] ((qh.1, p75) : LP THost) := by rw [hX81]; exact o76
  obtain ⟨l82, e83⟩ := setm_outer hX81 (show m.toNat < X58.length by omega) List.length_set
  change (p75 0).mons.1 = (p53 0).mons.1 at hq78
  clear up o69 n74 o76
  refine rd (nt (rg ?_))
  refine S.qam 4 [0, 1, 2, 6, 7, 8, 42, 44, 48, 49, 50, 51, 65, 66] [(67, .v (pt qh.1.b (qh.1.off + 0 * 4))), (68, .v (I m)), (69, .v (I page)), (70, .v (GT.val (el (el X58 m.toNat).outer page.toNat) ()))] 0 [] fun ac w β S => ?_
  refine RG.op rfl (S.callCv (d := 71) o79 (c_impl_invalidate w (⟨(f_withPage Y13.mem (el (f_freeIn Y13) 0) (el (el Y13.mons m.toNat).out page.toNat)), X80, Y13.buf, Y13.iobuf⟩ : THost) ((qh.1, p75) : LP THost) (Or (Or F29 F48) F70) (S.ownw o79) (fun b hb => (S.sep b (o79.sub b hb)).1) m page (el (el X58 m.toNat).outer page.toNat) (LRd.el (RMon.outer (d := (el X58 m.toNat)) (LRd.el (rd_hdr (hq56.trans hq35) (cap_mons o57.rn)) m.toNat (by omega))) page.toNat (by omega)) (by (first | omega | (dsimp only; omega)))) fun ac w N p84 F85 S up o86 d88 hq87 => ?_)
  change (p84 0).mons.1 = (p75 0).mons.1 at hq87
  clear up d88 o79
  obtain ⟨Y89, hY90⟩ : ∃ z, z = (f_inval (⟨(f_withPage Y13.mem (el (f_freeIn Y13) 0) (el (el Y13.mons m.toNat).out page.toNat)), X80, Y13.buf, Y13.iobuf⟩ : THost) m page (el (el X58 m.toNat).outer page.toNat)) := ⟨_, rfl⟩
  have o91 : Ow w0 F w N F85 [Y89] ((qh.1, p84) : LP THost) := by rw [hY90]; exact o86
  clear o86
  have l92 := inval_bd hY90 (by first | omega | (dsimp only; omega))
  try dsimp only at l92
  refine rd (S.f [] ?_)
  exact retC_of S (show f_fetch h m page = Y89 from k0_impl_fetch) (show hdrH _ _ from (hq87.trans (hq78.trans (hq56.trans (hq35.trans hq11))))) o91
 have g93 : ¬ (((f_freeIn h).length : Int) = 0) := ne_of_beq_false h6
 refine wk (nt (ws (rg ?_)))
 refine S.qg 7 [] [(6, .v (pt (qh.2 0).mons.1.b ((qh.2 0).mons.1.off + m.toNat * 9)))] (.cons (Q_cell oh.rn (t := 28) (k := 0) (j := 1) (v := slv h.mons.length (qh.2 0).mons.1) (Nat.succ_pos 0) (by kernel_rfl) (by kernel_rfl)) (.cons (qt (capx_mons oh.rn) m Tryz.underlying28) .nil)) fun ac w β S => ?_
 refine (nt (ws (rg ?_)))
 refine S.qb 3 [] [(25, .v (GT.val h (qh.2 0)))] (.cons (Q_el oh.rn (t := 31) (k := 0) (Nat.succ_pos 0) rfl (by kernel_rfl) (by kernel_rfl)) .nil) fun ac w β S => ?_
 refine RG.op rfl (S.k1 26 (c_impl_FreeIn w h (qh.2 0) (S.rd (show GT.rd KK _ _ h (qh.2 0) from LRd.el oh.rn 0 (Nat.succ_pos 0)))) fun ac w N q94 F95 S up o96 d97 => ?_)
 have d98 := Disj.w d97 oh.sub
 replace oh := oh.up up
 clear up d97
 have i99 : In64 (el (f_freeIn h) 0) := (LRd.el o96.rn 0 (by omega))
 refine S.qg 3 [] [(7, .v (I (el (f_freeIn h) 0)))] (.cons (qn o96.rn 0 Tryz.underlying50) (.cons (qx o96.rn 3 0) .nil)) fun ac w β S => ?_
 refine (nt (ws ?_))
 refine S.draw0 (f := 17) 16 rfl rfl fun w S => ?_
 refine S.hq 0 [0] [] [(29, .v (pt qh.1.b (qh.1.off + 0 * 4)))] .nil fun ac S => ?_
 refine S.hq 1 [1] [] [(30, .v (pt qh.1.b (qh.1.off + 0 * 4)))] .nil fun ac S => ?_
 refine S.hq 2 [2] [] [(31, .v (pt qh.1.b (qh.1.off + 0 * 4)))] .nil fun ac S => ?_
 refine S.hq 3 [3] [] [(32, .v (pt qh.1.b (qh.1.off + 0 * 4)))] .nil fun ac S => ?_
 refine S.hq 4 [4] [] [(33, .v (slv h.mem.length (qh.2 0).mem.1))] (.cons (Q_cell oh.rn (t := 22) (k := 0) (j := 0) (v := slv h.mem.length (qh.2 0).mem.1) (Nat.succ_pos 0) (by kernel_rfl) (by kernel_rfl)) .nil) fun ac S => ?_
 refine S.hq 5 [5] [] [(34, .v (I (el (f_freeIn h) 0)))] .nil fun ac S => ?_
 refine S.hq 6 [6] [] [(35, .v (pt (qh.2 0).mons.1.b ((qh.2 0).mons.1.off + m.toNat * 9)))] .nil fun ac S => ?_
 refine S.hq 7 [7] [] [(36, .v (pt (qh.2 0).mons.1.b ((qh.2 0).mons.1.off + m.toNat * 9)))] .nil fun ac S => ?_
 refine S.hq 8 [8] [] [(37, .v (pt (qh.2 0).mons.1.b ((qh.2 0).mons.1.off + m.toNat * 9 + 1)))] .nil fun ac S => ?_
 refine S.hq 9 [9] [] [(38, .v (slv (el h.mons m.toNat).out.length ((qh.2 0).mons.2 m.toNat).out.1))] (.cons (qc (capx_mons oh.rn) 22 m.toNat 1 (slv (el h.mons m.toNat).out.length ((qh.2 0).mons.2 m.toNat).out.1)) .nil) fun ac S => ?_
 refine S.hq 10 [10] [] [(39, .v (I page))] .nil fun ac S => ?_
 refine S.hq 11 [11] [] [(40, .v (pt ((qh.2 0).mons.2 m.toNat).out.1.b (((qh.2 0).mons.2 m.toNat).out.1.off + page.toNat * 1)))] (.cons (qt (RMon.out (d := (el h.mons m.toNat)) (LRd.el (capx_mons oh.rn) m.toNat (by omega))) page Tryz.underlying22) .nil) fun ac S => ?_
 refine S.hq 12 [12] [] [(41, .v (slv (el (el h.mons m.toNat).out page.toNat).length (((qh.2 0).mons.2 m.toNat).out.2 page.toNat).1))] (.cons (qx (RMon.out (d := (el h.mons m.toNat)) (LRd.el (capx_mons oh.rn) m.toNat (by omega))) 50 page.toNat) .nil) fun ac S => ?_
 refine WD.one (i := 13) (by kernel_rfl) ?_
 refine id (S.k1 42 (c_impl_WithPage w h.mem (qh.2 0).mem (S.rd (capx_mem oh.rn)) (el (f_freeIn h) 0) (el (el h.mons m.toNat).out page.toNat) (((qh.2 0).mons.2 m.toNat).out.2 page.toNat) (S.rd (LRd.el (RMon.out (d := (el h.mons m.toNat)) (LRd.el (capx_mons oh.rn) m.toNat (by omega))) page.toNat (by omega)))) fun ac w N q100 F101 S up o102 d103 => ?_)
 refine WD.next S up (by kernel_rfl) ?_
 have d104 := Disj.w d103 oh.sub
 replace oh := oh.up up
 clear up d103
 refine S.hq 14 [15, 14] [] [(42, .v (slv (f_withPage h.mem (el (f_freeIn h) 0) (el (el h.mons m.toNat).out page.toNat)).length q100.1)), (43, .v (pt qh.1.b (qh.1.off + 0 * 4)))] .nil fun ac S => ?_
 refine S.hq 15 [15] [] [(44, .v (pt qh.1.b (qh.1.off + 0 * 4)))] .nil fun ac S => ?_
 refine WD.one (i := 16) (by kernel_rfl) ?_
 refine id (S.setElE (α := THost) oh (t := 22) (v := slv (f_withPage h.mem (el (f_freeIn h) 0) (el (el h.mons m.toNat).out page.toNat)).length q100.1) (k := 0) (j := 0) (off := qh.1.off + 0 * 4) (y := (⟨(f_withPage h.mem (el (f_freeIn h) 0) (el (el h.mons m.toNat).out page.toNat)), h.mons, h.buf, h.iobuf⟩ : THost)) (q := ({ (qh.2 0) with mem := q100 } : PHost)) (Fy := F101) (by kernel_rfl) (by kernel_rfl) (Nat.succ_pos 0) (by kernel_rfl) (by kernel_rfl) (Nat.le_of_ble_eq_true (by kernel_rfl)) (by kernel_rfl) (fun G g_ gF => ⟨_, owl_Host_mem g_ o102.own (fun b h h2 => d104 b (gF b h) h2), fun _ h => h⟩) d104 o102.sub o102.young fun w N F106 S up o105 d108 s109 n110 => ?_)
 refine WD.last (by kernel_rfl) ?_
 obtain ⟨q107, o111, hq112⟩ : ∃ q107 : Nat → PHost, Ow w0 F _ _ F106 [(⟨(f_withPage h.mem (el (f_freeIn h) 0) (el (el h.mons m.toNat).out page.toNat)), h.mons, h.buf, h.iobuf⟩ : THost)] ((qh.1, q107) : LP THost) ∧ (q107 0).mons.1 = (qh.2 0).mons.1 := ⟨_, o105, rfl⟩
 clear up d108 oh o105 s109 n110
 refine WD.done (by kernel_rfl) ?_ _
 refine id (nt (ws (rg ?_)))
 refine S.qb 5 [] [(0, .v (pt qh.1.b (qh.1.off + 0 * 4))), (48, .v (slv (el h.mons m.toNat).out.length (((q107 0).mons.2) m.toNat).out.1)), (49, .v (I page))] (.cons (qc (rd_hdr hq112 (cap_mons o111.rn)) 22 m.toNat 1 (slv (el h.mons m.toNat).out.length (((q107 0).mons.2) m.toNat).out.1)) .nil) fun ac w β S => ?_
 refine RG.op rfl (S.bs0 (α := Int) (d := 50) (by kernel_rfl) fun ac w N q113 F114 S up o115 d116 => ?_)
 have d117 := Disj.w d116 o111.sub
 replace o111 := o111.up up
 clear up d116
 refine S.qb 1 [] [(50, .v (slv 0 q113.1)), (51, .v (pt (((q107 0).mons.2) m.toNat).out.1.b ((((q107 0).mons.2) m.toNat).out.1.off + page.toNat * 1)))] (.cons (qt (RMon.out (d := (el h.mons m.toNat)) (LRd.el (rd_hdr hq112 (cap_mons o111.rn)) m.toNat (by omega))) page Tryz.underlying22) .nil) fun ac w β S => ?_
 obtain ⟨F118, o119, s120, b121⟩ := foc_cap o111 (fun _ o => foc2_Mon_out o (k := m.toNat) (show m.toNat < h.mons.length by omega))
 change Ow w0 F _ _ F118 (el h.mons m.toNat).out (((q107 0).mons.2) m.toNat).out at o119
 have l122 := LRd.le o119.rn
 have n123 := o119.sub
 refine RG.op rfl (S.sV (α := List Int) o119 (t := 50) (k := page.toNat) (off := (((q107 0).mons.2) m.toNat).out.1.off + page.toNat * 1) o115 (Disj.symm (Disj.symm (Disj.part d117 s120))) fun w N F125 q126 S up o124 d127 s128 n129 => ?_)
 clear d127 o119
 obtain ⟨p130, o131, hq133⟩ := b121 _ _ _ _ _ F114 up o124 s128 d117 List.length_set n129
 obtain ⟨X135, hX136⟩ : ∃ z, z = h.mons.set m.toNat { el h.mons m.toNat with out := ((el h.mons m.toNat).out.set page.toNat ([] : List Int)) } := ⟨_, rfl⟩
 have o134 : Ow w0 F w N (Or F106 F125) [(⟨(f_withPage h.mem (el (f_freeIn h) 0) (el (el h.mons m.toNat).out page.toNat)), X135, h.buf, h.iobuf⟩ : THost)] ((qh.1, p130) : LP THost) := by rw [hX136]; exact o131
 obtain ⟨l137, e138⟩ := setm_out hX136 (show m.toNat < h.mons.length by omega) List.length_set
 change (p130 0).mons.1 = (q107 0).mons.1 at hq133
 clear up o124 n129 o131
 refine rd (nt (ws (rg ?_)))
 refine S.qgm 9 [] [(0, .v (pt qh.1.b (qh.1.off + 0 * 4))), (8, .p 0 0)] (.cons (qc (rd_hdr (hq133.trans hq112) (cap_mons o134.rn)) 47 m.toNat 0 (slv (el X135 m.toNat).outer.length (((p130 0).mons.2) m.toNat).outer.1)) (.cons (qt (RMon.outer (d := (el X135 m.toNat)) (LRd.el (rd_hdr (hq133.trans hq112) (cap_mons o134.rn)) m.toNat (by omega))) page Tryz.underlying47) (.cons (qs (RMon.outer (d := (el X135 m.toNat)) (LRd.el (rd_hdr (hq133.trans hq112) (cap_mons o134.rn)) m.toNat (by omega))) 55 page.toNat) .nil))) 1 [(0, GT.cells (el (el X135 m.toNat).outer page.toNat) ())] fun ac w β S => ?_
 refine (nt (ws (rg ?_)))
 refine S.qb 8 [] [(65, .v (GT.val (⟨(el (f_freeIn h) 0), 3⟩ : TSlot) ())), (66, .v (pt (((p130 0).mons.2) m.toNat).outer.1.b ((((p130 0).mons.2) m.toNat).outer.1.off + page.toNat * 2)))] (.cons (qc (rd_hdr (hq133.trans hq112) (cap_mons o134.rn)) 47 m.toNat 0 (slv (el X135 m.toNat).outer.length (((p130 0).mons.2) m.toNat).outer.1)) (.cons (Q_sem (s := Instr.build 55 [(0, I (el (f_freeIn h) 0)), (1, I 3)].toArray) (v := .agg [I (el (f_freeIn h) 0), I 3].toArray) (fun w => by kernel_rfl)) (.cons (qt (RMon.outer (d := (el X135 m.toNat)) (LRd.el (rd_hdr (hq133.trans hq112) (cap_mons o134.rn)) m.toNat (by omega))) page Tryz.underlying47) .nil))) fun ac w β S => ?_
 obtain ⟨F139, o140, s141, b142⟩ := foc_cap o134 (fun _ o => foc2_Mon_outer o (k := m.toNat) (show m.toNat < X135.length by omega))
 change Ow w0 F _ _ F139 (el X135 m.toNat).outer (((p130 0).mons.2) m.toNat).outer at o140
 have l143 := LRd.le o140.rn
 have n144 := o140.sub
 have e145 : RSlot (el (el X135 m.toNat).outer page.toNat) := (LRd.el o140.rn page.toNat (by omega))
 refine RG.op rfl (S.sF (α := TSlot) o140 (t := 55) (k := page.toNat) (j := 0) (off := (((p130 0).mons.2) m.toNat).outer.1.off + page.toNat * 2) (v := GT.val (⟨(el (f_freeIn h) 0), 3⟩ : TSlot) ()) (y := (⟨(el (f_freeIn h) 0), 3⟩ : TSlot)) (q := ()) (fun _ _ _ => ⟨NoB, (show RSlot (⟨(el (f_freeIn h) 0), 3⟩ : TSlot) from ⟨i99, (show In64 3 from ⟨by decide, by decide⟩)⟩), fun _ h => False.elim h⟩) fun w N F147 q148 S up o146 d149 s150 n151 => ?_)
 clear d149 o140
 obtain ⟨p152, o153, hq155⟩ := b142 _ _ _ _ _ NoB up o146 s150 (fun b _ h => False.elim h) List.length_set n151
 obtain ⟨X157, hX158⟩ : ∃ z, z = X135.set m.toNat { el X135 m.toNat with outer := ((el X135 m.toNat).outer.set page.toNat (⟨(el (f_freeIn h) 0), 3⟩ : TSlot)) } := ⟨_, rfl⟩
 have o156 : Ow w0 F w N (Or (Or F106 F125) F147) [(⟨(f_withPage h.mem (el (f_freeIn h) 0) (el (el h.mons m.toNat).out page.toNat)), X157, h.buf, h.iobuf⟩ : THost)] ((qh.1, p152) : LP THost) := by rw [hX158]; exact o153
 obtain ⟨l159, e160⟩ := setm_outer hX158 (show m.toNat < X135.length by omega) List.length_set
 change (p152 0).mons.1 = (p130 0).mons.1 at hq155
 clear up o146 n151 o153
 refine rd (nt (rg ?_))
 refine S.qam 4 [0, 1, 2, 6, 7, 8, 42, 44, 48, 49, 50, 51, 65, 66] [(67, .v (pt qh.1.b (qh.1.off + 0 * 4))), (68, .v (I m)), (69, .v (I page)), (70, .v (GT.val (el (el X135 m.toNat).outer page.toNat) ()))] 0 [] fun ac w β S => ?_
 refine RG.op rfl (S.callCv (d := 71) o156 (c_impl_invalidate w (⟨(f_withPage h.mem (el (f_freeIn h) 0) (el (el h.mons m.toNat).out page.toNat)), X157, h.buf, h.iobuf⟩ : THost) ((qh.1, p152) : LP THost) (Or (Or F106 F125) F147) (S.ownw o156) (fun b hb => (S.sep b (o156.sub b hb)).1) m page (el (el X135 m.toNat).outer page.toNat) (LRd.el (RMon.outer (d := (el X135 m.toNat)) (LRd.el (rd_hdr (hq133.trans hq112) (cap_mons o134.rn)) m.toNat (by omega))) page.toNat (by omega)) (by (first | omega | (dsimp only; omega)))) fun ac w N p161 F162 S up o163 d165 hq164 => ?_)
 change (p161 0).mons.1 = (p152 0).mons.1 at hq164
 clear up d165 o156
 obtain ⟨Y166, hY167⟩ : ∃ z, z = (f_inval (⟨(f_withPage h.mem (el (f_freeIn h) 0) (el (el h.mons m.toNat).out page.toNat)), X157, h.buf, h.iobuf⟩ : THost) m page (el (el X135 m.toNat).outer page.toNat)) := ⟨_, rfl⟩
 have o168 : Ow w0 F w N F162 [Y166] ((qh.1, p161) : LP THost) := by rw [hY167]; exact o163
 clear o163
 have l169 := inval_bd hY167 (by first | omega | (dsimp only; omega))
 try dsimp only at l169
 refine rd (S.f [] ?_)
 exact retC_of S (show f_fetch h m page = Y166 from k0_impl_fetch) (show hdrH _ _ from (hq164.trans (hq155.trans (hq133.trans hq112)))) o168

theorem k0_impl_mend {p : Prop} (h : p := by clear S; (first | (rw [mend_n (by assumption) (mid_in (by assumption)) (by assumption)]; done) | (rw [mend_w (by assumption) (mid_in (by assumption)) (by assumption) (by assumption) (by assumption)]; done) | (exact mend_i (by assumption) (mid_in (by assumption)) (by assumption) (by assumption) (by assumption) (by assumption) rfl (by assumption)) | (rw [mend_n (by assumption) (mid_out (by assumption) (by assumption)) (by assumption)]; done) | (rw [mend_w (by assumption) (mid_out (by assumption) (by assumption)) (by assumption) (by assumption) (by assumption)]; done) | (exact mend_i (by assumption) (mid_out (by assumption) (by assumption)) (by assumption) (by assumption) (by assumption) (by assumption) rfl (by assumption)))) : p := h
theorem c_impl_mend (w0 : World) (h : THost) (qh : LP THost) (F : Bl) (hh : GT.own KK F w0 [h] qh) (hF : ∀ b, F b → b < w0.heap.size) (m : Int) (page : Int) (need : Int) (pre0 : f_hasPage h m page = true) : Calls Tryz.prog 52 [pt qh.1.b (qh.1.off + 0 * 4), I m, I page, I need].toArray w0 (RetC hdrH F qh w0 (packed []) (f_mend h m page need)) := by
 refine Calls.walk F Tryz.func52 rfl rfl ?_
 intro ac β S
 have oh : Ow w0 F w0 (Lt w0.heap.size) F [h] qh := ⟨hh, hF, fun b hb => .inr hb⟩
 have hp := hasPage_t (h := h) (m := m) (page := page) (by assumption)
 refine ws (ws (rg ?_))
 have i1 : In64 (el (el h.mons m.toNat).outer page.toNat).page := (RSlot.page (d := (el (el h.mons m.toNat).outer page.toNat)) (LRd.el (RMon.outer (d := (el h.mons m.toNat)) (LRd.el (capx_mons oh.rn) m.toNat (by omega))) page.toNat (by omega)))
 refine S.qg 13 [] [(22, .v (B ((el (el h.mons m.toNat).outer page.toNat).page == (-1))))] (.cons (Q_cell oh.rn (t := 28) (k := 0) (j := 1) (v := slv h.mons.length (qh.2 0).mons.1) (Nat.succ_pos 0) (by kernel_rfl) (by kernel_rfl)) (.cons (qt (capx_mons oh.rn) m Tryz.underlying28) (.cons (qc (capx_mons oh.rn) 47 m.toNat 0 (slv (el h.mons m.toNat).outer.length ((qh.2 0).mons.2 m.toNat).outer.1)) (.cons (qt (RMon.outer (d := (el h.mons m.toNat)) (LRd.el (capx_mons oh.rn) m.toNat (by omega))) page Tryz.underlying47) (.cons (qc (RMon.outer (d := (el h.mons m.toNat)) (LRd.el (capx_mons oh.rn) m.toNat (by omega))) 3 page.toNat 0 (I (el (el h.mons m.toNat).outer page.toNat).page)) .nil))))) fun ac w β S => ?_
 refine (nt (S.c ((el (el h.mons m.toNat).outer page.toNat).page == (-1)) (fun h2 => ?_) (fun h2 => ?_)))
 ·have g3 : (el (el h.mons m.toNat).outer page.toNat).page = (-1) := eq_of_beq h2
  refine rg ?_
  refine S.qa 3 [] [(23, .v (pt qh.1.b (qh.1.off + 0 * 4))), (24, .v (I m)), (25, .v (I page))] fun ac w β S => ?_
  refine RG.op rfl (S.callCv (d := 26) oh (c_impl_fetch w h qh F (S.ownw oh) (fun b hb => (S.sep b (oh.sub b hb)).1) m page (by (first | assumption | exact hasPage_ok (by assumption) | omega | (dsimp only; omega)))) fun ac w N p4 F5 S up o6 d8 hq7 => ?_)
  change (p4 0).mons.1 = (qh.2 0).mons.1 at hq7
  clear up d8 oh
  obtain ⟨Y9, hY10⟩ : ∃ z, z = (f_fetch h m page) := ⟨_, rfl⟩
  have o11 : Ow w0 F w N F5 [Y9] ((qh.1, p4) : LP THost) := by rw [hY10]; exact o6
  clear o6
  have l12 := fetch_bd hY10 (by assumption)
  try dsimp only at l12
  refine rd (nt (ws (ws (rg ?_))))
  refine S.qg 3 [] [(0, .v (pt qh.1.b (qh.1.off + 0 * 4))), (29, .v (B (!(f_enough need 2))))] (.cons (Q_call fun w hw => c_impl_Enough w need 2) .nil) fun ac w β S => ?_
  refine (nt (S.c (!(f_enough need 2)) (fun h13 => ?_) (fun h13 => ?_)))
  ·have h14 := not_t h13
   refine wr (rt (S.r [] ?_))
   exact retC_of S (show f_mend h m page need = Y9 from k0_impl_mend) (show hdrH _ _ from hq7) o11
  have h15 := not_f h13
  have g16 := enough_t h15
  refine wk (nt (ws (rg ?_)))
  refine S.qg 7 [] [(8, .v (pt (p4 0).mons.1.b ((p4 0).mons.1.off + m.toNat * 9)))] (.cons (Q_cell o11.rn (t := 28) (k := 0) (j := 1) (v := slv Y9.mons.length (p4 0).mons.1) (Nat.succ_pos 0) (by kernel_rfl) (by kernel_rfl)) (.cons (qt (capx_mons o11.rn) m Tryz.underlying28) .nil)) fun ac w β S => ?_
  refine (nt (ws (rg ?_)))
  refine S.qb 6 [] [(41, .v (pt ((p4 0).mons.2 m.toNat).dirty.1.b (((p4 0).mons.2 m.toNat).dirty.1.off + page.toNat * 1)))] (.cons (qc (capx_mons o11.rn) 48 m.toNat 2 (slv (el Y9.mons m.toNat).dirty.length ((p4 0).mons.2 m.toNat).dirty.1)) (.cons (qt (RMon.dirty (d := (el Y9.mons m.toNat)) (LRd.el (capx_mons o11.rn) m.toNat (by omega))) page Tryz.underlying48) .nil)) fun ac w β S => ?_
  obtain ⟨F17, o18, s19, b20⟩ := foc_cap o11 (fun _ o => foc2_Mon_dirty o (k := m.toNat) (show m.toNat < Y9.mons.length by omega))
  change Ow w0 F _ _ F17 (el Y9.mons m.toNat).dirty ((p4 0).mons.2 m.toNat).dirty at o18
  have l21 := LRd.le o18.rn
  have n22 := o18.sub
  refine RG.op rfl (S.sF (α := Bool) o18 (t := 4) (k := page.toNat) (j := 0) (off := ((p4 0).mons.2 m.toNat).dirty.1.off + page.toNat * 1) (v := B true) (y := true) (q := ()) (fun _ _ _ => ⟨NoB, trivial, fun _ h => False.elim h⟩) fun w N F24 q25 S up o23 d26 s27 n28 => ?_)
  clear d26 o18
  obtain ⟨p29, o30, hq32⟩ := b20 _ _ _ _ _ NoB up o23 s27 (fun b _ h => False.elim h) List.length_set n28
  obtain ⟨X34, hX35⟩ : ∃ z, z = Y9.mons.set m.toNat { el Y9.mons m.toNat with dirty := ((el Y9.mons m.toNat).dirty.set page.toNat true) } := ⟨_, rfl⟩
  have o33 : Ow w0 F w N (Or F5 F24) [(⟨Y9.mem, X34, Y9.buf, Y9.iobuf⟩ : THost)] ((qh.1, p29) : LP THost) := by rw [hX35]; exact o30
  obtain ⟨l36, e37⟩ := setm_dirty hX35 (show m.toNat < Y9.mons.length by omega) List.length_set
  change (p29 0).mons.1 = (p4 0).mons.1 at hq32
  clear up o23 n28 o30
  refine rd (nt (ws (rg ?_)))
  refine S.qgm 9 [] [(0, .v (pt qh.1.b (qh.1.off + 0 * 4))), (9, .p 0 0)] (.cons (qc (rd_hdr hq32 (cap_mons o33.rn)) 47 m.toNat 0 (slv (el X34 m.toNat).outer.length (((p29 0).mons.2) m.toNat).outer.1)) (.cons (qt (RMon.outer (d := (el X34 m.toNat)) (LRd.el (rd_hdr hq32 (cap_mons o33.rn)) m.toNat (by omega))) page Tryz.underlying47) (.cons (qs (RMon.outer (d := (el X34 m.toNat)) (LRd.el (rd_hdr hq32 (cap_mons o33.rn)) m.toNat (by omega))) 55 page.toNat) .nil))) 1 [(0, GT.cells (el (el X34 m.toNat).outer page.toNat) ())] fun ac w β S => ?_
  refine (nt (ws (rg ?_)))
  refine S.qg 4 [] [(52, .v (B (!(f_enough (el (el X34 m.toNat).outer page.toNat).rights 2))))] (.cons (Q_call fun w hw => c_impl_Enough w (el (el X34 m.toNat).outer page.toNat).rights 2) .nil) fun ac w β S => ?_
  refine (nt (S.c (!(f_enough (el (el X34 m.toNat).outer page.toNat).rights 2)) (fun h38 => ?_) (fun h38 => ?_)))
  ·have h39 := not_t h38
   refine ws (rg ?_)
   refine S.qb 7 [] [(59, .v (pt (((p29 0).mons.2) m.toNat).outer.1.b ((((p29 0).mons.2) m.toNat).outer.1.off + page.toNat * 2 + 1)))] (.cons (qc (rd_hdr hq32 (cap_mons o33.rn)) 47 m.toNat 0 (slv (el X34 m.toNat).outer.length (((p29 0).mons.2) m.toNat).outer.1)) (.cons (qt (RMon.outer (d := (el X34 m.toNat)) (LRd.el (rd_hdr hq32 (cap_mons o33.rn)) m.toNat (by omega))) page Tryz.underlying47) .nil)) fun ac w β S => ?_
   obtain ⟨F40, o41, s42, b43⟩ := foc_cap o33 (fun _ o => foc2_Mon_outer o (k := m.toNat) (show m.toNat < X34.length by omega))
   change Ow w0 F _ _ F40 (el X34 m.toNat).outer (((p29 0).mons.2) m.toNat).outer at o41
   have l44 := LRd.le o41.rn
   have n45 := o41.sub
   have e46 : RSlot (el (el X34 m.toNat).outer page.toNat) := (LRd.el o41.rn page.toNat (by omega))
   refine RG.op rfl (S.sF (α := TSlot) o41 (t := 3) (k := page.toNat) (j := 1) (off := (((p29 0).mons.2) m.toNat).outer.1.off + page.toNat * 2 + 1) (v := I 3) (y := (⟨(el (el X34 m.toNat).outer page.toNat).page, 3⟩ : TSlot)) (q := ()) (fun _ _ _ => ⟨NoB, (show RSlot (⟨(el (el X34 m.toNat).outer page.toNat).page, 3⟩ : TSlot) from ⟨(RSlot.page (d := (el (el X34 m.toNat).outer page.toNat)) e46), (show In64 3 from ⟨by decide, by decide⟩)⟩), fun _ h => False.elim h⟩) fun w N F48 q49 S up o47 d50 s51 n52 => ?_)
   clear d50 o41
   obtain ⟨p53, o54, hq56⟩ := b43 _ _ _ _ _ NoB up o47 s51 (fun b _ h => False.elim h) List.length_set n52
   obtain ⟨X58, hX59⟩ : ∃ z, z = X34.set m.toNat { el X34 m.toNat with outer := ((el X34 m.toNat).outer.set page.toNat (⟨(el (el X34 m.toNat).outer page.toNat).page, 3⟩ : TSlot)) } := ⟨_, rfl⟩
   have o57 : Ow w0 F w N (Or (Or F5 F24) F48) [(⟨Y9.mem, X58, Y9.buf, Y9.iobuf⟩ : THost)] ((qh.1, p53) : LP THost) := by rw [hX59]; exact o54
   obtain ⟨l60, e61⟩ := setm_outer hX59 (show m.toNat < X34.length by omega) List.length_set
   change (p53 0).mons.1 = (p29 0).mons.1 at hq56
   clear up o47 n52 o54
   refine rd (nt (rg ?_))
   refine S.qam 4 [0, 1, 2, 3, 8, 9, 22, 23, 24, 25, 29, 41, 52, 59] [(60, .v (pt qh.1.b (qh.1.off + 0 * 4))), (61, .v (I m)), (62, .v (I page)), (63, .v (GT.val (el (el X34 m.toNat).outer page.toNat) ()))] 0 [] fun ac w β S => ?_
   refine RG.op rfl (S.callCv (d := 64) o57 (c_impl_invalidate w (⟨Y9.mem, X58, Y9.buf, Y9.iobuf⟩ : THost) ((qh.1, p53) : LP THost) (Or (Or F5 F24) F48) (S.ownw o57) (fun b hb => (S.sep b (o57.sub b hb)).1) m page (el (el X34 m.toNat).outer page.toNat) (LRd.el (RMon.outer (d := (el X34 m.toNat)) (LRd.el (rd_hdr hq32 (cap_mons o33.rn)) m.toNat (by omega))) page.toNat (by omega)) (by (first | omega | (dsimp only; omega)))) fun ac w N p62 F63 S up o64 d66 hq65 => ?_)
   change (p62 0).mons.1 = (p53 0).mons.1 at hq65
   clear up d66 o57
   obtain ⟨Y67, hY68⟩ : ∃ z, z = (f_inval (⟨Y9.mem, X58, Y9.buf, Y9.iobuf⟩ : THost) m page (el (el X34 m.toNat).outer page.toNat)) := ⟨_, rfl⟩
   have o69 : Ow w0 F w N F63 [Y67] ((qh.1, p62) : LP THost) := by rw [hY68]; exact o64
   clear o64
   have l70 := inval_bd hY68 (by first | omega | (dsimp only; omega))
   try dsimp only at l70
   refine rd (S.f [] ?_)
   exact retC_of S (show f_mend h m page need = Y67 from k0_impl_mend) (show hdrH _ _ from (hq65.trans (hq56.trans (hq32.trans hq7)))) o69
  have h71 := not_f h38
  have g72 := enough_t h71
  refine wk (S.f [] ?_)
  exact retC_of S (show f_mend h m page need = (⟨Y9.mem, X34, Y9.buf, Y9.iobuf⟩ : THost) from k0_impl_mend) (show hdrH _ _ from (hq32.trans hq7)) o33
 have g73 : ¬ ((el (el h.mons m.toNat).outer page.toNat).page = (-1)) := ne_of_beq_false h2
 refine wk (nt (ws (ws (rg ?_))))
 refine S.qg 3 [] [(29, .v (B (!(f_enough need 2))))] (.cons (Q_call fun w hw => c_impl_Enough w need 2) .nil) fun ac w β S => ?_
 refine (nt (S.c (!(f_enough need 2)) (fun h74 => ?_) (fun h74 => ?_)))
 ·have h75 := not_t h74
  refine wr (rt (S.r [] ?_))
  exact retC_of S (show f_mend h m page need = h from k0_impl_mend) (show hdrH _ _ from rfl) oh
 have h76 := not_f h74
 have g77 := enough_t h76
 refine wk (nt (ws (rg ?_)))
 refine S.qg 7 [] [(8, .v (pt (qh.2 0).mons.1.b ((qh.2 0).mons.1.off + m.toNat * 9)))] (.cons (Q_cell oh.rn (t := 28) (k := 0) (j := 1) (v := slv h.mons.length (qh.2 0).mons.1) (Nat.succ_pos 0) (by kernel_rfl) (by kernel_rfl)) (.cons (qt (capx_mons oh.rn) m Tryz.underlying28) .nil)) fun ac w β S => ?_
 refine (nt (ws (rg ?_)))
 refine S.qb 6 [] [(41, .v (pt ((qh.2 0).mons.2 m.toNat).dirty.1.b (((qh.2 0).mons.2 m.toNat).dirty.1.off + page.toNat * 1)))] (.cons (qc (capx_mons oh.rn) 48 m.toNat 2 (slv (el h.mons m.toNat).dirty.length ((qh.2 0).mons.2 m.toNat).dirty.1)) (.cons (qt (RMon.dirty (d := (el h.mons m.toNat)) (LRd.el (capx_mons oh.rn) m.toNat (by omega))) page Tryz.underlying48) .nil)) fun ac w β S => ?_
 obtain ⟨F78, o79, s80, b81⟩ := foc_cap oh (fun _ o => foc2_Mon_dirty o (k := m.toNat) (show m.toNat < h.mons.length by omega))
 change Ow w0 F _ _ F78 (el h.mons m.toNat).dirty ((qh.2 0).mons.2 m.toNat).dirty at o79
 have l82 := LRd.le o79.rn
 have n83 := o79.sub
 refine RG.op rfl (S.sF (α := Bool) o79 (t := 4) (k := page.toNat) (j := 0) (off := ((qh.2 0).mons.2 m.toNat).dirty.1.off + page.toNat * 1) (v := B true) (y := true) (q := ()) (fun _ _ _ => ⟨NoB, trivial, fun _ h => False.elim h⟩) fun w N F85 q86 S up o84 d87 s88 n89 => ?_)
 clear d87 o79
 obtain ⟨p90, o91, hq93⟩ := b81 _ _ _ _ _ NoB up o84 s88 (fun b _ h => False.elim h) List.length_set n89
 obtain ⟨X95, hX96⟩ : ∃ z, z = h.mons.set m.toNat { el h.mons m.toNat with dirty := ((el h.mons m.toNat).dirty.set page.toNat true) } := ⟨_, rfl⟩
 have o94 : Ow w0 F w N (Or F F85) [(⟨h.mem, X95, h.buf, h.iobuf⟩ : THost)] ((qh.1, p90) : LP THost) := by rw [hX96]; exact o91
 obtain ⟨l97, e98⟩ := setm_dirty hX96 (show m.toNat < h.mons.length by omega) List.length_set
 change (p90 0).mons.1 = (qh.2 0).mons.1 at hq93
 clear up o84 n89 o91
 refine rd (nt (ws (rg ?_)))
 refine S.qgm 9 [] [(0, .v (pt qh.1.b (qh.1.off + 0 * 4))), (9, .p 0 0)] (.cons (qc (rd_hdr hq93 (cap_mons o94.rn)) 47 m.toNat 0 (slv (el X95 m.toNat).outer.length (((p90 0).mons.2) m.toNat).outer.1)) (.cons (qt (RMon.outer (d := (el X95 m.toNat)) (LRd.el (rd_hdr hq93 (cap_mons o94.rn)) m.toNat (by omega))) page Tryz.underlying47) (.cons (qs (RMon.outer (d := (el X95 m.toNat)) (LRd.el (rd_hdr hq93 (cap_mons o94.rn)) m.toNat (by omega))) 55 page.toNat) .nil))) 1 [(0, GT.cells (el (el X95 m.toNat).outer page.toNat) ())] fun ac w β S => ?_
 refine (nt (ws (rg ?_)))
 refine S.qg 4 [] [(52, .v (B (!(f_enough (el (el X95 m.toNat).outer page.toNat).rights 2))))] (.cons (Q_call fun w hw => c_impl_Enough w (el (el X95 m.toNat).outer page.toNat).rights 2) .nil) fun ac w β S => ?_
 refine (nt (S.c (!(f_enough (el (el X95 m.toNat).outer page.toNat).rights 2)) (fun h99 => ?_) (fun h99 => ?_)))
 ·have h100 := not_t h99
  refine ws (rg ?_)
  refine S.qb 7 [] [(59, .v (pt (((p90 0).mons.2) m.toNat).outer.1.b ((((p90 0).mons.2) m.toNat).outer.1.off + page.toNat * 2 + 1)))] (.cons (qc (rd_hdr hq93 (cap_mons o94.rn)) 47 m.toNat 0 (slv (el X95 m.toNat).outer.length (((p90 0).mons.2) m.toNat).outer.1)) (.cons (qt (RMon.outer (d := (el X95 m.toNat)) (LRd.el (rd_hdr hq93 (cap_mons o94.rn)) m.toNat (by omega))) page Tryz.underlying47) .nil)) fun ac w β S => ?_
  obtain ⟨F101, o102, s103, b104⟩ := foc_cap o94 (fun _ o => foc2_Mon_outer o (k := m.toNat) (show m.toNat < X95.length by omega))
  change Ow w0 F _ _ F101 (el X95 m.toNat).outer (((p90 0).mons.2) m.toNat).outer at o102
  have l105 := LRd.le o102.rn
  have n106 := o102.sub
  have e107 : RSlot (el (el X95 m.toNat).outer page.toNat) := (LRd.el o102.rn page.toNat (by omega))
  refine RG.op rfl (S.sF (α := TSlot) o102 (t := 3) (k := page.toNat) (j := 1) (off := (((p90 0).mons.2) m.toNat).outer.1.off + page.toNat * 2 + 1) (v := I 3) (y := (⟨(el (el X95 m.toNat).outer page.toNat).page, 3⟩ : TSlot)) (q := ()) (fun _ _ _ => ⟨NoB, (show RSlot (⟨(el (el X95 m.toNat).outer page.toNat).page, 3⟩ : TSlot) from ⟨(RSlot.page (d := (el (el X95 m.toNat).outer page.toNat)) e107), (show In64 3 from ⟨by decide, by decide⟩)⟩), fun _ h => False.elim h⟩) fun w N F109 q110 S up o108 d111 s112 n113 => ?_)
  clear d111 o102
  obtain ⟨p114, o115, hq117⟩ := b104 _ _ _ _ _ NoB up o108 s112 (fun b _ h => False.elim h) List.length_set n113
  obtain ⟨X119, hX120⟩ : ∃ z, z = X95.set m.toNat { el X95 m.toNat with outer := ((el X95 m.toNat).outer.set page.toNat (⟨(el (el X95 m.toNat).outer page.toNat).page, 3⟩ : TSlot)) } := ⟨_, rfl⟩
  have o118 : Ow w0 F w N (Or (Or F F85) F109) [(⟨h.mem, X119, h.buf, h.iobuf⟩ : THost)] ((qh.1, p114) : LP THost) := by rw [hX120]; exact o115
  obtain ⟨l121, e122⟩ := setm_outer hX120 (show m.toNat < X95.length by omega) List.length_set
  change (p114 0).mons.1 = (p90 0).mons.1 at hq117
  clear up o108 n113 o115
  refine rd (nt (rg ?_))
  refine S.qam 4 [0] [(60, .v (pt qh.1.b (qh.1.off + 0 * 4))), (61, .v (I m)), (62, .v (I page)), (63, .v (GT.val (el (el X95 m.toNat).outer page.toNat) ()))] 0 [] fun ac w β S => ?_
  refine RG.op rfl (S.callCv (d := 64) o118 (c_impl_invalidate w (⟨h.mem, X119, h.buf, h.iobuf⟩ : THost) ((qh.1, p114) : LP THost) (Or (Or F F85) F109) (S.ownw o118) (fun b hb => (S.sep b (o118.sub b hb)).1) m page (el (el X95 m.toNat).outer page.toNat) (LRd.el (RMon.outer (d := (el X95 m.toNat)) (LRd.el (rd_hdr hq93 (cap_mons o94.rn)) m.toNat (by omega))) page.toNat (by omega)) (by (first | omega | (dsimp only; omega)))) fun ac w N p123 F124 S up o125 d127 hq126 => ?_)
  change (p123 0).mons.1 = (p114 0).mons.1 at hq126
  clear up d127 o118
  obtain ⟨Y128, hY129⟩ : ∃ z, z = (f_inval (⟨h.mem, X119, h.buf, h.iobuf⟩ : THost) m page (el (el X95 m.toNat).outer page.toNat)) := ⟨_, rfl⟩
  have o130 : Ow w0 F w N F124 [Y128] ((qh.1, p123) : LP THost) := by rw [hY129]; exact o125
  clear o125
  have l131 := inval_bd hY129 (by first | omega | (dsimp only; omega))
  try dsimp only at l131
  refine rd (S.f [] ?_)
  exact retC_of S (show f_mend h m page need = Y128 from k0_impl_mend) (show hdrH _ _ from (hq126.trans (hq117.trans hq93))) o130
 have h132 := not_f h99
 have g133 := enough_t h132
 refine wk (S.f [] ?_)
 exact retC_of S (show f_mend h m page need = (⟨h.mem, X95, h.buf, h.iobuf⟩ : THost) from k0_impl_mend) (show hdrH _ _ from hq93) o94

theorem k0_impl_HostPoke {p : Prop} (h : p := by clear S; (first | (rw [hostPoke_out (by assumption)]; done) | (rw [hostPoke_yes (by assumption) (by assumption)]; done))) : p := h
theorem c_impl_HostPoke (w0 : World) (h : THost) (ph : PHost) (hh : RD w0 h ph) (m : Int) (page : Int) (hpage : In64 page) (cell : Int) (hcell : In64 cell) (v : Int) (hv : In64 v) : Calls Tryz.prog 22 [GT.val h ph, I m, I page, I cell, I v].toArray w0 (Ret2 NoB w0 ((f_hostPoke h m page cell v).1 : THost) ((f_hostPoke h m page cell v).2 : Bool)) := by
 refine Calls.walk NoB Tryz.func22 rfl rfl ?_
 intro ac β S
 have hleh_mem : h.mem.length ≤ 4194304 := LRd.le (RHost.mem (d := h) hh)
 have hleh_mons : h.mons.length ≤ 4194304 := LRd.le (RHost.mons (d := h) hh)
 have hleh_buf : h.buf.length ≤ 4194304 := LRd.le (RHost.buf (d := h) hh)
 have hleh_iobuf : h.iobuf.length ≤ 4194304 := LRd.le (RHost.iobuf (d := h) hh)
 have hlopage := hpage.lo; have hhipage := hpage.hi
 have hlocell := hcell.lo; have hhicell := hcell.hi
 have hlov := hv.lo; have hhiv := hv.hi
 refine ws (rg ?_)
 refine S.qem 6 [] [(5, .p 0 0), (7, .p 1 0), (8, .p 2 0), (9, .p 3 0), (10, .p 4 0)] 5 [(0, GT.cells h ph), (1, [I page]), (2, [I cell]), (3, [I v]), (4, Zc THost)] fun ac w β S => ?_
 refine (nt (ws ?_))
 refine S.frz 1 page () hpage fun β N b1 F2 S up o3 d4 => ?_
 clear up d4
 refine S.frz 1 cell () hcell fun β N b5 F6 S up o7 d8 => ?_
 have d9 := Disj.w d8 o3.sub
 replace o3 := o3.up up
 clear up d8
 refine S.frz 1 v () hv fun β N b10 F11 S up o12 d13 => ?_
 have d14 := Disj.w d13 o3.sub
 have d15 := Disj.w d13 o7.sub
 replace o3 := o3.up up
 replace o7 := o7.up up
 clear up d13
 refine rg ?_
 refine S.qa 3 [] [(15, .v (GT.val h ph)), (16, .v (I m)), (17, .v (.func (.func 55) #[] #[pt (cap1 b1 () : LP Int).1.b ((cap1 b1 () : LP Int).1.off + 0 * 1), pt (cap1 b5 () : LP Int).1.b ((cap1 b5 () : LP Int).1.off + 0 * 1), pt (cap1 b10 () : LP Int).1.b ((cap1 b10 () : LP Int).1.off + 0 * 1)]))] fun ac w β S => ?_
 refine RG.op rfl (S.call2 (r := h) (r' := f_pokeOk h m page cell v) (d := 18) (c_impl_reflected w h ph (S.rd (S.arg hh)) m page (cap1 b1 () : LP Int) (S.rd o3.rn) cell (cap1 b5 () : LP Int) (S.rd o7.rn) v (cap1 b10 () : LP Int) (S.rd o12.rn)) (by kernel_rfl) rfl fun ac w N q16 q17 F18 F19 S up o20 o21 d22 d23 d24 => ?_)
 have d25 := Disj.w d23 o3.sub
 have d26 := Disj.w d23 o7.sub
 have d27 := Disj.w d23 o12.sub
 have d28 := Disj.w d22 o3.sub
 have d29 := Disj.w d22 o7.sub
 have d30 := Disj.w d22 o12.sub
 replace o3 := o3.up up
 replace o7 := o7.up up
 replace o12 := o12.up up
 clear up d22
 clear d23
 obtain ⟨F31, F34, F37, F40, o32, o35, o38, o41, s33, s36, s39, s42, d43, d44, d45, d46, d47, d48⟩ := sp_Host o20
 refine S.qem 6 [] [(12, .p 2 0), (13, .v (B (f_pokeOk h m page cell v)))] 3 [(2, [slv h.mem.length q16.mem.1, slv h.mons.length q16.mons.1, slv h.buf.length q16.buf.1, slv h.iobuf.length q16.iobuf.1])] fun ac w β S => ?_
 refine (nt (ws (ws ?_)))
 have o49 := ow_Host (x := h) (p := q16) o32 o35 o38 o41 d43 d44 d45 d46 d47 d48 
 refine S.frzO 2 o49 fun β N b50 F51 S up o52 d53 => ?_
 have d54 := d53 _ (Disj.symm (Disj.or (Disj.part (Disj.symm d28) s33) (Disj.or (Disj.part (Disj.symm d28) s36) (Disj.or (Disj.part (Disj.symm d28) s39) (Disj.or (Disj.part (Disj.symm d28) s42) Disj.nob))))) o3.sub
 have d55 := d53 _ (Disj.symm (Disj.or (Disj.part (Disj.symm d29) s33) (Disj.or (Disj.part (Disj.symm d29) s36) (Disj.or (Disj.part (Disj.symm d29) s39) (Disj.or (Disj.part (Disj.symm d29) s42) Disj.nob))))) o7.sub
 have d56 := d53 _ (Disj.symm (Disj.or (Disj.part (Disj.symm d30) s33) (Disj.or (Disj.part (Disj.symm d30) s36) (Disj.or (Disj.part (Disj.symm d30) s39) (Disj.or (Disj.part (Disj.symm d30) s42) Disj.nob))))) o12.sub
 replace o3 := o3.up up
 replace o7 := o7.up up
 replace o12 := o12.up up
 clear up d53 o49
 refine rg ?_
 refine S.qe 1 [] [(21, .v (B (f_pokeOk h m page cell v)))] fun ac w β S => ?_
 refine (nt (S.c (f_pokeOk h m page cell v) (fun h57 => ?_) (fun h57 => ?_)))
 ·rw [h57] at S
  have g58 := pokeOk_t h57
  refine ws (rg ?_)
  refine S.qb 2 [21] [(13, .v (B true)), (22, .v (I m)), (23, .v (I page))] (.cons (Q_el1 o3.rn (t := 3) (k := 0) (Nat.succ_pos 0) rfl (by kernel_rfl)) .nil) fun ac w β S => ?_
  refine RG.op rfl (S.callCv (d := 24) o52 (c_impl_mend w h (cap1 b50 q16 : LP THost) F51 (S.ownw o52) (fun b hb => (S.sep b (o52.sub b hb)).1) m page 2 (by (first | assumption | exact (pokeOk_t (by assumption)).1 | omega))) fun ac w N p59 F60 S up o61 d63 hq62 => ?_)
  change (p59 0).mons.1 = ((cap1 b50 q16 : LP THost).2 0).mons.1 at hq62
  have d64 := d63 _ d54 o3.sub
  have d65 := d63 _ d55 o7.sub
  have d66 := d63 _ d56 o12.sub
  replace o3 := o3.upF d54 up
  replace o7 := o7.upF d55 up
  replace o12 := o12.upF d56 up
  clear up d63 o52
  obtain ⟨Y67, hY68⟩ : ∃ z, z = (f_mend h m page 2) := ⟨_, rfl⟩
  have o69 : Ow w0 NoB w N F60 [Y67] (((cap1 b50 q16 : LP THost).1, p59) : LP THost) := by rw [hY68]; exact o61
  clear o61
  have l70 := mend_lens hY68 (pokeOk_t (by assumption)).1
  try dsimp only at l70
  refine rd (nt ?_)
  refine S.draw0 (f := 17) 16 rfl rfl fun w S => ?_
  refine S.hq 0 [0] [] [(12, .v (pt ((cap1 b50 q16 : LP THost).1).b (((cap1 b50 q16 : LP THost).1).off + 0 * 4))), (25, .v (pt ((cap1 b50 q16 : LP THost).1).b (((cap1 b50 q16 : LP THost).1).off + 0 * 4)))] .nil fun ac S => ?_
  refine S.hq 1 [1] [] [(26, .v (slv Y67.mem.length (p59 0).mem.1))] (.cons (Q_cell o69.rn (t := 22) (k := 0) (j := 0) (v := slv Y67.mem.length (p59 0).mem.1) (Nat.succ_pos 0) (by kernel_rfl) (by kernel_rfl)) .nil) fun ac S => ?_
  refine S.hq 2 [2] [] [(27, .v (pt ((cap1 b50 q16 : LP THost).1).b (((cap1 b50 q16 : LP THost).1).off + 0 * 4 + 1)))] .nil fun ac S => ?_
  refine S.hq 3 [3] [] [(28, .v (slv Y67.mons.length (p59 0).mons.1))] (.cons (Q_cell o69.rn (t := 28) (k := 0) (j := 1) (v := slv Y67.mons.length (p59 0).mons.1) (Nat.succ_pos 0) (by kernel_rfl) (by kernel_rfl)) .nil) fun ac S => ?_
  refine S.hq 4 [4] [] [(29, .v (I m))] .nil fun ac S => ?_
  refine S.hq 5 [5] [] [(30, .v (pt (p59 0).mons.1.b ((p59 0).mons.1.off + m.toNat * 9)))] (.cons (qt (capx_mons o69.rn) m Tryz.underlying28) .nil) fun ac S => ?_
  refine S.hq 6 [6] [] [(31, .v (pt (p59 0).mons.1.b ((p59 0).mons.1.off + m.toNat * 9)))] .nil fun ac S => ?_
  refine S.hq 7 [7] [] [(32, .v (slv (el Y67.mons m.toNat).outer.length ((p59 0).mons.2 m.toNat).outer.1))] (.cons (qc (capx_mons o69.rn) 47 m.toNat 0 (slv (el Y67.mons m.toNat).outer.length ((p59 0).mons.2 m.toNat).outer.1)) .nil) fun ac S => ?_
  refine S.hq 8 [8] [] [(33, .v (I page))] (.cons (Q_el1 o3.rn (t := 3) (k := 0) (Nat.succ_pos 0) rfl (by kernel_rfl)) .nil) fun ac S => ?_
  refine S.hq 9 [9] [] [(34, .v (pt ((p59 0).mons.2 m.toNat).outer.1.b (((p59 0).mons.2 m.toNat).outer.1.off + page.toNat * 2)))] (.cons (qt (RMon.outer (d := (el Y67.mons m.toNat)) (LRd.el (capx_mons o69.rn) m.toNat (by omega))) page Tryz.underlying47) .nil) fun ac S => ?_
  refine S.hq 10 [10] [] [(35, .v (pt ((p59 0).mons.2 m.toNat).outer.1.b (((p59 0).mons.2 m.toNat).outer.1.off + page.toNat * 2)))] .nil fun ac S => ?_
  have i71 : In64 (el (el Y67.mons m.toNat).outer page.toNat).page := (RSlot.page (d := (el (el Y67.mons m.toNat).outer page.toNat)) (LRd.el (RMon.outer (d := (el Y67.mons m.toNat)) (LRd.el (capx_mons o69.rn) m.toNat (by omega))) page.toNat (by omega)))
  refine S.hq 11 [11] [] [(36, .v (I (el (el Y67.mons m.toNat).outer page.toNat).page))] (.cons (qc (RMon.outer (d := (el Y67.mons m.toNat)) (LRd.el (capx_mons o69.rn) m.toNat (by omega))) 3 page.toNat 0 (I (el (el Y67.mons m.toNat).outer page.toNat).page)) .nil) fun ac S => ?_
  refine S.hq 12 [12] [] [(37, .v (I cell))] (.cons (Q_el1 o7.rn (t := 3) (k := 0) (Nat.succ_pos 0) rfl (by kernel_rfl)) .nil) fun ac S => ?_
  refine S.hq 13 [13] [] [(38, .v (I v))] (.cons (Q_el1 o12.rn (t := 3) (k := 0) (Nat.succ_pos 0) rfl (by kernel_rfl)) .nil) fun ac S => ?_
  refine WD.one (i := 14) (by kernel_rfl) ?_
  refine id (S.k1 39 (c_impl_WithCell w Y67.mem (p59 0).mem (S.rd (capx_mem o69.rn)) (el (el Y67.mons m.toNat).outer page.toNat).page cell v hv) fun ac w N q72 F73 S up o74 d75 => ?_)
  refine WD.next S up (by kernel_rfl) ?_
  have d76 := Disj.w d75 o69.sub
  replace o69 := o69.up up
  clear up d75
  refine S.hq 15 [15] [] [(39, .v (slv (f_withCell Y67.mem (el (el Y67.mons m.toNat).outer page.toNat).page cell v).length q72.1)), (40, .v (pt ((cap1 b50 q16 : LP THost).1).b (((cap1 b50 q16 : LP THost).1).off + 0 * 4)))] .nil fun ac S => ?_
  refine WD.one (i := 16) (by kernel_rfl) ?_
  refine id (S.setElE (α := THost) o69 (t := 22) (v := slv (f_withCell Y67.mem (el (el Y67.mons m.toNat).outer page.toNat).page cell v).length q72.1) (k := 0) (j := 0) (off := ((cap1 b50 q16 : LP THost).1).off + 0 * 4) (y := (⟨(f_withCell Y67.mem (el (el Y67.mons m.toNat).outer page.toNat).page cell v), Y67.mons, Y67.buf, Y67.iobuf⟩ : THost)) (q := ({ (p59 0) with mem := q72 } : PHost)) (Fy := F73) (by kernel_rfl) (by kernel_rfl) (Nat.succ_pos 0) (by kernel_rfl) (by kernel_rfl) (Nat.le_of_ble_eq_true (by kernel_rfl)) (by kernel_rfl) (fun G g_ gF => ⟨_, owl_Host_mem g_ o74.own (fun b h h2 => d76 b (gF b h) h2), fun _ h => h⟩) d76 o74.sub o74.young fun w N F78 S up o77 d80 s81 n82 => ?_)
  refine WD.last (by kernel_rfl) ?_
  obtain ⟨q79, o83, hq84⟩ : ∃ q79 : Nat → PHost, Ow w0 NoB _ _ F78 [(⟨(f_withCell Y67.mem (el (el Y67.mons m.toNat).outer page.toNat).page cell v), Y67.mons, Y67.buf, Y67.iobuf⟩ : THost)] ((((cap1 b50 q16 : LP THost).1), q79) : LP THost) ∧ (q79 0).mons.1 = (p59 0).mons.1 := ⟨_, o77, rfl⟩
  clear up d80 o69 o77 s81 n82
  refine WD.done (by kernel_rfl) ?_ _
  refine id (nt (ws (rg ?_)))
  refine S.qgm 4 [12] [(11, .v (B true))] (.cons (Q_el o83.rn (t := 31) (k := 0) (Nat.succ_pos 0) rfl (by kernel_rfl) (by kernel_rfl)) .nil) 2 [(1, [slv (f_withCell Y67.mem (el (el Y67.mons m.toNat).outer page.toNat).page cell v).length (q79 0).mem.1, slv Y67.mons.length (q79 0).mons.1, slv Y67.buf.length (q79 0).buf.1, slv Y67.iobuf.length (q79 0).iobuf.1])] fun ac w β S => ?_
  refine (nt (wr (S.r [GT.val (⟨(f_withCell Y67.mem (el (el Y67.mons m.toNat).outer page.toNat).page cell v), Y67.mons, Y67.buf, Y67.iobuf⟩ : THost) (q79 0), B true] ?_)))
  obtain ⟨F85, o86, s87, _⟩ := foc2_id o83 (k := 0) (Nat.succ_pos 0)
  change Ow w0 NoB _ _ F85 (⟨(f_withCell Y67.mem (el (el Y67.mons m.toNat).outer page.toNat).page cell v), Y67.mons, Y67.buf, Y67.iobuf⟩ : THost) (q79 0) at o86
  exact ret2_of (p' := ()) S (show (f_hostPoke h m page cell v).1 = (⟨(f_withCell Y67.mem (el (el Y67.mons m.toNat).outer page.toNat).page cell v), Y67.mons, Y67.buf, Y67.iobuf⟩ : THost) from k0_impl_HostPoke) (show (f_hostPoke h m page cell v).2 = true from k0_impl_HostPoke) rfl rfl o86 trivial
 rw [h57] at S
 refine wk (nt (ws (rg ?_)))
 refine S.qgm 4 [13, 21] [(11, .v (B false))] (.cons (Q_el o52.rn (t := 31) (k := 0) (Nat.succ_pos 0) rfl (by kernel_rfl) (by kernel_rfl)) .nil) 2 [(1, [slv h.mem.length ((cap1 b50 q16 : LP THost).2 0).mem.1, slv h.mons.length ((cap1 b50 q16 : LP THost).2 0).mons.1, slv h.buf.length ((cap1 b50 q16 : LP THost).2 0).buf.1, slv h.iobuf.length ((cap1 b50 q16 : LP THost).2 0).iobuf.1])] fun ac w β S => ?_
 refine (nt (wr (S.r [GT.val h ((cap1 b50 q16 : LP THost).2 0), B false] ?_)))
 obtain ⟨F88, o89, s90, _⟩ := foc2_id o52 (k := 0) (Nat.succ_pos 0)
 change Ow w0 NoB _ _ F88 h ((cap1 b50 q16 : LP THost).2 0) at o89
 exact ret2_of (p' := ()) S (show (f_hostPoke h m page cell v).1 = h from k0_impl_HostPoke) (show (f_hostPoke h m page cell v).2 = false from k0_impl_HostPoke) rfl rfl o89 trivial

theorem k0_laws_eqIntS {p : Prop} (h : p := by clear S; first | (simp; intro e; subst e; simp_all; done) | (simp; rw [take_all (by omega), take_all (by omega)] at he; exact he) | (simp; exact take_ne (by simp_all))) : p := h
theorem c_laws_eqIntS (w0 : World) (a : List Int) (pa : LP Int) (ha : RD w0 a pa) (b : List Int) (pb : LP Int) (hb : RD w0 b pb) : Calls Tryz.prog 74 [slv a.length pa.1, slv b.length pb.1].toArray w0 (fun e w' => e = .returned (B (decide (a = b))) ∧ Chg NoB w0 w') := by
 refine Calls.walk NoB Tryz.func74 rfl rfl ?_
 intro ac β S
 have hlea : a.length ≤ 4194304 := LRd.le ha
 have hleb : b.length ≤ 4194304 := LRd.le hb
 refine ws (rg ?_)
 refine S.qe 1 [] [] fun ac w β S => ?_
 refine (nt (ws (ws (rg ?_))))
 refine S.qe 5 [] [(10, .v (B ((a.length : Int) != (b.length : Int))))] fun ac w β S => ?_
 refine (nt (S.c ((a.length : Int) != (b.length : Int)) (fun h1 => ?_) (fun h1 => ?_)))
 ·have g2 : ¬ ((a.length : Int) = (b.length : Int)) := bne_iff_ne.1 h1
  refine ws (rg ?_)
  refine S.qe 1 [] [(4, .v (B false))] fun ac w β S => ?_
  exact (nt (wr (rt (S.r [B false] ⟨retB k0_laws_eqIntS, S.chg⟩))))
 have g3 : (a.length : Int) = (b.length : Int) := ne_f h1
 refine wk (nt (ws (ws (rg ?_))))
 refine S.qe 1 [] [(5, .v (I 0))] fun ac w β S => ?_
 refine (nt (wp_block ?_))
 refine wp_loop_down (fun mm ac w => ∃ (k : Nat)  (u : _) (N : _) (β : _), mm = a.length - k ∧ (k ≤ a.length) ∧ (a.length = b.length) ∧ (a.take k = b.take k) ∧ St Tryz.prog Tryz.f74.ntmps w0 NoB u N β ⟨[(0, .v (slv a.length pa.1)), (1, .v (slv b.length pb.1)), (5, .v (I (k : Int)))], []⟩ ac w) _ ⟨0, _, _, _, rfl, o0, o0, (by simp), S.z⟩ ?_
 clear S
 rintro mm ac w ⟨k, u, N, β, rfl, hk, hab, he, S⟩
 refine ws (ws (rg ?_))
 refine S.qe 4 [] [(14, .v (B (decide ((k : Int) < (a.length : Int)))))] fun ac w β S => ?_
 refine (nt (S.c (decide ((k : Int) < (a.length : Int))) (fun h4 => ?_) (fun h4 => ?_)))
 ·have g5 := of_decide_eq_true h4
  refine wk (nt (ws (wp_block (ws ?_))))
  refine S.drawn (keep := [0, 1, 5, 25]) (m := 0) (σ' := ⟨[(0, .v (slv a.length pa.1)), (1, .v (slv b.length pb.1)), (5, .v (I (k : Int))), (25, .v (B ((el a k) != (el b k))))], []⟩) (.cons (qn (S.arg ha) k Tryz.underlying50) (.cons (qx (S.arg ha) 3 k) (.cons (qn (S.arg hb) k Tryz.underlying50) (.cons (qx (S.arg hb) 3 k) .nil)))) rfl (by kernel_rfl) (by kernel_rfl) fun ac w S => ?_
  refine id (nt (S.c ((el a k) != (el b k)) (fun h6 => ?_) (fun h6 => ?_)))
  ·have g7 : ¬ ((el a k) = (el b k)) := bne_iff_ne.1 h6
   refine ws (rg ?_)
   refine S.qe 1 [] [(4, .v (B false))] fun ac w β S => ?_
   exact (nt (wr (rb (rt (rt (rb (rt (S.r [B false] ⟨retB k0_laws_eqIntS, S.chg⟩))))))))
  have g8 : (el a k) = (el b k) := ne_f h6
  refine wk (nb (nt (rg ?_)))
  refine S.qg 3 [] [(5, .v (I ((k : Int) + 1)))] (.cons (qp (k : Int) 1) .nil) fun ac w β S => ?_
  refine (nt ?_)
  refine ⟨a.length - (k + 1), by omega, k + 1, _, _, _, rfl, ?_, ?_, ?_, S.z⟩
  ·exact oz
  ·exact oz
  ·clear S; exact take_eq_step (by omega) (by omega) he (by simp_all)
 have g9 := of_decide_eq_false h4
 refine wp_exit (ex_then (ex_then (ex_hit (nt (ws (rg ?_))))))
 refine S.qe 1 [] [(4, .v (B true))] fun ac w β S => ?_
 exact (nt (wr (S.r [B true] ⟨retB k0_laws_eqIntS, S.chg⟩)))

theorem k0_laws_eqIntSS {p : Prop} (h : p := by clear S; first | (simp; intro e; subst e; simp_all; done) | (simp; rw [take_all (by omega), take_all (by omega)] at he; exact he) | (simp; exact take_ne (by simp_all))) : p := h
theorem c_laws_eqIntSS (w0 : World) (a : List (List Int)) (pa : LP (List Int)) (ha : RD w0 a pa) (b : List (List Int)) (pb : LP (List Int)) (hb : RD w0 b pb) : Calls Tryz.prog 36 [slv a.length pa.1, slv b.length pb.1].toArray w0 (fun e w' => e = .returned (B (decide (a = b))) ∧ Chg NoB w0 w') := by
 refine Calls.walk NoB Tryz.func36 rfl rfl ?_
 intro ac β S
 have hlea : a.length ≤ 4194304 := LRd.le ha
 have hleb : b.length ≤ 4194304 := LRd.le hb
 refine ws (rg ?_)
 refine S.qe 1 [] [] fun ac w β S => ?_
 refine (nt (ws (ws (rg ?_))))
 refine S.qe 5 [] [(10, .v (B ((a.length : Int) != (b.length : Int))))] fun ac w β S => ?_
 refine (nt (S.c ((a.length : Int) != (b.length : Int)) (fun h1 => ?_) (fun h1 => ?_)))
 ·have g2 : ¬ ((a.length : Int) = (b.length : Int)) := bne_iff_ne.1 h1
  refine ws (rg ?_)
  refine S.qe 1 [] [(4, .v (B false))] fun ac w β S => ?_
  exact (nt (wr (rt (S.r [B false] ⟨retB k0_laws_eqIntSS, S.chg⟩))))
 have g3 : (a.length : Int) = (b.length : Int) := ne_f h1
 refine wk (nt (ws (ws (rg ?_))))
 refine S.qe 1 [] [(5, .v (I 0))] fun ac w β S => ?_
 refine (nt (wp_block ?_))
 refine wp_loop_down (fun mm ac w => ∃ (k : Nat)  (u : _) (N : _) (β : _), mm = a.length - k ∧ (k ≤ a.length) ∧ (a.length = b.length) ∧ (a.take k = b.take k) ∧ St Tryz.prog Tryz.f36.ntmps w0 NoB u N β ⟨[(0, .v (slv a.length pa.1)), (1, .v (slv b.length pb.1)), (5, .v (I (k : Int)))], []⟩ ac w) _ ⟨0, _, _, _, rfl, o0, o0, (by simp), S.z⟩ ?_
 clear S
 rintro mm ac w ⟨k, u, N, β, rfl, hk, hab, he, S⟩
 refine ws (ws (rg ?_))
 refine S.qe 4 [] [(14, .v (B (decide ((k : Int) < (a.length : Int)))))] fun ac w β S => ?_
 refine (nt (S.c (decide ((k : Int) < (a.length : Int))) (fun h4 => ?_) (fun h4 => ?_)))
 ·have g5 := of_decide_eq_true h4
  refine wk (nt (ws (wp_block (ws ?_))))
  refine S.drawn (keep := [0, 1, 5, 26]) (m := 0) (σ' := ⟨[(0, .v (slv a.length pa.1)), (1, .v (slv b.length pb.1)), (5, .v (I (k : Int))), (26, .v (B (!(decide ((el a k) = (el b k))))))], []⟩) (.cons (qn (S.arg ha) k Tryz.underlying22) (.cons (qx (S.arg ha) 50 k) (.cons (qn (S.arg hb) k Tryz.underlying22) (.cons (qx (S.arg hb) 50 k) (.cons (Q_call fun w hw => c_laws_eqIntS w (el a k) (pa.2 k) (rd_of (LRd.el (S.arg ha) k (by omega)) hw) (el b k) (pb.2 k) (rd_of (LRd.el (S.arg hb) k (by omega)) hw)) .nil))))) rfl (by kernel_rfl) (by kernel_rfl) fun ac w S => ?_
  refine id (nt (S.c (!(decide ((el a k) = (el b k)))) (fun h6 => ?_) (fun h6 => ?_)))
  ·have h7 := not_t h6
   have g8 := of_decide_eq_false h7
   refine ws (rg ?_)
   refine S.qe 1 [] [(4, .v (B false))] fun ac w β S => ?_
   exact (nt (wr (rb (rt (rt (rb (rt (S.r [B false] ⟨retB k0_laws_eqIntSS, S.chg⟩))))))))
  have h9 := not_f h6
  have g10 := of_decide_eq_true h9
  refine wk (nb (nt (rg ?_)))
  refine S.qg 3 [] [(5, .v (I ((k : Int) + 1)))] (.cons (qp (k : Int) 1) .nil) fun ac w β S => ?_
  refine (nt ?_)
  refine ⟨a.length - (k + 1), by omega, k + 1, _, _, _, rfl, ?_, ?_, ?_, S.z⟩
  ·exact oz
  ·exact oz
  ·clear S; exact take_eq_step (by omega) (by omega) he (by simp_all)
 have g11 := of_decide_eq_false h4
 refine wp_exit (ex_then (ex_then (ex_hit (nt (ws (rg ?_))))))
 refine S.qe 1 [] [(4, .v (B true))] fun ac w β S => ?_
 exact (nt (wr (S.r [B true] ⟨retB k0_laws_eqIntSS, S.chg⟩)))

theorem k0_laws_eqSlot {p : Prop} (h : p := by clear S; first | (simp [TSlot.ext_iff, *]; done) | (simp_all [TSlot.ext_iff]; done)) : p := h
theorem c_laws_eqSlot (w0 : World) (a : TSlot) (b : TSlot) : Calls Tryz.prog 154 [GT.val a (), GT.val b ()].toArray w0 (fun e w' => e = .returned (B (decide (a = b))) ∧ Chg NoB w0 w') := by
 refine Calls.walk NoB Tryz.func154 rfl rfl ?_
 intro ac β S
 refine ws (rg ?_)
 refine S.qem 3 [] [(2, .p 0 0), (3, .p 1 0)] 2 [(0, GT.cells a ()), (1, GT.cells b ())] fun ac w β S => ?_
 refine (nt (ws (ws (rg ?_))))
 refine S.qe 5 [] [(9, .v (B (a.page != b.page)))] fun ac w β S => ?_
 refine (nt (S.c (a.page != b.page) (fun h1 => ?_) (fun h1 => ?_)))
 ·have g2 : ¬ (a.page = b.page) := bne_iff_ne.1 h1
  refine ws (rg ?_)
  refine S.qe 1 [] [(4, .v (B false))] fun ac w β S => ?_
  exact (nt (wr (rt (S.r [B false] ⟨retB k0_laws_eqSlot, S.chg⟩))))
 have g3 : a.page = b.page := ne_f h1
 refine wk (nt (ws (ws (rg ?_))))
 refine S.qem 5 [] [(14, .v (B (a.rights != b.rights)))] 0 [] fun ac w β S => ?_
 refine (nt (S.c (a.rights != b.rights) (fun h4 => ?_) (fun h4 => ?_)))
 ·have g5 : ¬ (a.rights = b.rights) := bne_iff_ne.1 h4
  refine ws (rg ?_)
  refine S.qe 1 [] [(4, .v (B false))] fun ac w β S => ?_
  exact (nt (wr (rt (S.r [B false] ⟨retB k0_laws_eqSlot, S.chg⟩))))
 have g6 : a.rights = b.rights := ne_f h4
 refine wk (nt (ws (rg ?_)))
 refine S.qe 1 [] [(4, .v (B true))] fun ac w β S => ?_
 exact (nt (wr (S.r [B true] ⟨retB k0_laws_eqSlot, S.chg⟩)))

theorem k0_laws_eqSlotS {p : Prop} (h : p := by clear S; first | (simp; intro e; subst e; simp_all; done) | (simp; rw [take_all (by omega), take_all (by omega)] at he; exact he) | (simp; exact take_ne (by simp_all))) : p := h
theorem c_laws_eqSlotS (w0 : World) (a : List TSlot) (pa : LP TSlot) (ha : RD w0 a pa) (b : List TSlot) (pb : LP TSlot) (hb : RD w0 b pb) : Calls Tryz.prog 127 [slv a.length pa.1, slv b.length pb.1].toArray w0 (fun e w' => e = .returned (B (decide (a = b))) ∧ Chg NoB w0 w') := by
 refine Calls.walk NoB Tryz.func127 rfl rfl ?_
 intro ac β S
 have hlea : a.length ≤ 4194304 := LRd.le ha
 have hleb : b.length ≤ 4194304 := LRd.le hb
 refine ws (rg ?_)
 refine S.qe 1 [] [] fun ac w β S => ?_
 refine (nt (ws (ws (rg ?_))))
 refine S.qe 5 [] [(10, .v (B ((a.length : Int) != (b.length : Int))))] fun ac w β S => ?_
 refine (nt (S.c ((a.length : Int) != (b.length : Int)) (fun h1 => ?_) (fun h1 => ?_)))
 ·have g2 : ¬ ((a.length : Int) = (b.length : Int)) := bne_iff_ne.1 h1
  refine ws (rg ?_)
  refine S.qe 1 [] [(4, .v (B false))] fun ac w β S => ?_
  exact (nt (wr (rt (S.r [B false] ⟨retB k0_laws_eqSlotS, S.chg⟩))))
 have g3 : (a.length : Int) = (b.length : Int) := ne_f h1
 refine wk (nt (ws (ws (rg ?_))))
 refine S.qe 1 [] [(5, .v (I 0))] fun ac w β S => ?_
 refine (nt (wp_block ?_))
 refine wp_loop_down (fun mm ac w => ∃ (k : Nat)  (u : _) (N : _) (β : _), mm = a.length - k ∧ (k ≤ a.length) ∧ (a.length = b.length) ∧ (a.take k = b.take k) ∧ St Tryz.prog Tryz.f127.ntmps w0 NoB u N β ⟨[(0, .v (slv a.length pa.1)), (1, .v (slv b.length pb.1)), (5, .v (I (k : Int)))], []⟩ ac w) _ ⟨0, _, _, _, rfl, o0, o0, (by simp), S.z⟩ ?_
 clear S
 rintro mm ac w ⟨k, u, N, β, rfl, hk, hab, he, S⟩
 refine ws (ws (rg ?_))
 refine S.qe 4 [] [(14, .v (B (decide ((k : Int) < (a.length : Int)))))] fun ac w β S => ?_
 refine (nt (S.c (decide ((k : Int) < (a.length : Int))) (fun h4 => ?_) (fun h4 => ?_)))
 ·have g5 := of_decide_eq_true h4
  refine wk (nt (ws (wp_block (ws ?_))))
  refine S.drawn (keep := [0, 1, 5, 26]) (m := 0) (σ' := ⟨[(0, .v (slv a.length pa.1)), (1, .v (slv b.length pb.1)), (5, .v (I (k : Int))), (26, .v (B (!(decide ((el a k) = (el b k))))))], []⟩) (.cons (qn (S.arg ha) k Tryz.underlying47) (.cons (qs (S.arg ha) 55 k) (.cons (qn (S.arg hb) k Tryz.underlying47) (.cons (qs (S.arg hb) 55 k) (.cons (Q_call fun w hw => c_laws_eqSlot w (el a k) (el b k)) .nil))))) rfl (by kernel_rfl) (by kernel_rfl) fun ac w S => ?_
  refine id (nt (S.c (!(decide ((el a k) = (el b k)))) (fun h6 => ?_) (fun h6 => ?_)))
  ·have h7 := not_t h6
   have g8 := of_decide_eq_false h7
   refine ws (rg ?_)
   refine S.qe 1 [] [(4, .v (B false))] fun ac w β S => ?_
   exact (nt (wr (rb (rt (rt (rb (rt (S.r [B false] ⟨retB k0_laws_eqSlotS, S.chg⟩))))))))
  have h9 := not_f h6
  have g10 := of_decide_eq_true h9
  refine wk (nb (nt (rg ?_)))
  refine S.qg 3 [] [(5, .v (I ((k : Int) + 1)))] (.cons (qp (k : Int) 1) .nil) fun ac w β S => ?_
  refine (nt ?_)
  refine ⟨a.length - (k + 1), by omega, k + 1, _, _, _, rfl, ?_, ?_, ?_, S.z⟩
  ·exact oz
  ·exact oz
  ·clear S; exact take_eq_step (by omega) (by omega) he (by simp_all)
 have g11 := of_decide_eq_false h4
 refine wp_exit (ex_then (ex_then (ex_hit (nt (ws (rg ?_))))))
 refine S.qe 1 [] [(4, .v (B true))] fun ac w β S => ?_
 exact (nt (wr (S.r [B true] ⟨retB k0_laws_eqSlotS, S.chg⟩)))

theorem k0_laws_eqBoolS {p : Prop} (h : p := by clear S; first | (simp; intro e; subst e; simp_all; done) | (simp; rw [take_all (by omega), take_all (by omega)] at he; exact he) | (simp; exact take_ne (by simp_all))) : p := h
theorem c_laws_eqBoolS (w0 : World) (a : List Bool) (pa : LP Bool) (ha : RD w0 a pa) (b : List Bool) (pb : LP Bool) (hb : RD w0 b pb) : Calls Tryz.prog 128 [slv a.length pa.1, slv b.length pb.1].toArray w0 (fun e w' => e = .returned (B (decide (a = b))) ∧ Chg NoB w0 w') := by
 refine Calls.walk NoB Tryz.func128 rfl rfl ?_
 intro ac β S
 have hlea : a.length ≤ 4194304 := LRd.le ha
 have hleb : b.length ≤ 4194304 := LRd.le hb
 refine ws (rg ?_)
 refine S.qe 1 [] [] fun ac w β S => ?_
 refine (nt (ws (ws (rg ?_))))
 refine S.qe 5 [] [(10, .v (B ((a.length : Int) != (b.length : Int))))] fun ac w β S => ?_
 refine (nt (S.c ((a.length : Int) != (b.length : Int)) (fun h1 => ?_) (fun h1 => ?_)))
 ·have g2 : ¬ ((a.length : Int) = (b.length : Int)) := bne_iff_ne.1 h1
  refine ws (rg ?_)
  refine S.qe 1 [] [(4, .v (B false))] fun ac w β S => ?_
  exact (nt (wr (rt (S.r [B false] ⟨retB k0_laws_eqBoolS, S.chg⟩))))
 have g3 : (a.length : Int) = (b.length : Int) := ne_f h1
 refine wk (nt (ws (ws (rg ?_))))
 refine S.qe 1 [] [(5, .v (I 0))] fun ac w β S => ?_
 refine (nt (wp_block ?_))
 refine wp_loop_down (fun mm ac w => ∃ (k : Nat)  (u : _) (N : _) (β : _), mm = a.length - k ∧ (k ≤ a.length) ∧ (a.length = b.length) ∧ (a.take k = b.take k) ∧ St Tryz.prog Tryz.f128.ntmps w0 NoB u N β ⟨[(0, .v (slv a.length pa.1)), (1, .v (slv b.length pb.1)), (5, .v (I (k : Int)))], []⟩ ac w) _ ⟨0, _, _, _, rfl, o0, o0, (by simp), S.z⟩ ?_
 clear S
 rintro mm ac w ⟨k, u, N, β, rfl, hk, hab, he, S⟩
 refine ws (ws (rg ?_))
 refine S.qe 4 [] [(14, .v (B (decide ((k : Int) < (a.length : Int)))))] fun ac w β S => ?_
 refine (nt (S.c (decide ((k : Int) < (a.length : Int))) (fun h4 => ?_) (fun h4 => ?_)))
 ·have g5 := of_decide_eq_true h4
  refine wk (nt (ws (wp_block (ws ?_))))
  refine S.drawn (keep := [0, 1, 5, 25]) (m := 0) (σ' := ⟨[(0, .v (slv a.length pa.1)), (1, .v (slv b.length pb.1)), (5, .v (I (k : Int))), (25, .v (B (!((el a k) == (el b k)))))], []⟩) (.cons (qn (S.arg ha) k Tryz.underlying48) (.cons (qx (S.arg ha) 4 k) (.cons (qn (S.arg hb) k Tryz.underlying48) (.cons (qx (S.arg hb) 4 k) .nil)))) rfl (by kernel_rfl) (by kernel_rfl) fun ac w S => ?_
  refine id (nt (S.c (!((el a k) == (el b k))) (fun h6 => ?_) (fun h6 => ?_)))
  ·have h7 := not_t h6
   have g8 : ¬ ((el a k) = (el b k)) := ne_of_beq_false h7
   refine ws (rg ?_)
   refine S.qe 1 [] [(4, .v (B false))] fun ac w β S => ?_
   exact (nt (wr (rb (rt (rt (rb (rt (S.r [B false] ⟨retB k0_laws_eqBoolS, S.chg⟩))))))))
  have h9 := not_f h6
  have g10 : (el a k) = (el b k) := eq_of_beq h9
  refine wk (nb (nt (rg ?_)))
  refine S.qg 3 [] [(5, .v (I ((k : Int) + 1)))] (.cons (qp (k : Int) 1) .nil) fun ac w β S => ?_
  refine (nt ?_)
  refine ⟨a.length - (k + 1), by omega, k + 1, _, _, _, rfl, ?_, ?_, ?_, S.z⟩
  ·exact oz
  ·exact oz
  ·clear S; exact take_eq_step (by omega) (by omega) he (by simp_all)
 have g11 := of_decide_eq_false h4
 refine wp_exit (ex_then (ex_then (ex_hit (nt (ws (rg ?_))))))
 refine S.qe 1 [] [(4, .v (B true))] fun ac w β S => ?_
 exact (nt (wr (S.r [B true] ⟨retB k0_laws_eqBoolS, S.chg⟩)))

theorem k0_laws_eqIns {p : Prop} (h : p := by clear S; first | (simp [TIns.ext_iff, *]; done) | (simp_all [TIns.ext_iff]; done)) : p := h
theorem c_laws_eqIns (w0 : World) (a : TIns) (b : TIns) : Calls Tryz.prog 180 [GT.val a (), GT.val b ()].toArray w0 (fun e w' => e = .returned (B (decide (a = b))) ∧ Chg NoB w0 w') := by
 refine Calls.walk NoB Tryz.func180 rfl rfl ?_
 intro ac β S
 refine ws (rg ?_)
 refine S.qem 3 [] [(2, .p 0 0), (3, .p 1 0)] 2 [(0, GT.cells a ()), (1, GT.cells b ())] fun ac w β S => ?_
 refine (nt (ws (ws (rg ?_))))
 refine S.qe 5 [] [(9, .v (B (a.opc != b.opc)))] fun ac w β S => ?_
 refine (nt (S.c (a.opc != b.opc) (fun h1 => ?_) (fun h1 => ?_)))
 ·have g2 : ¬ (a.opc = b.opc) := bne_iff_ne.1 h1
  refine ws (rg ?_)
  refine S.qe 1 [] [(4, .v (B false))] fun ac w β S => ?_
  exact (nt (wr (rt (S.r [B false] ⟨retB k0_laws_eqIns, S.chg⟩))))
 have g3 : a.opc = b.opc := ne_f h1
 refine wk (nt (ws (ws (rg ?_))))
 refine S.qem 5 [] [(14, .v (B (a.x != b.x)))] 0 [] fun ac w β S => ?_
 refine (nt (S.c (a.x != b.x) (fun h4 => ?_) (fun h4 => ?_)))
 ·have g5 : ¬ (a.x = b.x) := bne_iff_ne.1 h4
  refine ws (rg ?_)
  refine S.qe 1 [] [(4, .v (B false))] fun ac w β S => ?_
  exact (nt (wr (rt (S.r [B false] ⟨retB k0_laws_eqIns, S.chg⟩))))
 have g6 : a.x = b.x := ne_f h4
 refine wk (nt (ws (rg ?_)))
 refine S.qe 1 [] [(4, .v (B true))] fun ac w β S => ?_
 exact (nt (wr (S.r [B true] ⟨retB k0_laws_eqIns, S.chg⟩)))

theorem k0_laws_eqInsS {p : Prop} (h : p := by clear S; first | (simp; intro e; subst e; simp_all; done) | (simp; rw [take_all (by omega), take_all (by omega)] at he; exact he) | (simp; exact take_ne (by simp_all))) : p := h
theorem c_laws_eqInsS (w0 : World) (a : List TIns) (pa : LP TIns) (ha : RD w0 a pa) (b : List TIns) (pb : LP TIns) (hb : RD w0 b pb) : Calls Tryz.prog 172 [slv a.length pa.1, slv b.length pb.1].toArray w0 (fun e w' => e = .returned (B (decide (a = b))) ∧ Chg NoB w0 w') := by
 refine Calls.walk NoB Tryz.func172 rfl rfl ?_
 intro ac β S
 have hlea : a.length ≤ 4194304 := LRd.le ha
 have hleb : b.length ≤ 4194304 := LRd.le hb
 refine ws (rg ?_)
 refine S.qe 1 [] [] fun ac w β S => ?_
 refine (nt (ws (ws (rg ?_))))
 refine S.qe 5 [] [(10, .v (B ((a.length : Int) != (b.length : Int))))] fun ac w β S => ?_
 refine (nt (S.c ((a.length : Int) != (b.length : Int)) (fun h1 => ?_) (fun h1 => ?_)))
 ·have g2 : ¬ ((a.length : Int) = (b.length : Int)) := bne_iff_ne.1 h1
  refine ws (rg ?_)
  refine S.qe 1 [] [(4, .v (B false))] fun ac w β S => ?_
  exact (nt (wr (rt (S.r [B false] ⟨retB k0_laws_eqInsS, S.chg⟩))))
 have g3 : (a.length : Int) = (b.length : Int) := ne_f h1
 refine wk (nt (ws (ws (rg ?_))))
 refine S.qe 1 [] [(5, .v (I 0))] fun ac w β S => ?_
 refine (nt (wp_block ?_))
 refine wp_loop_down (fun mm ac w => ∃ (k : Nat)  (u : _) (N : _) (β : _), mm = a.length - k ∧ (k ≤ a.length) ∧ (a.length = b.length) ∧ (a.take k = b.take k) ∧ St Tryz.prog Tryz.f172.ntmps w0 NoB u N β ⟨[(0, .v (slv a.length pa.1)), (1, .v (slv b.length pb.1)), (5, .v (I (k : Int)))], []⟩ ac w) _ ⟨0, _, _, _, rfl, o0, o0, (by simp), S.z⟩ ?_
 clear S
 rintro mm ac w ⟨k, u, N, β, rfl, hk, hab, he, S⟩
 refine ws (ws (rg ?_))
 refine S.qe 4 [] [(14, .v (B (decide ((k : Int) < (a.length : Int)))))] fun ac w β S => ?_
 refine (nt (S.c (decide ((k : Int) < (a.length : Int))) (fun h4 => ?_) (fun h4 => ?_)))
 ·have g5 := of_decide_eq_true h4
  refine wk (nt (ws (wp_block (ws ?_))))
  refine S.drawn (keep := [0, 1, 5, 26]) (m := 0) (σ' := ⟨[(0, .v (slv a.length pa.1)), (1, .v (slv b.length pb.1)), (5, .v (I (k : Int))), (26, .v (B (!(decide ((el a k) = (el b k))))))], []⟩) (.cons (qn (S.arg ha) k Tryz.underlying93) (.cons (qs (S.arg ha) 173 k) (.cons (qn (S.arg hb) k Tryz.underlying93) (.cons (qs (S.arg hb) 173 k) (.cons (Q_call fun w hw => c_laws_eqIns w (el a k) (el b k)) .nil))))) rfl (by kernel_rfl) (by kernel_rfl) fun ac w S => ?_
  refine id (nt (S.c (!(decide ((el a k) = (el b k)))) (fun h6 => ?_) (fun h6 => ?_)))
  ·have h7 := not_t h6
   have g8 := of_decide_eq_false h7
   refine ws (rg ?_)
   refine S.qe 1 [] [(4, .v (B false))] fun ac w β S => ?_
   exact (nt (wr (rb (rt (rt (rb (rt (S.r [B false] ⟨retB k0_laws_eqInsS, S.chg⟩))))))))
  have h9 := not_f h6
  have g10 := of_decide_eq_true h9
  refine wk (nb (nt (rg ?_)))
  refine S.qg 3 [] [(5, .v (I ((k : Int) + 1)))] (.cons (qp (k : Int) 1) .nil) fun ac w β S => ?_
  refine (nt ?_)
  refine ⟨a.length - (k + 1), by omega, k + 1, _, _, _, rfl, ?_, ?_, ?_, S.z⟩
  ·exact oz
  ·exact oz
  ·clear S; exact take_eq_step (by omega) (by omega) he (by simp_all)
 have g11 := of_decide_eq_false h4
 refine wp_exit (ex_then (ex_then (ex_hit (nt (ws (rg ?_))))))
 refine S.qe 1 [] [(4, .v (B true))] fun ac w β S => ?_
 exact (nt (wr (S.r [B true] ⟨retB k0_laws_eqInsS, S.chg⟩)))

theorem k0_laws_eqCtl {p : Prop} (h : p := by clear S; first | (simp [TCtl.ext_iff, *]; done) | (simp_all [TCtl.ext_iff]; done)) : p := h
theorem c_laws_eqCtl (w0 : World) (a : TCtl) (b : TCtl) : Calls Tryz.prog 173 [GT.val a (), GT.val b ()].toArray w0 (fun e w' => e = .returned (B (decide (a = b))) ∧ Chg NoB w0 w') := by
 refine Calls.walk NoB Tryz.func173 rfl rfl ?_
 intro ac β S
 refine ws (rg ?_)
 refine S.qem 3 [] [(2, .p 0 0), (3, .p 1 0)] 2 [(0, GT.cells a ()), (1, GT.cells b ())] fun ac w β S => ?_
 refine (nt (ws (ws (rg ?_))))
 refine S.qe 5 [] [(9, .v (B (a.traps != b.traps)))] fun ac w β S => ?_
 refine (nt (S.c (a.traps != b.traps) (fun h1 => ?_) (fun h1 => ?_)))
 ·have g2 : ¬ (a.traps = b.traps) := bne_iff_ne.1 h1
  refine ws (rg ?_)
  refine S.qe 1 [] [(4, .v (B false))] fun ac w β S => ?_
  exact (nt (wr (rt (S.r [B false] ⟨retB k0_laws_eqCtl, S.chg⟩))))
 have g3 : a.traps = b.traps := ne_f h1
 refine wk (nt (ws (ws (rg ?_))))
 refine S.qe 5 [] [(14, .v (B (a.post != b.post)))] fun ac w β S => ?_
 refine (nt (S.c (a.post != b.post) (fun h4 => ?_) (fun h4 => ?_)))
 ·have g5 : ¬ (a.post = b.post) := bne_iff_ne.1 h4
  refine ws (rg ?_)
  refine S.qe 1 [] [(4, .v (B false))] fun ac w β S => ?_
  exact (nt (wr (rt (S.r [B false] ⟨retB k0_laws_eqCtl, S.chg⟩))))
 have g6 : a.post = b.post := ne_f h4
 refine wk (nt (ws (ws (rg ?_))))
 refine S.qem 5 [] [(19, .v (B (!(a.opn == b.opn))))] 0 [] fun ac w β S => ?_
 refine (nt (S.c (!(a.opn == b.opn)) (fun h7 => ?_) (fun h7 => ?_)))
 ·have h8 := not_t h7
  have g9 : ¬ (a.opn = b.opn) := ne_of_beq_false h8
  refine ws (rg ?_)
  refine S.qe 1 [] [(4, .v (B false))] fun ac w β S => ?_
  exact (nt (wr (rt (S.r [B false] ⟨retB k0_laws_eqCtl, S.chg⟩))))
 have h10 := not_f h7
 have g11 : a.opn = b.opn := eq_of_beq h10
 refine wk (nt (ws (rg ?_)))
 refine S.qe 1 [] [(4, .v (B true))] fun ac w β S => ?_
 exact (nt (wr (S.r [B true] ⟨retB k0_laws_eqCtl, S.chg⟩)))

theorem k0_laws_eqExit {p : Prop} (h : p := by clear S; first | (simp [TExit.ext_iff, *]; done) | (simp_all [TExit.ext_iff]; done)) : p := h
theorem c_laws_eqExit (w0 : World) (a : TExit) (b : TExit) : Calls Tryz.prog 174 [GT.val a (), GT.val b ()].toArray w0 (fun e w' => e = .returned (B (decide (a = b))) ∧ Chg NoB w0 w') := by
 refine Calls.walk NoB Tryz.func174 rfl rfl ?_
 intro ac β S
 refine ws (rg ?_)
 refine S.qem 3 [] [(2, .p 0 0), (3, .p 1 0)] 2 [(0, GT.cells a ()), (1, GT.cells b ())] fun ac w β S => ?_
 refine (nt (ws (ws (rg ?_))))
 refine S.qe 5 [] [(9, .v (B (a.kind != b.kind)))] fun ac w β S => ?_
 refine (nt (S.c (a.kind != b.kind) (fun h1 => ?_) (fun h1 => ?_)))
 ·have g2 : ¬ (a.kind = b.kind) := bne_iff_ne.1 h1
  refine ws (rg ?_)
  refine S.qe 1 [] [(4, .v (B false))] fun ac w β S => ?_
  exact (nt (wr (rt (S.r [B false] ⟨retB k0_laws_eqExit, S.chg⟩))))
 have g3 : a.kind = b.kind := ne_f h1
 refine wk (nt (ws (ws (rg ?_))))
 refine S.qe 5 [] [(14, .v (B (a.page != b.page)))] fun ac w β S => ?_
 refine (nt (S.c (a.page != b.page) (fun h4 => ?_) (fun h4 => ?_)))
 ·have g5 : ¬ (a.page = b.page) := bne_iff_ne.1 h4
  refine ws (rg ?_)
  refine S.qe 1 [] [(4, .v (B false))] fun ac w β S => ?_
  exact (nt (wr (rt (S.r [B false] ⟨retB k0_laws_eqExit, S.chg⟩))))
 have g6 : a.page = b.page := ne_f h4
 refine wk (nt (ws (ws (rg ?_))))
 refine S.qe 5 [] [(19, .v (B (!(a.wr == b.wr))))] fun ac w β S => ?_
 refine (nt (S.c (!(a.wr == b.wr)) (fun h7 => ?_) (fun h7 => ?_)))
 ·have h8 := not_t h7
  have g9 : ¬ (a.wr = b.wr) := ne_of_beq_false h8
  refine ws (rg ?_)
  refine S.qe 1 [] [(4, .v (B false))] fun ac w β S => ?_
  exact (nt (wr (rt (S.r [B false] ⟨retB k0_laws_eqExit, S.chg⟩))))
 have h10 := not_f h7
 have g11 : a.wr = b.wr := eq_of_beq h10
 refine wk (nt (ws (ws (rg ?_))))
 refine S.qem 5 [] [(24, .v (B (a.n != b.n)))] 0 [] fun ac w β S => ?_
 refine (nt (S.c (a.n != b.n) (fun h12 => ?_) (fun h12 => ?_)))
 ·have g13 : ¬ (a.n = b.n) := bne_iff_ne.1 h12
  refine ws (rg ?_)
  refine S.qe 1 [] [(4, .v (B false))] fun ac w β S => ?_
  exact (nt (wr (rt (S.r [B false] ⟨retB k0_laws_eqExit, S.chg⟩))))
 have g14 : a.n = b.n := ne_f h12
 refine wk (nt (ws (rg ?_)))
 refine S.qe 1 [] [(4, .v (B true))] fun ac w β S => ?_
 exact (nt (wr (S.r [B true] ⟨retB k0_laws_eqExit, S.chg⟩)))

theorem k0_laws_eqGuest {p : Prop} (h : p := by clear S; first | (simp [TGuest.ext_iff, *]; done) | (simp_all [TGuest.ext_iff]; done)) : p := h
theorem c_laws_eqGuest (w0 : World) (a : TGuest) (pa : PGuest) (ha : RD w0 a pa) (b : TGuest) (pb : PGuest) (hb : RD w0 b pb) : Calls Tryz.prog 155 [GT.val a pa, GT.val b pb].toArray w0 (fun e w' => e = .returned (B (decide (a = b))) ∧ Chg NoB w0 w') := by
 refine Calls.walk NoB Tryz.func155 rfl rfl ?_
 intro ac β S
 have hlea_prog : a.prog.length ≤ 4194304 := LRd.le (RGuest.prog (d := a) ha)
 have hlea_written : a.written.length ≤ 4194304 := LRd.le (RGuest.written (d := a) ha)
 have hlea_live : a.live.length ≤ 4194304 := LRd.le (RGuest.live (d := a) ha)
 have hlea_seen : a.seen.length ≤ 4194304 := LRd.le (RGuest.seen (d := a) ha)
 have hleb_prog : b.prog.length ≤ 4194304 := LRd.le (RGuest.prog (d := b) hb)
 have hleb_written : b.written.length ≤ 4194304 := LRd.le (RGuest.written (d := b) hb)
 have hleb_live : b.live.length ≤ 4194304 := LRd.le (RGuest.live (d := b) hb)
 have hleb_seen : b.seen.length ≤ 4194304 := LRd.le (RGuest.seen (d := b) hb)
 refine ws (rg ?_)
 refine S.qem 3 [] [(2, .p 0 0), (3, .p 1 0)] 2 [(0, GT.cells a pa), (1, GT.cells b pb)] fun ac w β S => ?_
 refine (nt (ws (ws (rg ?_))))
 refine S.qg 6 [] [(10, .v (B (!(decide (a.prog = b.prog)))))] (.cons (Q_call fun w hw => c_laws_eqInsS w a.prog pa.prog (rd_of (RGuest.prog (d := a) (S.arg ha)) hw) b.prog pb.prog (rd_of (RGuest.prog (d := b) (S.arg hb)) hw)) .nil) fun ac w β S => ?_
 refine (nt (S.c (!(decide (a.prog = b.prog))) (fun h1 => ?_) (fun h1 => ?_)))
 ·have h2 := not_t h1
  have g3 := of_decide_eq_false h2
  refine ws (rg ?_)
  refine S.qe 1 [] [(4, .v (B false))] fun ac w β S => ?_
  exact (nt (wr (rt (S.r [B false] ⟨retB k0_laws_eqGuest, S.chg⟩))))
 have h4 := not_f h1
 have g5 := of_decide_eq_true h4
 refine wk (nt (ws (ws (rg ?_))))
 refine S.qe 5 [] [(15, .v (B (a.acc != b.acc)))] fun ac w β S => ?_
 refine (nt (S.c (a.acc != b.acc) (fun h6 => ?_) (fun h6 => ?_)))
 ·have g7 : ¬ (a.acc = b.acc) := bne_iff_ne.1 h6
  refine ws (rg ?_)
  refine S.qe 1 [] [(4, .v (B false))] fun ac w β S => ?_
  exact (nt (wr (rt (S.r [B false] ⟨retB k0_laws_eqGuest, S.chg⟩))))
 have g8 : a.acc = b.acc := ne_f h6
 refine wk (nt (ws (ws (rg ?_))))
 refine S.qe 5 [] [(20, .v (B (a.pc != b.pc)))] fun ac w β S => ?_
 refine (nt (S.c (a.pc != b.pc) (fun h9 => ?_) (fun h9 => ?_)))
 ·have g10 : ¬ (a.pc = b.pc) := bne_iff_ne.1 h9
  refine ws (rg ?_)
  refine S.qe 1 [] [(4, .v (B false))] fun ac w β S => ?_
  exact (nt (wr (rt (S.r [B false] ⟨retB k0_laws_eqGuest, S.chg⟩))))
 have g11 : a.pc = b.pc := ne_f h9
 refine wk (nt (ws (ws (rg ?_))))
 refine S.qg 6 [] [(26, .v (B (!(decide (a.written = b.written)))))] (.cons (Q_call fun w hw => c_laws_eqSlotS w a.written pa.written (rd_of (RGuest.written (d := a) (S.arg ha)) hw) b.written pb.written (rd_of (RGuest.written (d := b) (S.arg hb)) hw)) .nil) fun ac w β S => ?_
 refine (nt (S.c (!(decide (a.written = b.written))) (fun h12 => ?_) (fun h12 => ?_)))
 ·have h13 := not_t h12
  have g14 := of_decide_eq_false h13
  refine ws (rg ?_)
  refine S.qe 1 [] [(4, .v (B false))] fun ac w β S => ?_
  exact (nt (wr (rt (S.r [B false] ⟨retB k0_laws_eqGuest, S.chg⟩))))
 have h15 := not_f h12
 have g16 := of_decide_eq_true h15
 refine wk (nt (ws (ws (rg ?_))))
 refine S.qg 6 [] [(32, .v (B (!(decide (a.live = b.live)))))] (.cons (Q_call fun w hw => c_laws_eqSlotS w a.live pa.live (rd_of (RGuest.live (d := a) (S.arg ha)) hw) b.live pb.live (rd_of (RGuest.live (d := b) (S.arg hb)) hw)) .nil) fun ac w β S => ?_
 refine (nt (S.c (!(decide (a.live = b.live))) (fun h17 => ?_) (fun h17 => ?_)))
 ·have h18 := not_t h17
  have g19 := of_decide_eq_false h18
  refine ws (rg ?_)
  refine S.qe 1 [] [(4, .v (B false))] fun ac w β S => ?_
  exact (nt (wr (rt (S.r [B false] ⟨retB k0_laws_eqGuest, S.chg⟩))))
 have h20 := not_f h17
 have g21 := of_decide_eq_true h20
 refine wk (nt (ws (ws (rg ?_))))
 refine S.qg 6 [] [(38, .v (B (!(decide (a.ctl = b.ctl)))))] (.cons (Q_call fun w hw => c_laws_eqCtl w a.ctl b.ctl) .nil) fun ac w β S => ?_
 refine (nt (S.c (!(decide (a.ctl = b.ctl))) (fun h22 => ?_) (fun h22 => ?_)))
 ·have h23 := not_t h22
  have g24 := of_decide_eq_false h23
  refine ws (rg ?_)
  refine S.qe 1 [] [(4, .v (B false))] fun ac w β S => ?_
  exact (nt (wr (rt (S.r [B false] ⟨retB k0_laws_eqGuest, S.chg⟩))))
 have h25 := not_f h22
 have g26 := of_decide_eq_true h25
 refine wk (nt (ws (ws (rg ?_))))
 refine S.qe 5 [] [(43, .v (B (a.pend != b.pend)))] fun ac w β S => ?_
 refine (nt (S.c (a.pend != b.pend) (fun h27 => ?_) (fun h27 => ?_)))
 ·have g28 : ¬ (a.pend = b.pend) := bne_iff_ne.1 h27
  refine ws (rg ?_)
  refine S.qe 1 [] [(4, .v (B false))] fun ac w β S => ?_
  exact (nt (wr (rt (S.r [B false] ⟨retB k0_laws_eqGuest, S.chg⟩))))
 have g29 : a.pend = b.pend := ne_f h27
 refine wk (nt (ws (ws (rg ?_))))
 refine S.qg 6 [] [(49, .v (B (!(decide (a.exit = b.exit)))))] (.cons (Q_call fun w hw => c_laws_eqExit w a.exit b.exit) .nil) fun ac w β S => ?_
 refine (nt (S.c (!(decide (a.exit = b.exit))) (fun h30 => ?_) (fun h30 => ?_)))
 ·have h31 := not_t h30
  have g32 := of_decide_eq_false h31
  refine ws (rg ?_)
  refine S.qe 1 [] [(4, .v (B false))] fun ac w β S => ?_
  exact (nt (wr (rt (S.r [B false] ⟨retB k0_laws_eqGuest, S.chg⟩))))
 have h33 := not_f h30
 have g34 := of_decide_eq_true h33
 refine wk (nt (ws (ws (rg ?_))))
 refine S.qe 5 [] [(54, .v (B (!(a.halted == b.halted))))] fun ac w β S => ?_
 refine (nt (S.c (!(a.halted == b.halted)) (fun h35 => ?_) (fun h35 => ?_)))
 ·have h36 := not_t h35
  have g37 : ¬ (a.halted = b.halted) := ne_of_beq_false h36
  refine ws (rg ?_)
  refine S.qe 1 [0, 1, 2, 3, 10, 15, 20, 26, 32, 38, 43, 49, 54] [(4, .v (B false))] fun ac w β S => ?_
  exact (nt (wr (rt (S.r [B false] ⟨retB k0_laws_eqGuest, S.chg⟩))))
 have h38 := not_f h35
 have g39 : a.halted = b.halted := eq_of_beq h38
 refine wk (nt (ws (ws (rg ?_))))
 refine S.qgm 6 [0, 1, 2, 3, 10, 15, 20, 26, 32, 38, 43, 49, 54] [(60, .v (B (!(decide (a.seen = b.seen)))))] (.cons (Q_call fun w hw => c_laws_eqIntS w a.seen pa.seen (rd_of (RGuest.seen (d := a) (S.arg ha)) hw) b.seen pb.seen (rd_of (RGuest.seen (d := b) (S.arg hb)) hw)) .nil) 0 [] fun ac w β S => ?_
 refine (nt (S.c (!(decide (a.seen = b.seen))) (fun h40 => ?_) (fun h40 => ?_)))
 ·have h41 := not_t h40
  have g42 := of_decide_eq_false h41
  refine ws (rg ?_)
  refine S.qe 1 [] [(4, .v (B false))] fun ac w β S => ?_
  exact (nt (wr (rt (S.r [B false] ⟨retB k0_laws_eqGuest, S.chg⟩))))
 have h43 := not_f h40
 have g44 := of_decide_eq_true h43
 refine wk (nt (ws (rg ?_)))
 refine S.qe 1 [] [(4, .v (B true))] fun ac w β S => ?_
 exact (nt (wr (S.r [B true] ⟨retB k0_laws_eqGuest, S.chg⟩)))

theorem k0_laws_eqGuestS {p : Prop} (h : p := by clear S; first | (simp; intro e; subst e; simp_all; done) | (simp; rw [take_all (by omega), take_all (by omega)] at he; exact he) | (simp; exact take_ne (by simp_all))) : p := h
theorem c_laws_eqGuestS (w0 : World) (a : List TGuest) (pa : LP TGuest) (ha : RD w0 a pa) (b : List TGuest) (pb : LP TGuest) (hb : RD w0 b pb) : Calls Tryz.prog 129 [slv a.length pa.1, slv b.length pb.1].toArray w0 (fun e w' => e = .returned (B (decide (a = b))) ∧ Chg NoB w0 w') := by
 refine Calls.walk NoB Tryz.func129 rfl rfl ?_
 intro ac β S
 have hlea : a.length ≤ 4194304 := LRd.le ha
 have hleb : b.length ≤ 4194304 := LRd.le hb
 refine ws (rg ?_)
 refine S.qe 1 [] [] fun ac w β S => ?_
 refine (nt (ws (ws (rg ?_))))
 refine S.qe 5 [] [(10, .v (B ((a.length : Int) != (b.length : Int))))] fun ac w β S => ?_
 refine (nt (S.c ((a.length : Int) != (b.length : Int)) (fun h1 => ?_) (fun h1 => ?_)))
 ·have g2 : ¬ ((a.length : Int) = (b.length : Int)) := bne_iff_ne.1 h1
  refine ws (rg ?_)
  refine S.qe 1 [] [(4, .v (B false))] fun ac w β S => ?_
  exact (nt (wr (rt (S.r [B false] ⟨retB k0_laws_eqGuestS, S.chg⟩))))
 have g3 : (a.length : Int) = (b.length : Int) := ne_f h1
 refine wk (nt (ws (ws (rg ?_))))
 refine S.qe 1 [] [(5, .v (I 0))] fun ac w β S => ?_
 refine (nt (wp_block ?_))
 refine wp_loop_down (fun mm ac w => ∃ (k : Nat)  (u : _) (N : _) (β : _), mm = a.length - k ∧ (k ≤ a.length) ∧ (a.length = b.length) ∧ (a.take k = b.take k) ∧ St Tryz.prog Tryz.f129.ntmps w0 NoB u N β ⟨[(0, .v (slv a.length pa.1)), (1, .v (slv b.length pb.1)), (5, .v (I (k : Int)))], []⟩ ac w) _ ⟨0, _, _, _, rfl, o0, o0, (by simp), S.z⟩ ?_
 clear S
 rintro mm ac w ⟨k, u, N, β, rfl, hk, hab, he, S⟩
 refine ws (ws (rg ?_))
 refine S.qe 4 [] [(14, .v (B (decide ((k : Int) < (a.length : Int)))))] fun ac w β S => ?_
 refine (nt (S.c (decide ((k : Int) < (a.length : Int))) (fun h4 => ?_) (fun h4 => ?_)))
 ·have g5 := of_decide_eq_true h4
  refine wk (nt (ws (wp_block (ws ?_))))
  refine S.drawn (keep := [0, 1, 5, 26]) (m := 0) (σ' := ⟨[(0, .v (slv a.length pa.1)), (1, .v (slv b.length pb.1)), (5, .v (I (k : Int))), (26, .v (B (!(decide ((el a k) = (el b k))))))], []⟩) (.cons (qn (S.arg ha) k Tryz.underlying49) (.cons (qs (S.arg ha) 99 k) (.cons (qn (S.arg hb) k Tryz.underlying49) (.cons (qs (S.arg hb) 99 k) (.cons (Q_call fun w hw => c_laws_eqGuest w (el a k) (pa.2 k) (rd_of (LRd.el (S.arg ha) k (by omega)) hw) (el b k) (pb.2 k) (rd_of (LRd.el (S.arg hb) k (by omega)) hw)) .nil))))) rfl (by kernel_rfl) (by kernel_rfl) fun ac w S => ?_
  refine id (nt (S.c (!(decide ((el a k) = (el b k)))) (fun h6 => ?_) (fun h6 => ?_)))
  ·have h7 := not_t h6
   have g8 := of_decide_eq_false h7
   refine ws (rg ?_)
   refine S.qe 1 [] [(4, .v (B false))] fun ac w β S => ?_
   exact (nt (wr (rb (rt (rt (rb (rt (S.r [B false] ⟨retB k0_laws_eqGuestS, S.chg⟩))))))))
  have h9 := not_f h6
  have g10 := of_decide_eq_true h9
  refine wk (nb (nt (rg ?_)))
  refine S.qg 3 [] [(5, .v (I ((k : Int) + 1)))] (.cons (qp (k : Int) 1) .nil) fun ac w β S => ?_
  refine (nt ?_)
  refine ⟨a.length - (k + 1), by omega, k + 1, _, _, _, rfl, ?_, ?_, ?_, S.z⟩
  ·exact oz
  ·exact oz
  ·clear S; exact take_eq_step (by omega) (by omega) he (by simp_all)
 have g11 := of_decide_eq_false h4
 refine wp_exit (ex_then (ex_then (ex_hit (nt (ws (rg ?_))))))
 refine S.qe 1 [] [(4, .v (B true))] fun ac w β S => ?_
 exact (nt (wr (S.r [B true] ⟨retB k0_laws_eqGuestS, S.chg⟩)))

theorem k0_laws_eqKept {p : Prop} (h : p := by clear S; first | (simp [TKept.ext_iff, *]; done) | (simp_all [TKept.ext_iff]; done)) : p := h
theorem c_laws_eqKept (w0 : World) (a : TKept) (pa : PKept) (ha : RD w0 a pa) (b : TKept) (pb : PKept) (hb : RD w0 b pb) : Calls Tryz.prog 156 [GT.val a pa, GT.val b pb].toArray w0 (fun e w' => e = .returned (B (decide (a = b))) ∧ Chg NoB w0 w') := by
 refine Calls.walk NoB Tryz.func156 rfl rfl ?_
 intro ac β S
 have hlea_known : a.known.length ≤ 4194304 := LRd.le (RKept.known (d := a) ha)
 have hlea_slots : a.slots.length ≤ 4194304 := LRd.le (RKept.slots (d := a) ha)
 have hleb_known : b.known.length ≤ 4194304 := LRd.le (RKept.known (d := b) hb)
 have hleb_slots : b.slots.length ≤ 4194304 := LRd.le (RKept.slots (d := b) hb)
 refine ws (rg ?_)
 refine S.qem 3 [] [(2, .p 0 0), (3, .p 1 0)] 2 [(0, GT.cells a pa), (1, GT.cells b pb)] fun ac w β S => ?_
 refine (nt (ws (ws (rg ?_))))
 refine S.qg 6 [] [(10, .v (B (!(decide (a.known = b.known)))))] (.cons (Q_call fun w hw => c_laws_eqBoolS w a.known pa.known (rd_of (RKept.known (d := a) (S.arg ha)) hw) b.known pb.known (rd_of (RKept.known (d := b) (S.arg hb)) hw)) .nil) fun ac w β S => ?_
 refine (nt (S.c (!(decide (a.known = b.known))) (fun h1 => ?_) (fun h1 => ?_)))
 ·have h2 := not_t h1
  have g3 := of_decide_eq_false h2
  refine ws (rg ?_)
  refine S.qe 1 [] [(4, .v (B false))] fun ac w β S => ?_
  exact (nt (wr (rt (S.r [B false] ⟨retB k0_laws_eqKept, S.chg⟩))))
 have h4 := not_f h1
 have g5 := of_decide_eq_true h4
 refine wk (nt (ws (ws (rg ?_))))
 refine S.qgm 6 [] [(16, .v (B (!(decide (a.slots = b.slots)))))] (.cons (Q_call fun w hw => c_laws_eqSlotS w a.slots pa.slots (rd_of (RKept.slots (d := a) (S.arg ha)) hw) b.slots pb.slots (rd_of (RKept.slots (d := b) (S.arg hb)) hw)) .nil) 0 [] fun ac w β S => ?_
 refine (nt (S.c (!(decide (a.slots = b.slots))) (fun h6 => ?_) (fun h6 => ?_)))
 ·have h7 := not_t h6
  have g8 := of_decide_eq_false h7
  refine ws (rg ?_)
  refine S.qe 1 [] [(4, .v (B false))] fun ac w β S => ?_
  exact (nt (wr (rt (S.r [B false] ⟨retB k0_laws_eqKept, S.chg⟩))))
 have h9 := not_f h6
 have g10 := of_decide_eq_true h9
 refine wk (nt (ws (rg ?_)))
 refine S.qe 1 [] [(4, .v (B true))] fun ac w β S => ?_
 exact (nt (wr (S.r [B true] ⟨retB k0_laws_eqKept, S.chg⟩)))

theorem k0_laws_eqKeptS {p : Prop} (h : p := by clear S; first | (simp; intro e; subst e; simp_all; done) | (simp; rw [take_all (by omega), take_all (by omega)] at he; exact he) | (simp; exact take_ne (by simp_all))) : p := h
theorem c_laws_eqKeptS (w0 : World) (a : List TKept) (pa : LP TKept) (ha : RD w0 a pa) (b : List TKept) (pb : LP TKept) (hb : RD w0 b pb) : Calls Tryz.prog 130 [slv a.length pa.1, slv b.length pb.1].toArray w0 (fun e w' => e = .returned (B (decide (a = b))) ∧ Chg NoB w0 w') := by
 refine Calls.walk NoB Tryz.func130 rfl rfl ?_
 intro ac β S
 have hlea : a.length ≤ 4194304 := LRd.le ha
 have hleb : b.length ≤ 4194304 := LRd.le hb
 refine ws (rg ?_)
 refine S.qe 1 [] [] fun ac w β S => ?_
 refine (nt (ws (ws (rg ?_))))
 refine S.qe 5 [] [(10, .v (B ((a.length : Int) != (b.length : Int))))] fun ac w β S => ?_
 refine (nt (S.c ((a.length : Int) != (b.length : Int)) (fun h1 => ?_) (fun h1 => ?_)))
 ·have g2 : ¬ ((a.length : Int) = (b.length : Int)) := bne_iff_ne.1 h1
  refine ws (rg ?_)
  refine S.qe 1 [] [(4, .v (B false))] fun ac w β S => ?_
  exact (nt (wr (rt (S.r [B false] ⟨retB k0_laws_eqKeptS, S.chg⟩))))
 have g3 : (a.length : Int) = (b.length : Int) := ne_f h1
 refine wk (nt (ws (ws (rg ?_))))
 refine S.qe 1 [] [(5, .v (I 0))] fun ac w β S => ?_
 refine (nt (wp_block ?_))
 refine wp_loop_down (fun mm ac w => ∃ (k : Nat)  (u : _) (N : _) (β : _), mm = a.length - k ∧ (k ≤ a.length) ∧ (a.length = b.length) ∧ (a.take k = b.take k) ∧ St Tryz.prog Tryz.f130.ntmps w0 NoB u N β ⟨[(0, .v (slv a.length pa.1)), (1, .v (slv b.length pb.1)), (5, .v (I (k : Int)))], []⟩ ac w) _ ⟨0, _, _, _, rfl, o0, o0, (by simp), S.z⟩ ?_
 clear S
 rintro mm ac w ⟨k, u, N, β, rfl, hk, hab, he, S⟩
 refine ws (ws (rg ?_))
 refine S.qe 4 [] [(14, .v (B (decide ((k : Int) < (a.length : Int)))))] fun ac w β S => ?_
 refine (nt (S.c (decide ((k : Int) < (a.length : Int))) (fun h4 => ?_) (fun h4 => ?_)))
 ·have g5 := of_decide_eq_true h4
  refine wk (nt (ws (wp_block (ws ?_))))
  refine S.drawn (keep := [0, 1, 5, 26]) (m := 0) (σ' := ⟨[(0, .v (slv a.length pa.1)), (1, .v (slv b.length pb.1)), (5, .v (I (k : Int))), (26, .v (B (!(decide ((el a k) = (el b k))))))], []⟩) (.cons (qn (S.arg ha) k Tryz.underlying51) (.cons (qs (S.arg ha) 91 k) (.cons (qn (S.arg hb) k Tryz.underlying51) (.cons (qs (S.arg hb) 91 k) (.cons (Q_call fun w hw => c_laws_eqKept w (el a k) (pa.2 k) (rd_of (LRd.el (S.arg ha) k (by omega)) hw) (el b k) (pb.2 k) (rd_of (LRd.el (S.arg hb) k (by omega)) hw)) .nil))))) rfl (by kernel_rfl) (by kernel_rfl) fun ac w S => ?_
  refine id (nt (S.c (!(decide ((el a k) = (el b k)))) (fun h6 => ?_) (fun h6 => ?_)))
  ·have h7 := not_t h6
   have g8 := of_decide_eq_false h7
   refine ws (rg ?_)
   refine S.qe 1 [] [(4, .v (B false))] fun ac w β S => ?_
   exact (nt (wr (rb (rt (rt (rb (rt (S.r [B false] ⟨retB k0_laws_eqKeptS, S.chg⟩))))))))
  have h9 := not_f h6
  have g10 := of_decide_eq_true h9
  refine wk (nb (nt (rg ?_)))
  refine S.qg 3 [] [(5, .v (I ((k : Int) + 1)))] (.cons (qp (k : Int) 1) .nil) fun ac w β S => ?_
  refine (nt ?_)
  refine ⟨a.length - (k + 1), by omega, k + 1, _, _, _, rfl, ?_, ?_, ?_, S.z⟩
  ·exact oz
  ·exact oz
  ·clear S; exact take_eq_step (by omega) (by omega) he (by simp_all)
 have g11 := of_decide_eq_false h4
 refine wp_exit (ex_then (ex_then (ex_hit (nt (ws (rg ?_))))))
 refine S.qe 1 [] [(4, .v (B true))] fun ac w β S => ?_
 exact (nt (wr (S.r [B true] ⟨retB k0_laws_eqKeptS, S.chg⟩)))

theorem k0_laws_eqMon {p : Prop} (h : p := by clear S; first | (simp [TMon.ext_iff, *]; done) | (simp_all [TMon.ext_iff]; done)) : p := h
theorem c_laws_eqMon (w0 : World) (a : TMon) (pa : PMon) (ha : RD w0 a pa) (b : TMon) (pb : PMon) (hb : RD w0 b pb) : Calls Tryz.prog 75 [GT.val a pa, GT.val b pb].toArray w0 (fun e w' => e = .returned (B (decide (a = b))) ∧ Chg NoB w0 w') := by
 refine Calls.walk NoB Tryz.func75 rfl rfl ?_
 intro ac β S
 have hlea_outer : a.outer.length ≤ 4194304 := LRd.le (RMon.outer (d := a) ha)
 have hlea_out : a.out.length ≤ 4194304 := LRd.le (RMon.out (d := a) ha)
 have hlea_dirty : a.dirty.length ≤ 4194304 := LRd.le (RMon.dirty (d := a) ha)
 have hlea_guests : a.guests.length ≤ 4194304 := LRd.le (RMon.guests (d := a) ha)
 have hlea_outs : a.outs.length ≤ 4194304 := LRd.le (RMon.outs (d := a) ha)
 have hlea_tables : a.tables.length ≤ 4194304 := LRd.le (RMon.tables (d := a) ha)
 have hleb_outer : b.outer.length ≤ 4194304 := LRd.le (RMon.outer (d := b) hb)
 have hleb_out : b.out.length ≤ 4194304 := LRd.le (RMon.out (d := b) hb)
 have hleb_dirty : b.dirty.length ≤ 4194304 := LRd.le (RMon.dirty (d := b) hb)
 have hleb_guests : b.guests.length ≤ 4194304 := LRd.le (RMon.guests (d := b) hb)
 have hleb_outs : b.outs.length ≤ 4194304 := LRd.le (RMon.outs (d := b) hb)
 have hleb_tables : b.tables.length ≤ 4194304 := LRd.le (RMon.tables (d := b) hb)
 refine ws (rg ?_)
 refine S.qem 3 [] [(2, .p 0 0), (3, .p 1 0)] 2 [(0, GT.cells a pa), (1, GT.cells b pb)] fun ac w β S => ?_
 refine (nt (ws (ws (rg ?_))))
 refine S.qg 6 [] [(10, .v (B (!(decide (a.outer = b.outer)))))] (.cons (Q_call fun w hw => c_laws_eqSlotS w a.outer pa.outer (rd_of (RMon.outer (d := a) (S.arg ha)) hw) b.outer pb.outer (rd_of (RMon.outer (d := b) (S.arg hb)) hw)) .nil) fun ac w β S => ?_
 refine (nt (S.c (!(decide (a.outer = b.outer))) (fun h1 => ?_) (fun h1 => ?_)))
 ·have h2 := not_t h1
  have g3 := of_decide_eq_false h2
  refine ws (rg ?_)
  refine S.qe 1 [] [(4, .v (B false))] fun ac w β S => ?_
  exact (nt (wr (rt (S.r [B false] ⟨retB k0_laws_eqMon, S.chg⟩))))
 have h4 := not_f h1
 have g5 := of_decide_eq_true h4
 refine wk (nt (ws (ws (rg ?_))))
 refine S.qg 6 [] [(16, .v (B (!(decide (a.out = b.out)))))] (.cons (Q_call fun w hw => c_laws_eqIntSS w a.out pa.out (rd_of (RMon.out (d := a) (S.arg ha)) hw) b.out pb.out (rd_of (RMon.out (d := b) (S.arg hb)) hw)) .nil) fun ac w β S => ?_
 refine (nt (S.c (!(decide (a.out = b.out))) (fun h6 => ?_) (fun h6 => ?_)))
 ·have h7 := not_t h6
  have g8 := of_decide_eq_false h7
  refine ws (rg ?_)
  refine S.qe 1 [] [(4, .v (B false))] fun ac w β S => ?_
  exact (nt (wr (rt (S.r [B false] ⟨retB k0_laws_eqMon, S.chg⟩))))
 have h9 := not_f h6
 have g10 := of_decide_eq_true h9
 refine wk (nt (ws (ws (rg ?_))))
 refine S.qg 6 [] [(22, .v (B (!(decide (a.dirty = b.dirty)))))] (.cons (Q_call fun w hw => c_laws_eqBoolS w a.dirty pa.dirty (rd_of (RMon.dirty (d := a) (S.arg ha)) hw) b.dirty pb.dirty (rd_of (RMon.dirty (d := b) (S.arg hb)) hw)) .nil) fun ac w β S => ?_
 refine (nt (S.c (!(decide (a.dirty = b.dirty))) (fun h11 => ?_) (fun h11 => ?_)))
 ·have h12 := not_t h11
  have g13 := of_decide_eq_false h12
  refine ws (rg ?_)
  refine S.qe 1 [] [(4, .v (B false))] fun ac w β S => ?_
  exact (nt (wr (rt (S.r [B false] ⟨retB k0_laws_eqMon, S.chg⟩))))
 have h14 := not_f h11
 have g15 := of_decide_eq_true h14
 refine wk (nt (ws (ws (rg ?_))))
 refine S.qg 6 [] [(28, .v (B (!(decide (a.guests = b.guests)))))] (.cons (Q_call fun w hw => c_laws_eqGuestS w a.guests pa.guests (rd_of (RMon.guests (d := a) (S.arg ha)) hw) b.guests pb.guests (rd_of (RMon.guests (d := b) (S.arg hb)) hw)) .nil) fun ac w β S => ?_
 refine (nt (S.c (!(decide (a.guests = b.guests))) (fun h16 => ?_) (fun h16 => ?_)))
 ·have h17 := not_t h16
  have g18 := of_decide_eq_false h17
  refine ws (rg ?_)
  refine S.qe 1 [] [(4, .v (B false))] fun ac w β S => ?_
  exact (nt (wr (rt (S.r [B false] ⟨retB k0_laws_eqMon, S.chg⟩))))
 have h19 := not_f h16
 have g20 := of_decide_eq_true h19
 refine wk (nt (ws (ws (rg ?_))))
 refine S.qg 6 [] [(34, .v (B (!(decide (a.outs = b.outs)))))] (.cons (Q_call fun w hw => c_laws_eqIntS w a.outs pa.outs (rd_of (RMon.outs (d := a) (S.arg ha)) hw) b.outs pb.outs (rd_of (RMon.outs (d := b) (S.arg hb)) hw)) .nil) fun ac w β S => ?_
 refine (nt (S.c (!(decide (a.outs = b.outs))) (fun h21 => ?_) (fun h21 => ?_)))
 ·have h22 := not_t h21
  have g23 := of_decide_eq_false h22
  refine ws (rg ?_)
  refine S.qe 1 [] [(4, .v (B false))] fun ac w β S => ?_
  exact (nt (wr (rt (S.r [B false] ⟨retB k0_laws_eqMon, S.chg⟩))))
 have h24 := not_f h21
 have g25 := of_decide_eq_true h24
 refine wk (nt (ws (ws (rg ?_))))
 refine S.qe 5 [] [(39, .v (B (a.pend != b.pend)))] fun ac w β S => ?_
 refine (nt (S.c (a.pend != b.pend) (fun h26 => ?_) (fun h26 => ?_)))
 ·have g27 : ¬ (a.pend = b.pend) := bne_iff_ne.1 h26
  refine ws (rg ?_)
  refine S.qe 1 [] [(4, .v (B false))] fun ac w β S => ?_
  exact (nt (wr (rt (S.r [B false] ⟨retB k0_laws_eqMon, S.chg⟩))))
 have g28 : a.pend = b.pend := ne_f h26
 refine wk (nt (ws (ws (rg ?_))))
 refine S.qe 5 [] [(44, .v (B (a.traps != b.traps)))] fun ac w β S => ?_
 refine (nt (S.c (a.traps != b.traps) (fun h29 => ?_) (fun h29 => ?_)))
 ·have g30 : ¬ (a.traps = b.traps) := bne_iff_ne.1 h29
  refine ws (rg ?_)
  refine S.qe 1 [] [(4, .v (B false))] fun ac w β S => ?_
  exact (nt (wr (rt (S.r [B false] ⟨retB k0_laws_eqMon, S.chg⟩))))
 have g31 : a.traps = b.traps := ne_f h29
 refine wk (nt (ws (ws (rg ?_))))
 refine S.qg 6 [] [(50, .v (B (!(decide (a.tables = b.tables)))))] (.cons (Q_call fun w hw => c_laws_eqKeptS w a.tables pa.tables (rd_of (RMon.tables (d := a) (S.arg ha)) hw) b.tables pb.tables (rd_of (RMon.tables (d := b) (S.arg hb)) hw)) .nil) fun ac w β S => ?_
 refine (nt (S.c (!(decide (a.tables = b.tables))) (fun h32 => ?_) (fun h32 => ?_)))
 ·have h33 := not_t h32
  have g34 := of_decide_eq_false h33
  refine ws (rg ?_)
  refine S.qe 1 [] [(4, .v (B false))] fun ac w β S => ?_
  exact (nt (wr (rt (S.r [B false] ⟨retB k0_laws_eqMon, S.chg⟩))))
 have h35 := not_f h32
 have g36 := of_decide_eq_true h35
 refine wk (nt (ws (ws (rg ?_))))
 refine S.qem 5 [] [(55, .v (B (a.owned != b.owned)))] 0 [] fun ac w β S => ?_
 refine (nt (S.c (a.owned != b.owned) (fun h37 => ?_) (fun h37 => ?_)))
 ·have g38 : ¬ (a.owned = b.owned) := bne_iff_ne.1 h37
  refine ws (rg ?_)
  refine S.qe 1 [] [(4, .v (B false))] fun ac w β S => ?_
  exact (nt (wr (rt (S.r [B false] ⟨retB k0_laws_eqMon, S.chg⟩))))
 have g39 : a.owned = b.owned := ne_f h37
 refine wk (nt (ws (rg ?_)))
 refine S.qe 1 [] [(4, .v (B true))] fun ac w β S => ?_
 exact (nt (wr (S.r [B true] ⟨retB k0_laws_eqMon, S.chg⟩)))

theorem k0_laws_eqMonS {p : Prop} (h : p := by clear S; first | (simp; intro e; subst e; simp_all; done) | (simp; rw [take_all (by omega), take_all (by omega)] at he; exact he) | (simp; exact take_ne (by simp_all))) : p := h
theorem c_laws_eqMonS (w0 : World) (a : List TMon) (pa : LP TMon) (ha : RD w0 a pa) (b : List TMon) (pb : LP TMon) (hb : RD w0 b pb) : Calls Tryz.prog 37 [slv a.length pa.1, slv b.length pb.1].toArray w0 (fun e w' => e = .returned (B (decide (a = b))) ∧ Chg NoB w0 w') := by
 refine Calls.walk NoB Tryz.func37 rfl rfl ?_
 intro ac β S
 have hlea : a.length ≤ 4194304 := LRd.le ha
 have hleb : b.length ≤ 4194304 := LRd.le hb
 refine ws (rg ?_)
 refine S.qe 1 [] [] fun ac w β S => ?_
 refine (nt (ws (ws (rg ?_))))
 refine S.qe 5 [] [(10, .v (B ((a.length : Int) != (b.length : Int))))] fun ac w β S => ?_
 refine (nt (S.c ((a.length : Int) != (b.length : Int)) (fun h1 => ?_) (fun h1 => ?_)))
 ·have g2 : ¬ ((a.length : Int) = (b.length : Int)) := bne_iff_ne.1 h1
  refine ws (rg ?_)
  refine S.qe 1 [] [(4, .v (B false))] fun ac w β S => ?_
  exact (nt (wr (rt (S.r [B false] ⟨retB k0_laws_eqMonS, S.chg⟩))))
 have g3 : (a.length : Int) = (b.length : Int) := ne_f h1
 refine wk (nt (ws (ws (rg ?_))))
 refine S.qe 1 [] [(5, .v (I 0))] fun ac w β S => ?_
 refine (nt (wp_block ?_))
 refine wp_loop_down (fun mm ac w => ∃ (k : Nat)  (u : _) (N : _) (β : _), mm = a.length - k ∧ (k ≤ a.length) ∧ (a.length = b.length) ∧ (a.take k = b.take k) ∧ St Tryz.prog Tryz.f37.ntmps w0 NoB u N β ⟨[(0, .v (slv a.length pa.1)), (1, .v (slv b.length pb.1)), (5, .v (I (k : Int)))], []⟩ ac w) _ ⟨0, _, _, _, rfl, o0, o0, (by simp), S.z⟩ ?_
 clear S
 rintro mm ac w ⟨k, u, N, β, rfl, hk, hab, he, S⟩
 refine ws (ws (rg ?_))
 refine S.qe 4 [] [(14, .v (B (decide ((k : Int) < (a.length : Int)))))] fun ac w β S => ?_
 refine (nt (S.c (decide ((k : Int) < (a.length : Int))) (fun h4 => ?_) (fun h4 => ?_)))
 ·have g5 := of_decide_eq_true h4
  refine wk (nt (ws (wp_block (ws ?_))))
  refine S.drawn (keep := [0, 1, 5, 26]) (m := 0) (σ' := ⟨[(0, .v (slv a.length pa.1)), (1, .v (slv b.length pb.1)), (5, .v (I (k : Int))), (26, .v (B (!(decide ((el a k) = (el b k))))))], []⟩) (.cons (qn (S.arg ha) k Tryz.underlying28) (.cons (qs (S.arg ha) 53 k) (.cons (qn (S.arg hb) k Tryz.underlying28) (.cons (qs (S.arg hb) 53 k) (.cons (Q_call fun w hw => c_laws_eqMon w (el a k) (pa.2 k) (rd_of (LRd.el (S.arg ha) k (by omega)) hw) (el b k) (pb.2 k) (rd_of (LRd.el (S.arg hb) k (by omega)) hw)) .nil))))) rfl (by kernel_rfl) (by kernel_rfl) fun ac w S => ?_
  refine id (nt (S.c (!(decide ((el a k) = (el b k)))) (fun h6 => ?_) (fun h6 => ?_)))
  ·have h7 := not_t h6
   have g8 := of_decide_eq_false h7
   refine ws (rg ?_)
   refine S.qe 1 [] [(4, .v (B false))] fun ac w β S => ?_
   exact (nt (wr (rb (rt (rt (rb (rt (S.r [B false] ⟨retB k0_laws_eqMonS, S.chg⟩))))))))
  have h9 := not_f h6
  have g10 := of_decide_eq_true h9
  refine wk (nb (nt (rg ?_)))
  refine S.qg 3 [] [(5, .v (I ((k : Int) + 1)))] (.cons (qp (k : Int) 1) .nil) fun ac w β S => ?_
  refine (nt ?_)
  refine ⟨a.length - (k + 1), by omega, k + 1, _, _, _, rfl, ?_, ?_, ?_, S.z⟩
  ·exact oz
  ·exact oz
  ·clear S; exact take_eq_step (by omega) (by omega) he (by simp_all)
 have g11 := of_decide_eq_false h4
 refine wp_exit (ex_then (ex_then (ex_hit (nt (ws (rg ?_))))))
 refine S.qe 1 [] [(4, .v (B true))] fun ac w β S => ?_
 exact (nt (wr (S.r [B true] ⟨retB k0_laws_eqMonS, S.chg⟩)))

theorem k0_laws_eqEntry {p : Prop} (h : p := by clear S; first | (simp [TEntry.ext_iff, *]; done) | (simp_all [TEntry.ext_iff]; done)) : p := h
theorem c_laws_eqEntry (w0 : World) (a : TEntry) (b : TEntry) : Calls Tryz.prog 76 [GT.val a (), GT.val b ()].toArray w0 (fun e w' => e = .returned (B (decide (a = b))) ∧ Chg NoB w0 w') := by
 refine Calls.walk NoB Tryz.func76 rfl rfl ?_
 intro ac β S
 refine ws (rg ?_)
 refine S.qem 3 [] [(2, .p 0 0), (3, .p 1 0)] 2 [(0, GT.cells a ()), (1, GT.cells b ())] fun ac w β S => ?_
 refine (nt (ws (ws (rg ?_))))
 refine S.qe 5 [] [(9, .v (B (a.tag != b.tag)))] fun ac w β S => ?_
 refine (nt (S.c (a.tag != b.tag) (fun h1 => ?_) (fun h1 => ?_)))
 ·have g2 : ¬ (a.tag = b.tag) := bne_iff_ne.1 h1
  refine ws (rg ?_)
  refine S.qe 1 [] [(4, .v (B false))] fun ac w β S => ?_
  exact (nt (wr (rt (S.r [B false] ⟨retB k0_laws_eqEntry, S.chg⟩))))
 have g3 : a.tag = b.tag := ne_f h1
 refine wk (nt (ws (ws (rg ?_))))
 refine S.qe 5 [] [(14, .v (B (a.page != b.page)))] fun ac w β S => ?_
 refine (nt (S.c (a.page != b.page) (fun h4 => ?_) (fun h4 => ?_)))
 ·have g5 : ¬ (a.page = b.page) := bne_iff_ne.1 h4
  refine ws (rg ?_)
  refine S.qe 1 [] [(4, .v (B false))] fun ac w β S => ?_
  exact (nt (wr (rt (S.r [B false] ⟨retB k0_laws_eqEntry, S.chg⟩))))
 have g6 : a.page = b.page := ne_f h4
 refine wk (nt (ws (ws (rg ?_))))
 refine S.qe 5 [] [(19, .v (B (a.host != b.host)))] fun ac w β S => ?_
 refine (nt (S.c (a.host != b.host) (fun h7 => ?_) (fun h7 => ?_)))
 ·have g8 : ¬ (a.host = b.host) := bne_iff_ne.1 h7
  refine ws (rg ?_)
  refine S.qe 1 [] [(4, .v (B false))] fun ac w β S => ?_
  exact (nt (wr (rt (S.r [B false] ⟨retB k0_laws_eqEntry, S.chg⟩))))
 have g9 : a.host = b.host := ne_f h7
 refine wk (nt (ws (ws (rg ?_))))
 refine S.qem 5 [] [(24, .v (B (a.rights != b.rights)))] 0 [] fun ac w β S => ?_
 refine (nt (S.c (a.rights != b.rights) (fun h10 => ?_) (fun h10 => ?_)))
 ·have g11 : ¬ (a.rights = b.rights) := bne_iff_ne.1 h10
  refine ws (rg ?_)
  refine S.qe 1 [] [(4, .v (B false))] fun ac w β S => ?_
  exact (nt (wr (rt (S.r [B false] ⟨retB k0_laws_eqEntry, S.chg⟩))))
 have g12 : a.rights = b.rights := ne_f h10
 refine wk (nt (ws (rg ?_)))
 refine S.qe 1 [] [(4, .v (B true))] fun ac w β S => ?_
 exact (nt (wr (S.r [B true] ⟨retB k0_laws_eqEntry, S.chg⟩)))

theorem k0_laws_eqEntryS {p : Prop} (h : p := by clear S; first | (simp; intro e; subst e; simp_all; done) | (simp; rw [take_all (by omega), take_all (by omega)] at he; exact he) | (simp; exact take_ne (by simp_all))) : p := h
theorem c_laws_eqEntryS (w0 : World) (a : List TEntry) (pa : LP TEntry) (ha : RD w0 a pa) (b : List TEntry) (pb : LP TEntry) (hb : RD w0 b pb) : Calls Tryz.prog 38 [slv a.length pa.1, slv b.length pb.1].toArray w0 (fun e w' => e = .returned (B (decide (a = b))) ∧ Chg NoB w0 w') := by
 refine Calls.walk NoB Tryz.func38 rfl rfl ?_
 intro ac β S
 have hlea : a.length ≤ 4194304 := LRd.le ha
 have hleb : b.length ≤ 4194304 := LRd.le hb
 refine ws (rg ?_)
 refine S.qe 1 [] [] fun ac w β S => ?_
 refine (nt (ws (ws (rg ?_))))
 refine S.qe 5 [] [(10, .v (B ((a.length : Int) != (b.length : Int))))] fun ac w β S => ?_
 refine (nt (S.c ((a.length : Int) != (b.length : Int)) (fun h1 => ?_) (fun h1 => ?_)))
 ·have g2 : ¬ ((a.length : Int) = (b.length : Int)) := bne_iff_ne.1 h1
  refine ws (rg ?_)
  refine S.qe 1 [] [(4, .v (B false))] fun ac w β S => ?_
  exact (nt (wr (rt (S.r [B false] ⟨retB k0_laws_eqEntryS, S.chg⟩))))
 have g3 : (a.length : Int) = (b.length : Int) := ne_f h1
 refine wk (nt (ws (ws (rg ?_))))
 refine S.qe 1 [] [(5, .v (I 0))] fun ac w β S => ?_
 refine (nt (wp_block ?_))
 refine wp_loop_down (fun mm ac w => ∃ (k : Nat)  (u : _) (N : _) (β : _), mm = a.length - k ∧ (k ≤ a.length) ∧ (a.length = b.length) ∧ (a.take k = b.take k) ∧ St Tryz.prog Tryz.f38.ntmps w0 NoB u N β ⟨[(0, .v (slv a.length pa.1)), (1, .v (slv b.length pb.1)), (5, .v (I (k : Int)))], []⟩ ac w) _ ⟨0, _, _, _, rfl, o0, o0, (by simp), S.z⟩ ?_
 clear S
 rintro mm ac w ⟨k, u, N, β, rfl, hk, hab, he, S⟩
 refine ws (ws (rg ?_))
 refine S.qe 4 [] [(14, .v (B (decide ((k : Int) < (a.length : Int)))))] fun ac w β S => ?_
 refine (nt (S.c (decide ((k : Int) < (a.length : Int))) (fun h4 => ?_) (fun h4 => ?_)))
 ·have g5 := of_decide_eq_true h4
  refine wk (nt (ws (wp_block (ws ?_))))
  refine S.drawn (keep := [0, 1, 5, 26]) (m := 0) (σ' := ⟨[(0, .v (slv a.length pa.1)), (1, .v (slv b.length pb.1)), (5, .v (I (k : Int))), (26, .v (B (!(decide ((el a k) = (el b k))))))], []⟩) (.cons (qn (S.arg ha) k Tryz.underlying29) (.cons (qs (S.arg ha) 104 k) (.cons (qn (S.arg hb) k Tryz.underlying29) (.cons (qs (S.arg hb) 104 k) (.cons (Q_call fun w hw => c_laws_eqEntry w (el a k) (el b k)) .nil))))) rfl (by kernel_rfl) (by kernel_rfl) fun ac w S => ?_
  refine id (nt (S.c (!(decide ((el a k) = (el b k)))) (fun h6 => ?_) (fun h6 => ?_)))
  ·have h7 := not_t h6
   have g8 := of_decide_eq_false h7
   refine ws (rg ?_)
   refine S.qe 1 [] [(4, .v (B false))] fun ac w β S => ?_
   exact (nt (wr (rb (rt (rt (rb (rt (S.r [B false] ⟨retB k0_laws_eqEntryS, S.chg⟩))))))))
  have h9 := not_f h6
  have g10 := of_decide_eq_true h9
  refine wk (nb (nt (rg ?_)))
  refine S.qg 3 [] [(5, .v (I ((k : Int) + 1)))] (.cons (qp (k : Int) 1) .nil) fun ac w β S => ?_
  refine (nt ?_)
  refine ⟨a.length - (k + 1), by omega, k + 1, _, _, _, rfl, ?_, ?_, ?_, S.z⟩
  ·exact oz
  ·exact oz
  ·clear S; exact take_eq_step (by omega) (by omega) he (by simp_all)
 have g11 := of_decide_eq_false h4
 refine wp_exit (ex_then (ex_then (ex_hit (nt (ws (rg ?_))))))
 refine S.qe 1 [] [(4, .v (B true))] fun ac w β S => ?_
 exact (nt (wr (S.r [B true] ⟨retB k0_laws_eqEntryS, S.chg⟩)))

theorem k0_laws_eqHost {p : Prop} (h : p := by clear S; first | (simp [THost.ext_iff, *]; done) | (simp_all [THost.ext_iff]; done)) : p := h
theorem c_laws_eqHost (w0 : World) (a : THost) (pa : PHost) (ha : RD w0 a pa) (b : THost) (pb : PHost) (hb : RD w0 b pb) : Calls Tryz.prog 12 [GT.val a pa, GT.val b pb].toArray w0 (fun e w' => e = .returned (B (decide (a = b))) ∧ Chg NoB w0 w') := by
 refine Calls.walk NoB Tryz.func12 rfl rfl ?_
 intro ac β S
 have hlea_mem : a.mem.length ≤ 4194304 := LRd.le (RHost.mem (d := a) ha)
 have hlea_mons : a.mons.length ≤ 4194304 := LRd.le (RHost.mons (d := a) ha)
 have hlea_buf : a.buf.length ≤ 4194304 := LRd.le (RHost.buf (d := a) ha)
 have hlea_iobuf : a.iobuf.length ≤ 4194304 := LRd.le (RHost.iobuf (d := a) ha)
 have hleb_mem : b.mem.length ≤ 4194304 := LRd.le (RHost.mem (d := b) hb)
 have hleb_mons : b.mons.length ≤ 4194304 := LRd.le (RHost.mons (d := b) hb)
 have hleb_buf : b.buf.length ≤ 4194304 := LRd.le (RHost.buf (d := b) hb)
 have hleb_iobuf : b.iobuf.length ≤ 4194304 := LRd.le (RHost.iobuf (d := b) hb)
 refine ws (rg ?_)
 refine S.qem 3 [] [(2, .p 0 0), (3, .p 1 0)] 2 [(0, GT.cells a pa), (1, GT.cells b pb)] fun ac w β S => ?_
 refine (nt (ws (ws (rg ?_))))
 refine S.qg 6 [] [(10, .v (B (!(decide (a.mem = b.mem)))))] (.cons (Q_call fun w hw => c_laws_eqIntSS w a.mem pa.mem (rd_of (RHost.mem (d := a) (S.arg ha)) hw) b.mem pb.mem (rd_of (RHost.mem (d := b) (S.arg hb)) hw)) .nil) fun ac w β S => ?_
 refine (nt (S.c (!(decide (a.mem = b.mem))) (fun h1 => ?_) (fun h1 => ?_)))
 ·have h2 := not_t h1
  have g3 := of_decide_eq_false h2
  refine ws (rg ?_)
  refine S.qe 1 [] [(4, .v (B false))] fun ac w β S => ?_
  exact (nt (wr (rt (S.r [B false] ⟨retB k0_laws_eqHost, S.chg⟩))))
 have h4 := not_f h1
 have g5 := of_decide_eq_true h4
 refine wk (nt (ws (ws (rg ?_))))
 refine S.qg 6 [] [(16, .v (B (!(decide (a.mons = b.mons)))))] (.cons (Q_call fun w hw => c_laws_eqMonS w a.mons pa.mons (rd_of (RHost.mons (d := a) (S.arg ha)) hw) b.mons pb.mons (rd_of (RHost.mons (d := b) (S.arg hb)) hw)) .nil) fun ac w β S => ?_
 refine (nt (S.c (!(decide (a.mons = b.mons))) (fun h6 => ?_) (fun h6 => ?_)))
 ·have h7 := not_t h6
  have g8 := of_decide_eq_false h7
  refine ws (rg ?_)
  refine S.qe 1 [] [(4, .v (B false))] fun ac w β S => ?_
  exact (nt (wr (rt (S.r [B false] ⟨retB k0_laws_eqHost, S.chg⟩))))
 have h9 := not_f h6
 have g10 := of_decide_eq_true h9
 refine wk (nt (ws (ws (rg ?_))))
 refine S.qg 6 [] [(22, .v (B (!(decide (a.buf = b.buf)))))] (.cons (Q_call fun w hw => c_laws_eqEntryS w a.buf pa.buf (rd_of (RHost.buf (d := a) (S.arg ha)) hw) b.buf pb.buf (rd_of (RHost.buf (d := b) (S.arg hb)) hw)) .nil) fun ac w β S => ?_
 refine (nt (S.c (!(decide (a.buf = b.buf))) (fun h11 => ?_) (fun h11 => ?_)))
 ·have h12 := not_t h11
  have g13 := of_decide_eq_false h12
  refine ws (rg ?_)
  refine S.qe 1 [] [(4, .v (B false))] fun ac w β S => ?_
  exact (nt (wr (rt (S.r [B false] ⟨retB k0_laws_eqHost, S.chg⟩))))
 have h14 := not_f h11
 have g15 := of_decide_eq_true h14
 refine wk (nt (ws (ws (rg ?_))))
 refine S.qgm 6 [] [(28, .v (B (!(decide (a.iobuf = b.iobuf)))))] (.cons (Q_call fun w hw => c_laws_eqEntryS w a.iobuf pa.iobuf (rd_of (RHost.iobuf (d := a) (S.arg ha)) hw) b.iobuf pb.iobuf (rd_of (RHost.iobuf (d := b) (S.arg hb)) hw)) .nil) 0 [] fun ac w β S => ?_
 refine (nt (S.c (!(decide (a.iobuf = b.iobuf))) (fun h16 => ?_) (fun h16 => ?_)))
 ·have h17 := not_t h16
  have g18 := of_decide_eq_false h17
  refine ws (rg ?_)
  refine S.qe 1 [] [(4, .v (B false))] fun ac w β S => ?_
  exact (nt (wr (rt (S.r [B false] ⟨retB k0_laws_eqHost, S.chg⟩))))
 have h19 := not_f h16
 have g20 := of_decide_eq_true h19
 refine wk (nt (ws (rg ?_)))
 refine S.qe 1 [] [(4, .v (B true))] fun ac w β S => ?_
 exact (nt (wr (S.r [B true] ⟨retB k0_laws_eqHost, S.chg⟩)))

theorem c_laws_markIntS (w0 : World) (a : List Int) (pa : LP Int) (F : Bl) (ha : GT.own KK F w0 a pa) (hF : ∀ b, F b → b < w0.heap.size) (k : Int) (pre0 : 0 ≤ k) (pre1 : k + 16 * (SZ.sz a : Int) ≤ 4611686018427387904) : Calls Tryz.prog 77 [slv a.length pa.1, I k].toArray w0 (RetX hdl F w0 pa a k) := by
 refine Calls.walk F Tryz.func77 rfl rfl ?_
 intro ac β S
 have oa : Ow w0 F w0 (Lt w0.heap.size) F a pa := ⟨ha, hF, fun b hb => .inr hb⟩
 have hz := szl_Int a
 have hlea : a.length ≤ 4194304 := LOwn.le ha
 refine ws (rg ?_)
 refine S.qe 1 [] [] fun ac w β S => ?_
 refine (nt (ws (ws (rg ?_))))
 refine S.qe 1 [] [(5, .v (I 0))] fun ac w β S => ?_
 refine (nt (wp_block ?_))
 refine wp_loop_down (fun mm ac w => ∃ (i : Nat) (acc : List Int) (j : Int) (q1 : _) (F2 : _) (u : _) (N : _) (β : _), mm = a.length - i ∧ (i ≤ a.length) ∧ (acc = f_marksInt i k ++ a.drop i) ∧ (j = k + 1 * (i : Int)) ∧ St Tryz.prog Tryz.f77.ntmps w0 F u N β ⟨[(0, .v (slv a.length q1.1)), (1, .v (I j)), (5, .v (I (i : Int)))], []⟩ ac w ∧ Ow w0 F u N F2 acc q1 ∧ q1.1 = pa.1 ∧ (∀ b, F2 b → F b)) _ ⟨0, a, k, pa, F, _, _, _, rfl, o0, (by simp [f_marksInt]), (by simp), S.z, oa, rfl, (fun _ h => h)⟩ ?_
 clear S oa
 rintro mm ac w ⟨i, acc, j, q1, F2, u, N, β, rfl, hi, hacc, hj, S, o3, hq, hs⟩
 have hlacc : acc.length = a.length := by rw [hacc]; simp [f_marksInt]; omega
 refine ws (ws (rg ?_))
 refine S.qe 4 [] [(9, .v (B (decide ((i : Int) < (a.length : Int)))))] fun ac w β S => ?_
 refine (nt (S.c (decide ((i : Int) < (a.length : Int))) (fun h4 => ?_) (fun h4 => ?_)))
 ·have g5 := of_decide_eq_true h4
  refine wk (nt (ws (wp_block (ws (rg ?_)))))
  refine S.qb 4 [] [(14, .v (I j)), (15, .v (pt q1.1.b (q1.1.off + i * 1)))] (.cons (Q_idx o3.rn (l := a.length) (k := i) (i := (i : Int)) (by rw [hacc]; simp [f_marksInt]; omega) rfl (by omega) Tryz.underlying50 (by kernel_rfl)) .nil) fun ac w β S => ?_
  refine RG.op rfl (S.sF (α := Int) o3 (t := 3) (k := i) (j := 0) (off := q1.1.off + i * 1) (v := I j) (y := j) (q := ()) (fun _ _ _ => ⟨NoB, ⟨by omega, by omega⟩, fun _ h => False.elim h⟩) fun w N F7 q8 S up o6 d9 s10 n11 => ?_)
  have s12 : ∀ b, F7 b → F b := fun b h => (s10 b h).elim (hs b) (fun h => False.elim h)
  clear up d9 o3 n11
  have l13 : (acc.set i j).length = acc.length := List.length_set
  refine rd (nt (rg ?_))
  refine S.qg 3 [] [(1, .v (I (j + 1)))] (.cons (qp j 1) .nil) fun ac w β S => ?_
  refine (nb (nt (rg ?_)))
  refine S.qg 3 [] [(5, .v (I ((i : Int) + 1)))] (.cons (qp (i : Int) 1) .nil) fun ac w β S => ?_
  refine (nt ?_)
  refine ⟨a.length - (i + 1), by omega, i + 1, (acc.set i j), (j + 1), (q1.1, q8), F7, _, _, _, rfl, ?_, ?_, ?_, S.z, o6, hq, s12⟩
  ·exact oz
  ·clear S; (have hlt : i < acc.length := (by omega)); rw [hacc, ← marksInt_step (by omega) hj]; (first | rfl | (simp [g_markInt, Int.add_assoc]; done))
  ·clear S; omega
 have g14 := of_decide_eq_false h4
 refine wp_exit (ex_then (ex_then (ex_hit (nt (ws (rg ?_))))))
 refine S.qe 2 [] [(4, .v (I j))] fun ac w β S => ?_
 refine (nt (wr (S.r [I j] ?_)))
 have hyd : hdl acc k = j := by clear S; (have e : i = a.length := (by omega)); subst e; rw [hacc, List.drop_length, List.append_nil, hj]; exact hd_marksInt k (by omega) _ (by omega) id
 have hyb : k ≤ j ∧ j ≤ k + 16 * ((SZ.sz a : Nat) : Int) := by clear S; skip; constructor <;> omega
 exact retX_of S hyd hyb.1 hyb.2 (by show [slv _ _] = [slv _ _]; rw [hlacc, hq]) o3 hs

theorem c_laws_markIntSS (w0 : World) (a : List (List Int)) (pa : LP (List Int)) (F : Bl) (ha : GT.own KK F w0 a pa) (hF : ∀ b, F b → b < w0.heap.size) (k : Int) (pre0 : 0 ≤ k) (pre1 : k + 16 * (SZ.sz a : Int) ≤ 4611686018427387904) : Calls Tryz.prog 39 [slv a.length pa.1, I k].toArray w0 (RetX hdl F w0 pa a k) := by
 refine Calls.walk F Tryz.func39 rfl rfl ?_
 intro ac β S
 have oa : Ow w0 F w0 (Lt w0.heap.size) F a pa := ⟨ha, hF, fun b hb => .inr hb⟩
 have hz := sz_list a
 have hlea : a.length ≤ 4194304 := LOwn.le ha
 refine ws (rg ?_)
 refine S.qe 1 [] [] fun ac w β S => ?_
 refine (nt (ws (ws (rg ?_))))
 refine S.qe 1 [] [(5, .v (I 0))] fun ac w β S => ?_
 refine (nt (wp_block ?_))
 refine wp_loop_down (fun mm ac w => ∃ (i : Nat) (acc : List (List Int)) (j : Int) (q1 : _) (F2 : _) (u : _) (N : _) (β : _), mm = a.length - i ∧ (i ≤ a.length) ∧ (acc.length = a.length) ∧ (∀ f, hdlc (acc.take i) k f = f j) ∧ (acc.drop i = a.drop i) ∧ (k ≤ j) ∧ (j ≤ k + 16 * ((i : Int) + (szsum (a.take i) : Nat))) ∧ St Tryz.prog Tryz.f39.ntmps w0 F u N β ⟨[(0, .v (slv a.length q1.1)), (1, .v (I j)), (5, .v (I (i : Int)))], []⟩ ac w ∧ Ow w0 F u N F2 acc q1 ∧ q1.1 = pa.1 ∧ (∀ b, F2 b → F b)) _ ⟨0, a, k, pa, F, _, _, _, rfl, o0, (by rfl), (by intro f; rfl), (by rfl), o0, (by simp [szsum_nil]), S.z, oa, rfl, (fun _ h => h)⟩ ?_
 clear S oa
 rintro mm ac w ⟨i, acc, j, q1, F2, u, N, β, rfl, hi, hl, hM, hD, hj0, hj1, S, o3, hq, hs⟩
 have hel := el_of_drop hD
 have hsl := szsum_take_le a i
 refine ws (ws (rg ?_))
 refine S.qe 4 [] [(9, .v (B (decide ((i : Int) < (a.length : Int)))))] fun ac w β S => ?_
 refine (nt (S.c (decide ((i : Int) < (a.length : Int))) (fun h4 => ?_) (fun h4 => ?_)))
 ·have g5 := of_decide_eq_true h4
  refine wk (nt (ws (wp_block (rg ?_))))
  refine S.qb 5 [] [(15, .v (slv (el acc i).length (q1.2 i).1)), (16, .v (I j))] (.cons (Q_idx o3.rn (l := a.length) (k := i) (i := (i : Int)) (by omega) rfl (by omega) Tryz.underlying22 (by kernel_rfl)) (.cons (qx o3.rn 50 i) .nil)) fun ac w β S => ?_
  obtain ⟨F6, o7, s8, b9⟩ := foc_id o3 (k := i) (show i < acc.length by omega)
  have z10 := szsum_take (xs := a) (k := i) (by omega)
  have z11 := szsum_take_le a (i + 1)
  have e12 : (el acc i) = el a i := by simp only [hel]
  refine RG.op rfl (S.callX (hd := hdl) (d := 17) o7 (c_laws_markIntS w (el acc i) (q1.2 i) F6 (S.ownw o7) (fun b hb => (S.sep b (o7.sub b hb)).1) j (by omega) (by rw [e12]; omega)) (by kernel_rfl) rfl fun ac w N q13 y14 k15 S up o16 c17 x18 b19 b20 => ?_)
  rw [e12] at b20
  obtain ⟨p21, o22⟩ := b9 _ _ _ _ up o16 c17
  clear up o3 o7 s8 b9 o16 c17
  obtain ⟨a23, e24⟩ : ∃ z, z = acc.set i y14 := ⟨_, rfl⟩
  rw [← e24] at o22
  have l25 : a23.length = acc.length := by rw [e24]; exact List.length_set
  have e26 : el a23 i = y14 := by rw [e24]; exact el_set_self (show i < acc.length by omega)
  have t27 : a23.take i = acc.take i := by rw [e24]; exact take_set_self
  have d28 : a23.drop (i + 1) = acc.drop (i + 1) := by rw [e24]; exact drop_set_self
  clear e24
  refine S.qe 1 [] [(1, .v (I k15))] fun ac w β S => ?_
  refine (nb (nt (rg ?_)))
  refine S.qg 3 [] [(5, .v (I ((i : Int) + 1)))] (.cons (qp (i : Int) 1) .nil) fun ac w β S => ?_
  refine (nt ?_)
  refine ⟨a.length - (i + 1), by omega, i + 1, a23, k15, (q1.1, p21), F2, _, _, _, rfl, ?_, ?_, ?_, ?_, ?_, ?_, S.z, o22, hq, hs⟩
  ·exact oz
  ·clear S; omega
  ·clear S; refine mk_step (acc := a23) (by omega) (by intro f; rw [t27]; exact hM f) ?_; intro f; simp (disch := first | omega | rfl) only [he_list, he_list, e26, x18, hdc_pos, hdi_eq, hdb_eq]
  ·clear S; rw [d28]; exact drop_more hD
  ·clear S; omega
  ·clear S; omega
 have g29 := of_decide_eq_false h4
 refine wp_exit (ex_then (ex_then (ex_hit (nt (ws (rg ?_))))))
 refine S.qe 2 [] [(4, .v (I j))] fun ac w β S => ?_
 refine (nt (wr (S.r [I j] ?_)))
 have hyd : hdl acc k = j := by clear S; exact mk_end (by omega) hM
 have hyb : k ≤ j ∧ j ≤ k + 16 * ((SZ.sz a : Nat) : Int) := by clear S; have hs2 := szsum_take_le a i; constructor <;> omega
 exact retX_of S hyd hyb.1 hyb.2 (by show [slv _ _] = [slv _ _]; rw [hl, hq]) o3 hs

theorem c_laws_markSlotS (w0 : World) (a : List TSlot) (pa : LP TSlot) (F : Bl) (ha : GT.own KK F w0 a pa) (hF : ∀ b, F b → b < w0.heap.size) (k : Int) (pre0 : 0 ≤ k) (pre1 : k + 16 * (SZ.sz a : Int) ≤ 4611686018427387904) : Calls Tryz.prog 78 [slv a.length pa.1, I k].toArray w0 (RetX hdl F w0 pa a k) := by
 refine Calls.walk F Tryz.func78 rfl rfl ?_
 intro ac β S
 have oa : Ow w0 F w0 (Lt w0.heap.size) F a pa := ⟨ha, hF, fun b hb => .inr hb⟩
 have hz := szl_TSlot a
 have hlea : a.length ≤ 4194304 := LOwn.le ha
 refine ws (rg ?_)
 refine S.qe 1 [] [] fun ac w β S => ?_
 refine (nt (ws (ws (rg ?_))))
 refine S.qe 1 [] [(5, .v (I 0))] fun ac w β S => ?_
 refine (nt (wp_block ?_))
 refine wp_loop_down (fun mm ac w => ∃ (i : Nat) (acc : List TSlot) (j : Int) (q1 : _) (F2 : _) (u : _) (N : _) (β : _), mm = a.length - i ∧ (i ≤ a.length) ∧ (acc = f_marksSlot i k ++ a.drop i) ∧ (j = k + 2 * (i : Int)) ∧ St Tryz.prog Tryz.f78.ntmps w0 F u N β ⟨[(0, .v (slv a.length q1.1)), (1, .v (I j)), (5, .v (I (i : Int)))], []⟩ ac w ∧ Ow w0 F u N F2 acc q1 ∧ q1.1 = pa.1 ∧ (∀ b, F2 b → F b)) _ ⟨0, a, k, pa, F, _, _, _, rfl, o0, (by simp [f_marksSlot]), (by simp), S.z, oa, rfl, (fun _ h => h)⟩ ?_
 clear S oa
 rintro mm ac w ⟨i, acc, j, q1, F2, u, N, β, rfl, hi, hacc, hj, S, o3, hq, hs⟩
 have hlacc : acc.length = a.length := by rw [hacc]; simp [f_marksSlot]; omega
 refine ws (ws (rg ?_))
 refine S.qe 4 [] [(9, .v (B (decide ((i : Int) < (a.length : Int)))))] fun ac w β S => ?_
 refine (nt (S.c (decide ((i : Int) < (a.length : Int))) (fun h4 => ?_) (fun h4 => ?_)))
 ·have g5 := of_decide_eq_true h4
  refine wk (nt (ws (wp_block (ws (rg ?_)))))
  refine S.qb 5 [] [(14, .v (I j)), (16, .v (pt q1.1.b (q1.1.off + i * 2)))] (.cons (Q_idx o3.rn (l := a.length) (k := i) (i := (i : Int)) (by rw [hacc]; simp [f_marksSlot]; omega) rfl (by omega) Tryz.underlying47 (by kernel_rfl)) .nil) fun ac w β S => ?_
  have e6 : RSlot (el acc i) := (LRd.el o3.rn i (by omega))
  refine RG.op rfl (S.sF (α := TSlot) o3 (t := 3) (k := i) (j := 0) (off := q1.1.off + i * 2) (v := I j) (y := (⟨j, (el acc i).rights⟩ : TSlot)) (q := ()) (fun _ _ _ => ⟨NoB, (show RSlot (⟨j, (el acc i).rights⟩ : TSlot) from ⟨(show In64 j from ⟨by omega, by omega⟩), (RSlot.rights (d := (el acc i)) e6)⟩), fun _ h => False.elim h⟩) fun w N F8 q9 S up o7 d10 s11 n12 => ?_)
  have s13 : ∀ b, F8 b → F b := fun b h => (s11 b h).elim (hs b) (fun h => False.elim h)
  clear up d10 o3 n12
  have l14 : (acc.set i (⟨j, (el acc i).rights⟩ : TSlot)).length = acc.length := List.length_set
  refine rd (nt (ws (rg ?_)))
  refine S.qg 3 [] [(1, .v (I (j + 1)))] (.cons (qp j 1) .nil) fun ac w β S => ?_
  refine (nt (ws (rg ?_)))
  refine S.qb 5 [] [(21, .v (I (j + 1))), (23, .v (pt q1.1.b (q1.1.off + i * 2 + 1)))] (.cons (Q_idx o7.rn (l := a.length) (k := i) (i := (i : Int)) (by rw [List.length_set]; exact (by rw [hacc]; simp [f_marksSlot]; omega)) rfl (by omega) Tryz.underlying47 (by kernel_rfl)) .nil) fun ac w β S => ?_
  refine RG.op rfl (S.setEl (α := TSlot) o7 (t := 3) (v := I (j + 1)) (k := i) (j := 1) (off := q1.1.off + i * 2 + 1) (y := (⟨j, (j + 1)⟩ : TSlot)) (q := ()) (Fy := NoB) (by kernel_rfl) (by kernel_rfl) (by omega) (by kernel_rfl) (by kernel_rfl) (Nat.le_of_ble_eq_true (by kernel_rfl)) (by rw [el_set_self (show i < acc.length by omega)]; kernel_rfl) (fun _ _ _ => ⟨NoB, (show RSlot (⟨j, (j + 1)⟩ : TSlot) from ⟨(show In64 j from ⟨by omega, by omega⟩), (show In64 (j + 1) from ⟨by omega, by omega⟩)⟩), fun _ h => False.elim h⟩) (fun b _ h => False.elim h) (fun b h => False.elim h) (fun b h => False.elim h) fun w N F16 q17 S up o15 d18 s19 n20 => ?_)
  have s21 : ∀ b, F16 b → F b := fun b h => (s19 b h).elim (s13 b) (fun h => False.elim h)
  clear up d18 o7 n20
  rw [List.set_set] at o15
  have l22 : (acc.set i (⟨j, (j + 1)⟩ : TSlot)).length = acc.length := List.length_set
  refine rd (nt (rg ?_))
  refine S.qg 3 [] [(1, .v (I ((j + 1) + 1)))] (.cons (qp (j + 1) 1) .nil) fun ac w β S => ?_
  refine (nb (nt (rg ?_)))
  refine S.qg 3 [] [(5, .v (I ((i : Int) + 1)))] (.cons (qp (i : Int) 1) .nil) fun ac w β S => ?_
  refine (nt ?_)
  refine ⟨a.length - (i + 1), by omega, i + 1, (acc.set i (⟨j, (j + 1)⟩ : TSlot)), ((j + 1) + 1), (q1.1, q17), F16, _, _, _, rfl, ?_, ?_, ?_, S.z, o15, hq, s21⟩
  ·exact oz
  ·clear S; (have hlt : i < acc.length := (by omega)); rw [hacc, ← marksSlot_step (by omega) hj]; (first | rfl | (simp [g_markSlot, Int.add_assoc]; done))
  ·clear S; omega
 have g23 := of_decide_eq_false h4
 refine wp_exit (ex_then (ex_then (ex_hit (nt (ws (rg ?_))))))
 refine S.qe 2 [] [(4, .v (I j))] fun ac w β S => ?_
 refine (nt (wr (S.r [I j] ?_)))
 have hyd : hdl acc k = j := by clear S; (have e : i = a.length := (by omega)); subst e; rw [hacc, List.drop_length, List.append_nil, hj]; exact hd_marksSlot k (by omega) _ (by omega) id
 have hyb : k ≤ j ∧ j ≤ k + 16 * ((SZ.sz a : Nat) : Int) := by clear S; skip; constructor <;> omega
 exact retX_of S hyd hyb.1 hyb.2 (by show [slv _ _] = [slv _ _]; rw [hlacc, hq]) o3 hs

theorem c_laws_markBoolS (w0 : World) (a : List Bool) (pa : LP Bool) (F : Bl) (ha : GT.own KK F w0 a pa) (hF : ∀ b, F b → b < w0.heap.size) (k : Int) (pre0 : 0 ≤ k) (pre1 : k + 16 * (SZ.sz a : Int) ≤ 4611686018427387904) : Calls Tryz.prog 79 [slv a.length pa.1, I k].toArray w0 (RetX hdl F w0 pa a k) := by
 refine Calls.walk F Tryz.func79 rfl rfl ?_
 intro ac β S
 have oa : Ow w0 F w0 (Lt w0.heap.size) F a pa := ⟨ha, hF, fun b hb => .inr hb⟩
 have hz := szl_Bool a
 have hlea : a.length ≤ 4194304 := LOwn.le ha
 refine ws (rg ?_)
 refine S.qe 1 [] [] fun ac w β S => ?_
 refine (nt (ws (ws (rg ?_))))
 refine S.qe 1 [] [(5, .v (I 0))] fun ac w β S => ?_
 refine (nt (wp_block ?_))
 refine wp_loop_down (fun mm ac w => ∃ (i : Nat) (acc : List Bool) (j : Int) (q1 : _) (F2 : _) (u : _) (N : _) (β : _), mm = a.length - i ∧ (i ≤ a.length) ∧ (acc = f_marksBool i k ++ a.drop i) ∧ (j = k + 1 * (i : Int)) ∧ St Tryz.prog Tryz.f79.ntmps w0 F u N β ⟨[(0, .v (slv a.length q1.1)), (1, .v (I j)), (5, .v (I (i : Int)))], []⟩ ac w ∧ Ow w0 F u N F2 acc q1 ∧ q1.1 = pa.1 ∧ (∀ b, F2 b → F b)) _ ⟨0, a, k, pa, F, _, _, _, rfl, o0, (by simp [f_marksBool]), (by simp), S.z, oa, rfl, (fun _ h => h)⟩ ?_
 clear S oa
 rintro mm ac w ⟨i, acc, j, q1, F2, u, N, β, rfl, hi, hacc, hj, S, o3, hq, hs⟩
 have hlacc : acc.length = a.length := by rw [hacc]; simp [f_marksBool]; omega
 refine ws (ws (rg ?_))
 refine S.qe 4 [] [(9, .v (B (decide ((i : Int) < (a.length : Int)))))] fun ac w β S => ?_
 refine (nt (S.c (decide ((i : Int) < (a.length : Int))) (fun h4 => ?_) (fun h4 => ?_)))
 ·have g5 := of_decide_eq_true h4
  refine wk (nt (ws (wp_block (ws (rg ?_)))))
  refine S.qb 6 [] [(16, .v (B ((Int.tmod j 3) == 0))), (17, .v (pt q1.1.b (q1.1.off + i * 1)))] (.cons (Q_rem (x := j) (y := 3) (by decide)) (.cons (Q_idx o3.rn (l := a.length) (k := i) (i := (i : Int)) (by rw [hacc]; simp [f_marksBool]; omega) rfl (by omega) Tryz.underlying48 (by kernel_rfl)) .nil)) fun ac w β S => ?_
  refine RG.op rfl (S.sF (α := Bool) o3 (t := 4) (k := i) (j := 0) (off := q1.1.off + i * 1) (v := B ((Int.tmod j 3) == 0)) (y := ((Int.tmod j 3) == 0)) (q := ()) (fun _ _ _ => ⟨NoB, trivial, fun _ h => False.elim h⟩) fun w N F7 q8 S up o6 d9 s10 n11 => ?_)
  have s12 : ∀ b, F7 b → F b := fun b h => (s10 b h).elim (hs b) (fun h => False.elim h)
  clear up d9 o3 n11
  have l13 : (acc.set i ((Int.tmod j 3) == 0)).length = acc.length := List.length_set
  refine rd (nt (rg ?_))
  refine S.qg 3 [] [(1, .v (I (j + 1)))] (.cons (qp j 1) .nil) fun ac w β S => ?_
  refine (nb (nt (rg ?_)))
  refine S.qg 3 [] [(5, .v (I ((i : Int) + 1)))] (.cons (qp (i : Int) 1) .nil) fun ac w β S => ?_
  refine (nt ?_)
  refine ⟨a.length - (i + 1), by omega, i + 1, (acc.set i ((Int.tmod j 3) == 0)), (j + 1), (q1.1, q8), F7, _, _, _, rfl, ?_, ?_, ?_, S.z, o6, hq, s12⟩
  ·exact oz
  ·clear S; (have hlt : i < acc.length := (by omega)); rw [hacc, ← marksBool_step (by omega) hj]; (first | rfl | (simp [g_markBool, Int.add_assoc]; done))
  ·clear S; omega
 have g14 := of_decide_eq_false h4
 refine wp_exit (ex_then (ex_then (ex_hit (nt (ws (rg ?_))))))
 refine S.qe 2 [] [(4, .v (I j))] fun ac w β S => ?_
 refine (nt (wr (S.r [I j] ?_)))
 have hyd : hdl acc k = j := by clear S; (have e : i = a.length := (by omega)); subst e; rw [hacc, List.drop_length, List.append_nil, hj]; exact hd_marksBool k (by omega) _ (by omega) id
 have hyb : k ≤ j ∧ j ≤ k + 16 * ((SZ.sz a : Nat) : Int) := by clear S; skip; constructor <;> omega
 exact retX_of S hyd hyb.1 hyb.2 (by show [slv _ _] = [slv _ _]; rw [hlacc, hq]) o3 hs

theorem c_laws_markInsS (w0 : World) (a : List TIns) (pa : LP TIns) (F : Bl) (ha : GT.own KK F w0 a pa) (hF : ∀ b, F b → b < w0.heap.size) (k : Int) (pre0 : 0 ≤ k) (pre1 : k + 16 * (SZ.sz a : Int) ≤ 4611686018427387904) : Calls Tryz.prog 131 [slv a.length pa.1, I k].toArray w0 (RetX hdl F w0 pa a k) := by
 refine Calls.walk F Tryz.func131 rfl rfl ?_
 intro ac β S
 have oa : Ow w0 F w0 (Lt w0.heap.size) F a pa := ⟨ha, hF, fun b hb => .inr hb⟩
 have hz := szl_TIns a
 have hlea : a.length ≤ 4194304 := LOwn.le ha
 refine ws (rg ?_)
 refine S.qe 1 [] [] fun ac w β S => ?_
 refine (nt (ws (ws (rg ?_))))
 refine S.qe 1 [] [(5, .v (I 0))] fun ac w β S => ?_
 refine (nt (wp_block ?_))
 refine wp_loop_down (fun mm ac w => ∃ (i : Nat) (acc : List TIns) (j : Int) (q1 : _) (F2 : _) (u : _) (N : _) (β : _), mm = a.length - i ∧ (i ≤ a.length) ∧ (acc = f_marksIns i k ++ a.drop i) ∧ (j = k + 2 * (i : Int)) ∧ St Tryz.prog Tryz.f131.ntmps w0 F u N β ⟨[(0, .v (slv a.length q1.1)), (1, .v (I j)), (5, .v (I (i : Int)))], []⟩ ac w ∧ Ow w0 F u N F2 acc q1 ∧ q1.1 = pa.1 ∧ (∀ b, F2 b → F b)) _ ⟨0, a, k, pa, F, _, _, _, rfl, o0, (by simp [f_marksIns]), (by simp), S.z, oa, rfl, (fun _ h => h)⟩ ?_
 clear S oa
 rintro mm ac w ⟨i, acc, j, q1, F2, u, N, β, rfl, hi, hacc, hj, S, o3, hq, hs⟩
 have hlacc : acc.length = a.length := by rw [hacc]; simp [f_marksIns]; omega
 refine ws (ws (rg ?_))
 refine S.qe 4 [] [(9, .v (B (decide ((i : Int) < (a.length : Int)))))] fun ac w β S => ?_
 refine (nt (S.c (decide ((i : Int) < (a.length : Int))) (fun h4 => ?_) (fun h4 => ?_)))
 ·have g5 := of_decide_eq_true h4
  refine wk (nt (ws (wp_block (ws (rg ?_)))))
  refine S.qb 5 [] [(14, .v (I j)), (16, .v (pt q1.1.b (q1.1.off + i * 2)))] (.cons (Q_idx o3.rn (l := a.length) (k := i) (i := (i : Int)) (by rw [hacc]; simp [f_marksIns]; omega) rfl (by omega) Tryz.underlying93 (by kernel_rfl)) .nil) fun ac w β S => ?_
  have e6 : RIns (el acc i) := (LRd.el o3.rn i (by omega))
  refine RG.op rfl (S.sF (α := TIns) o3 (t := 3) (k := i) (j := 0) (off := q1.1.off + i * 2) (v := I j) (y := (⟨j, (el acc i).x⟩ : TIns)) (q := ()) (fun _ _ _ => ⟨NoB, (show RIns (⟨j, (el acc i).x⟩ : TIns) from ⟨(show In64 j from ⟨by omega, by omega⟩), (RIns.x (d := (el acc i)) e6)⟩), fun _ h => False.elim h⟩) fun w N F8 q9 S up o7 d10 s11 n12 => ?_)
  have s13 : ∀ b, F8 b → F b := fun b h => (s11 b h).elim (hs b) (fun h => False.elim h)
  clear up d10 o3 n12
  have l14 : (acc.set i (⟨j, (el acc i).x⟩ : TIns)).length = acc.length := List.length_set
  refine rd (nt (ws (rg ?_)))
  refine S.qg 3 [] [(1, .v (I (j + 1)))] (.cons (qp j 1) .nil) fun ac w β S => ?_
  refine (nt (ws (rg ?_)))
  refine S.qb 5 [] [(21, .v (I (j + 1))), (23, .v (pt q1.1.b (q1.1.off + i * 2 + 1)))] (.cons (Q_idx o7.rn (l := a.length) (k := i) (i := (i : Int)) (by rw [List.length_set]; exact (by rw [hacc]; simp [f_marksIns]; omega)) rfl (by omega) Tryz.underlying93 (by kernel_rfl)) .nil) fun ac w β S => ?_
  refine RG.op rfl (S.setEl (α := TIns) o7 (t := 3) (v := I (j + 1)) (k := i) (j := 1) (off := q1.1.off + i * 2 + 1) (y := (⟨j, (j + 1)⟩ : TIns)) (q := ()) (Fy := NoB) (by kernel_rfl) (by kernel_rfl) (by omega) (by kernel_rfl) (by kernel_rfl) (Nat.le_of_ble_eq_true (by kernel_rfl)) (by rw [el_set_self (show i < acc.length by omega)]; kernel_rfl) (fun _ _ _ => ⟨NoB, (show RIns (⟨j, (j + 1)⟩ : TIns) from ⟨(show In64 j from ⟨by omega, by omega⟩), (show In64 (j + 1) from ⟨by omega, by omega⟩)⟩), fun _ h => False.elim h⟩) (fun b _ h => False.elim h) (fun b h => False.elim h) (fun b h => False.elim h) fun w N F16 q17 S up o15 d18 s19 n20 => ?_)
  have s21 : ∀ b, F16 b → F b := fun b h => (s19 b h).elim (s13 b) (fun h => False.elim h)
  clear up d18 o7 n20
  rw [List.set_set] at o15
  have l22 : (acc.set i (⟨j, (j + 1)⟩ : TIns)).length = acc.length := List.length_set
  refine rd (nt (rg ?_))
  refine S.qg 3 [] [(1, .v (I ((j + 1) + 1)))] (.cons (qp (j + 1) 1) .nil) fun ac w β S => ?_
  refine (nb (nt (rg ?_)))
  refine S.qg 3 [] [(5, .v (I ((i : Int) + 1)))] (.cons (qp (i : Int) 1) .nil) fun ac w β S => ?_
  refine (nt ?_)
  refine ⟨a.length - (i + 1), by omega, i + 1, (acc.set i (⟨j, (j + 1)⟩ : TIns)), ((j + 1) + 1), (q1.1, q17), F16, _, _, _, rfl, ?_, ?_, ?_, S.z, o15, hq, s21⟩
  ·exact oz
  ·clear S; (have hlt : i < acc.length := (by omega)); rw [hacc, ← marksIns_step (by omega) hj]; (first | rfl | (simp [g_markIns, Int.add_assoc]; done))
  ·clear S; omega
 have g23 := of_decide_eq_false h4
 refine wp_exit (ex_then (ex_then (ex_hit (nt (ws (rg ?_))))))
 refine S.qe 2 [] [(4, .v (I j))] fun ac w β S => ?_
 refine (nt (wr (S.r [I j] ?_)))
 have hyd : hdl acc k = j := by clear S; (have e : i = a.length := (by omega)); subst e; rw [hacc, List.drop_length, List.append_nil, hj]; exact hd_marksIns k (by omega) _ (by omega) id
 have hyb : k ≤ j ∧ j ≤ k + 16 * ((SZ.sz a : Nat) : Int) := by clear S; skip; constructor <;> omega
 exact retX_of S hyd hyb.1 hyb.2 (by show [slv _ _] = [slv _ _]; rw [hlacc, hq]) o3 hs

theorem c_laws_markGuestS (w0 : World) (a : List TGuest) (pa : LP TGuest) (F : Bl) (ha : GT.own KK F w0 a pa) (hF : ∀ b, F b → b < w0.heap.size) (k : Int) (pre0 : 0 ≤ k) (pre1 : k + 16 * (SZ.sz a : Int) ≤ 4611686018427387904) : Calls Tryz.prog 80 [slv a.length pa.1, I k].toArray w0 (RetX hdl F w0 pa a k) := by
 refine Calls.walk F Tryz.func80 rfl rfl ?_
 intro ac β S
 have oa : Ow w0 F w0 (Lt w0.heap.size) F a pa := ⟨ha, hF, fun b hb => .inr hb⟩
 have hz := sz_list a
 have hlea : a.length ≤ 4194304 := LOwn.le ha
 refine ws (rg ?_)
 refine S.qe 1 [] [] fun ac w β S => ?_
 refine (nt (ws (ws (rg ?_))))
 refine S.qe 1 [] [(5, .v (I 0))] fun ac w β S => ?_
 refine (nt (wp_block ?_))
 refine wp_loop_down (fun mm ac w => ∃ (i : Nat) (acc : List TGuest) (j : Int) (q1 : _) (F2 : _) (u : _) (N : _) (β : _), mm = a.length - i ∧ (i ≤ a.length) ∧ (acc.length = a.length) ∧ (∀ f, hdlc (acc.take i) k f = f j) ∧ (acc.drop i = a.drop i) ∧ (k ≤ j) ∧ (j ≤ k + 16 * ((i : Int) + (szsum (a.take i) : Nat))) ∧ St Tryz.prog Tryz.f80.ntmps w0 F u N β ⟨[(0, .v (slv a.length q1.1)), (1, .v (I j)), (5, .v (I (i : Int)))], []⟩ ac w ∧ Ow w0 F u N F2 acc q1 ∧ q1.1 = pa.1 ∧ (∀ b, F2 b → F b)) _ ⟨0, a, k, pa, F, _, _, _, rfl, o0, (by rfl), (by intro f; rfl), (by rfl), o0, (by simp [szsum_nil]), S.z, oa, rfl, (fun _ h => h)⟩ ?_
 clear S oa
 rintro mm ac w ⟨i, acc, j, q1, F2, u, N, β, rfl, hi, hl, hM, hD, hj0, hj1, S, o3, hq, hs⟩
 have hel := el_of_drop hD
 have hsl := szsum_take_le a i
 refine ws (ws (rg ?_))
 refine S.qe 4 [] [(9, .v (B (decide ((i : Int) < (a.length : Int)))))] fun ac w β S => ?_
 refine (nt (S.c (decide ((i : Int) < (a.length : Int))) (fun h4 => ?_) (fun h4 => ?_)))
 ·have g5 := of_decide_eq_true h4
  refine wk (nt (ws (wp_block (ws (rg ?_)))))
  refine S.qb 6 [] [(16, .v (slv (el acc i).prog.length (q1.2 i).prog.1)), (17, .v (I j))] (.cons (Q_idx o3.rn (l := a.length) (k := i) (i := (i : Int)) (by omega) rfl (by omega) Tryz.underlying49 (by kernel_rfl)) (.cons (qc o3.rn 93 i 0 (slv (el acc i).prog.length (q1.2 i).prog.1)) .nil)) fun ac w β S => ?_
  obtain ⟨F6, o7, s8, b9⟩ := foc_Guest_prog o3 (k := i) (show i < acc.length by omega)
  have z10 := szsum_take (xs := a) (k := i) (by omega)
  have z11 := szsum_take_le a (i + 1)
  have z12 := sz_Guest (el a i)
  have e13 : (el acc i).prog = (el a i).prog := by simp only [hel]
  refine RG.op rfl (S.callX (hd := hdl) (d := 18) o7 (c_laws_markInsS w (el acc i).prog (q1.2 i).prog F6 (S.ownw o7) (fun b hb => (S.sep b (o7.sub b hb)).1) j (by omega) (by rw [e13]; omega)) (by kernel_rfl) rfl fun ac w N q14 y15 k16 S up o17 c18 x19 b20 b21 => ?_)
  rw [e13] at b21
  obtain ⟨p22, o23⟩ := b9 _ _ _ _ up o17 c18
  clear up o3 o7 s8 b9 o17 c18
  obtain ⟨a24, e25⟩ : ∃ z, z = acc.set i ({ el acc i with prog := y15 }) := ⟨_, rfl⟩
  rw [← e25] at o23
  have l26 : a24.length = acc.length := by rw [e25]; exact List.length_set
  have e27 : el a24 i = { el acc i with prog := y15 } := by rw [e25]; exact el_set_self (show i < acc.length by omega)
  have t28 : a24.take i = acc.take i := by rw [e25]; exact take_set_self
  have d29 : a24.drop (i + 1) = acc.drop (i + 1) := by rw [e25]; exact drop_set_self
  clear e25
  refine S.qe 1 [] [(1, .v (I k16))] fun ac w β S => ?_
  refine (nt (ws (rg ?_)))
  refine S.qb 5 [] [(21, .v (I k16)), (23, .v (pt q1.1.b (q1.1.off + i * 15 + 1)))] (.cons (Q_idx o23.rn (l := a.length) (k := i) (i := (i : Int)) (by omega) rfl (by omega) Tryz.underlying49 (by kernel_rfl)) .nil) fun ac w β S => ?_
  refine RG.op rfl (S.sF (α := TGuest) o23 (t := 3) (k := i) (j := 1) (off := q1.1.off + i * 15 + 1) (v := I k16) (y := ({ el a24 i with acc := k16 } : TGuest)) (q := ((q1.1, p22).2 i)) (fun G g_ _ => ⟨G, ows_Guest_acc g_ (⟨by omega, by omega⟩), fun _ h => .inl h⟩) fun w N F31 q32 S up o30 d33 s34 n35 => ?_)
  have s36 : ∀ b, F31 b → F b := fun b h => (s34 b h).elim (hs b) (fun h => False.elim h)
  clear up d33 o23 n35
  obtain ⟨a37, e38⟩ : ∃ z, z = a24.set i ({ el a24 i with acc := k16 }) := ⟨_, rfl⟩
  rw [← e38] at o30
  have l39 : a37.length = a24.length := by rw [e38]; exact List.length_set
  have e40 : el a37 i = { el a24 i with acc := k16 } := by rw [e38]; exact el_set_self (show i < a24.length by omega)
  have t41 : a37.take i = a24.take i := by rw [e38]; exact take_set_self
  have d42 : a37.drop (i + 1) = a24.drop (i + 1) := by rw [e38]; exact drop_set_self
  clear e38
  refine rd (nt (ws (rg ?_)))
  refine S.qg 3 [] [(1, .v (I (k16 + 1)))] (.cons (qp k16 1) .nil) fun ac w β S => ?_
  refine (nt (ws (rg ?_)))
  refine S.qb 5 [] [(28, .v (I (k16 + 1))), (30, .v (pt q1.1.b (q1.1.off + i * 15 + 2)))] (.cons (Q_idx o30.rn (l := a.length) (k := i) (i := (i : Int)) (by omega) rfl (by omega) Tryz.underlying49 (by kernel_rfl)) .nil) fun ac w β S => ?_
  refine RG.op rfl (S.sF (α := TGuest) o30 (t := 3) (k := i) (j := 2) (off := q1.1.off + i * 15 + 2) (v := I (k16 + 1)) (y := ({ el a37 i with pc := (k16 + 1) } : TGuest)) (q := ((q1.1, q32).2 i)) (fun G g_ _ => ⟨G, ows_Guest_pc g_ (⟨by omega, by omega⟩), fun _ h => .inl h⟩) fun w N F44 q45 S up o43 d46 s47 n48 => ?_)
  have s49 : ∀ b, F44 b → F b := fun b h => (s47 b h).elim (s36 b) (fun h => False.elim h)
  clear up d46 o30 n48
  obtain ⟨a50, e51⟩ : ∃ z, z = a37.set i ({ el a37 i with pc := (k16 + 1) }) := ⟨_, rfl⟩
  rw [← e51] at o43
  have l52 : a50.length = a37.length := by rw [e51]; exact List.length_set
  have e53 : el a50 i = { el a37 i with pc := (k16 + 1) } := by rw [e51]; exact el_set_self (show i < a37.length by omega)
  have t54 : a50.take i = a37.take i := by rw [e51]; exact take_set_self
  have d55 : a50.drop (i + 1) = a37.drop (i + 1) := by rw [e51]; exact drop_set_self
  clear e51
  refine rd (nt (ws (rg ?_)))
  refine S.qg 3 [] [(1, .v (I ((k16 + 1) + 1)))] (.cons (qp (k16 + 1) 1) .nil) fun ac w β S => ?_
  refine (nt (ws (rg ?_)))
  refine S.qb 6 [] [(37, .v (slv (el a50 i).written.length ((q1.1, q45).2 i).written.1)), (38, .v (I ((k16 + 1) + 1)))] (.cons (Q_idx o43.rn (l := a.length) (k := i) (i := (i : Int)) (by omega) rfl (by omega) Tryz.underlying49 (by kernel_rfl)) (.cons (qc o43.rn 47 i 3 (slv (el a50 i).written.length ((q1.1, q45).2 i).written.1)) .nil)) fun ac w β S => ?_
  obtain ⟨F56, o57, s58, b59⟩ := foc_Guest_written o43 (k := i) (show i < a50.length by omega)
  have z60 := szsum_take (xs := a) (k := i) (by omega)
  have z61 := szsum_take_le a (i + 1)
  have z62 := sz_Guest (el a i)
  have e63 : (el a50 i).written = (el a i).written := by simp only [e53, e40, e27, hel]
  refine RG.op rfl (S.callX (hd := hdl) (d := 39) o57 (c_laws_markSlotS w (el a50 i).written ((q1.1, q45).2 i).written F56 (S.ownw o57) (fun b hb => (S.sep b (o57.sub b hb)).1) ((k16 + 1) + 1) (by omega) (by rw [e63]; omega)) (by kernel_rfl) rfl fun ac w N q64 y65 k66 S up o67 c68 x69 b70 b71 => ?_)
  rw [e63] at b71
  obtain ⟨p72, o73⟩ := b59 _ _ _ _ up o67 c68
  clear up o43 o57 s58 b59 o67 c68
  obtain ⟨a74, e75⟩ : ∃ z, z = a50.set i ({ el a50 i with written := y65 }) := ⟨_, rfl⟩
  rw [← e75] at o73
  have l76 : a74.length = a50.length := by rw [e75]; exact List.length_set
  have e77 : el a74 i = { el a50 i with written := y65 } := by rw [e75]; exact el_set_self (show i < a50.length by omega)
  have t78 : a74.take i = a50.take i := by rw [e75]; exact take_set_self
  have d79 : a74.drop (i + 1) = a50.drop (i + 1) := by rw [e75]; exact drop_set_self
  clear e75
  refine S.qe 1 [] [(1, .v (I k66))] fun ac w β S => ?_
  refine (nt (ws (rg ?_)))
  refine S.qb 6 [] [(44, .v (slv (el a74 i).live.length ((q1.1, p72).2 i).live.1)), (45, .v (I k66))] (.cons (Q_idx o73.rn (l := a.length) (k := i) (i := (i : Int)) (by omega) rfl (by omega) Tryz.underlying49 (by kernel_rfl)) (.cons (qc o73.rn 47 i 4 (slv (el a74 i).live.length ((q1.1, p72).2 i).live.1)) .nil)) fun ac w β S => ?_
  obtain ⟨F80, o81, s82, b83⟩ := foc_Guest_live o73 (k := i) (show i < a74.length by omega)
  have z84 := szsum_take (xs := a) (k := i) (by omega)
  have z85 := szsum_take_le a (i + 1)
  have z86 := sz_Guest (el a i)
  have e87 : (el a74 i).live = (el a i).live := by simp only [e77, e53, e40, e27, hel]
  refine RG.op rfl (S.callX (hd := hdl) (d := 46) o81 (c_laws_markSlotS w (el a74 i).live ((q1.1, p72).2 i).live F80 (S.ownw o81) (fun b hb => (S.sep b (o81.sub b hb)).1) k66 (by omega) (by rw [e87]; omega)) (by kernel_rfl) rfl fun ac w N q88 y89 k90 S up o91 c92 x93 b94 b95 => ?_)
  rw [e87] at b95
  obtain ⟨p96, o97⟩ := b83 _ _ _ _ up o91 c92
  clear up o73 o81 s82 b83 o91 c92
  obtain ⟨a98, e99⟩ : ∃ z, z = a74.set i ({ el a74 i with live := y89 }) := ⟨_, rfl⟩
  rw [← e99] at o97
  have l100 : a98.length = a74.length := by rw [e99]; exact List.length_set
  have e101 : el a98 i = { el a74 i with live := y89 } := by rw [e99]; exact el_set_self (show i < a74.length by omega)
  have t102 : a98.take i = a74.take i := by rw [e99]; exact take_set_self
  have d103 : a98.drop (i + 1) = a74.drop (i + 1) := by rw [e99]; exact drop_set_self
  clear e99
  refine S.qe 1 [] [(1, .v (I k90))] fun ac w β S => ?_
  refine (nt (ws (rg ?_)))
  refine S.qb 6 [] [(49, .v (I k90)), (52, .v (pt q1.1.b (q1.1.off + i * 15 + 5)))] (.cons (Q_idx o97.rn (l := a.length) (k := i) (i := (i : Int)) (by omega) rfl (by omega) Tryz.underlying49 (by kernel_rfl)) .nil) fun ac w β S => ?_
  refine RG.op rfl (S.sF (α := TGuest) o97 (t := 3) (k := i) (j := 5) (off := q1.1.off + i * 15 + 5) (v := I k90) (y := ({ el a98 i with ctl := (⟨k90, (el a98 i).ctl.post, (el a98 i).ctl.opn⟩ : TCtl) } : TGuest)) (q := ((q1.1, p96).2 i)) (fun G g_ _ => ⟨G, ows_Guest_ctl g_ (show RCtl (⟨k90, (el a98 i).ctl.post, (el a98 i).ctl.opn⟩ : TCtl) from ⟨(show In64 k90 from ⟨by omega, by omega⟩), (RCtl.post (d := (el a98 i).ctl) (RGuest.ctl (d := (el a98 i)) (LRd.el o97.rn i (by omega))))⟩), fun _ h => .inl h⟩) fun w N F105 q106 S up o104 d107 s108 n109 => ?_)
  have s110 : ∀ b, F105 b → F b := fun b h => (s108 b h).elim (s49 b) (fun h => False.elim h)
  clear up d107 o97 n109
  obtain ⟨a111, e112⟩ : ∃ z, z = a98.set i ({ el a98 i with ctl := (⟨k90, (el a98 i).ctl.post, (el a98 i).ctl.opn⟩ : TCtl) }) := ⟨_, rfl⟩
  rw [← e112] at o104
  have l113 : a111.length = a98.length := by rw [e112]; exact List.length_set
  have e114 : el a111 i = { el a98 i with ctl := (⟨k90, (el a98 i).ctl.post, (el a98 i).ctl.opn⟩ : TCtl) } := by rw [e112]; exact el_set_self (show i < a98.length by omega)
  have t115 : a111.take i = a98.take i := by rw [e112]; exact take_set_self
  have d116 : a111.drop (i + 1) = a98.drop (i + 1) := by rw [e112]; exact drop_set_self
  clear e112
  refine rd (nt (ws (rg ?_)))
  refine S.qg 3 [9, 16, 17, 21, 23, 28, 30, 37, 38, 44, 45, 49, 52] [(1, .v (I (k90 + 1)))] (.cons (qp k90 1) .nil) fun ac w β S => ?_
  refine (nt (ws (rg ?_)))
  refine S.qb 6 [] [(57, .v (I (k90 + 1))), (60, .v (pt q1.1.b (q1.1.off + i * 15 + 6)))] (.cons (Q_idx o104.rn (l := a.length) (k := i) (i := (i : Int)) (by omega) rfl (by omega) Tryz.underlying49 (by kernel_rfl)) .nil) fun ac w β S => ?_
  refine RG.op rfl (S.sF (α := TGuest) o104 (t := 3) (k := i) (j := 6) (off := q1.1.off + i * 15 + 6) (v := I (k90 + 1)) (y := ({ el a111 i with ctl := (⟨(el a111 i).ctl.traps, (k90 + 1), (el a111 i).ctl.opn⟩ : TCtl) } : TGuest)) (q := ((q1.1, q106).2 i)) (fun G g_ _ => ⟨G, ows_Guest_ctl g_ (show RCtl (⟨(el a111 i).ctl.traps, (k90 + 1), (el a111 i).ctl.opn⟩ : TCtl) from ⟨(RCtl.traps (d := (el a111 i).ctl) (RGuest.ctl (d := (el a111 i)) (LRd.el o104.rn i (by omega)))), (show In64 (k90 + 1) from ⟨by omega, by omega⟩)⟩), fun _ h => .inl h⟩) fun w N F118 q119 S up o117 d120 s121 n122 => ?_)
  have s123 : ∀ b, F118 b → F b := fun b h => (s121 b h).elim (s110 b) (fun h => False.elim h)
  clear up d120 o104 n122
  obtain ⟨a124, e125⟩ : ∃ z, z = a111.set i ({ el a111 i with ctl := (⟨(el a111 i).ctl.traps, (k90 + 1), (el a111 i).ctl.opn⟩ : TCtl) }) := ⟨_, rfl⟩
  rw [← e125] at o117
  have l126 : a124.length = a111.length := by rw [e125]; exact List.length_set
  have e127 : el a124 i = { el a111 i with ctl := (⟨(el a111 i).ctl.traps, (k90 + 1), (el a111 i).ctl.opn⟩ : TCtl) } := by rw [e125]; exact el_set_self (show i < a111.length by omega)
  have t128 : a124.take i = a111.take i := by rw [e125]; exact take_set_self
  have d129 : a124.drop (i + 1) = a111.drop (i + 1) := by rw [e125]; exact drop_set_self
  clear e125
  refine rd (nt (ws (rg ?_)))
  refine S.qg 3 [] [(1, .v (I ((k90 + 1) + 1)))] (.cons (qp (k90 + 1) 1) .nil) fun ac w β S => ?_
  refine (nt (ws (rg ?_)))
  refine S.qb 8 [] [(67, .v (B ((Int.tmod ((k90 + 1) + 1) 3) == 0))), (70, .v (pt q1.1.b (q1.1.off + i * 15 + 7)))] (.cons (Q_rem (x := ((k90 + 1) + 1)) (y := 3) (by decide)) (.cons (Q_idx o117.rn (l := a.length) (k := i) (i := (i : Int)) (by omega) rfl (by omega) Tryz.underlying49 (by kernel_rfl)) .nil)) fun ac w β S => ?_
  refine RG.op rfl (S.sF (α := TGuest) o117 (t := 4) (k := i) (j := 7) (off := q1.1.off + i * 15 + 7) (v := B ((Int.tmod ((k90 + 1) + 1) 3) == 0)) (y := ({ el a124 i with ctl := (⟨(el a124 i).ctl.traps, (el a124 i).ctl.post, ((Int.tmod ((k90 + 1) + 1) 3) == 0)⟩ : TCtl) } : TGuest)) (q := ((q1.1, q119).2 i)) (fun G g_ _ => ⟨G, ows_Guest_ctl g_ (show RCtl (⟨(el a124 i).ctl.traps, (el a124 i).ctl.post, ((Int.tmod ((k90 + 1) + 1) 3) == 0)⟩ : TCtl) from ⟨(RCtl.traps (d := (el a124 i).ctl) (RGuest.ctl (d := (el a124 i)) (LRd.el o117.rn i (by omega)))), (RCtl.post (d := (el a124 i).ctl) (RGuest.ctl (d := (el a124 i)) (LRd.el o117.rn i (by omega))))⟩), fun _ h => .inl h⟩) fun w N F131 q132 S up o130 d133 s134 n135 => ?_)
  have s136 : ∀ b, F131 b → F b := fun b h => (s134 b h).elim (s123 b) (fun h => False.elim h)
  clear up d133 o117 n135
  obtain ⟨a137, e138⟩ : ∃ z, z = a124.set i ({ el a124 i with ctl := (⟨(el a124 i).ctl.traps, (el a124 i).ctl.post, ((Int.tmod ((k90 + 1) + 1) 3) == 0)⟩ : TCtl) }) := ⟨_, rfl⟩
  rw [← e138] at o130
  have l139 : a137.length = a124.length := by rw [e138]; exact List.length_set
  have e140 : el a137 i = { el a124 i with ctl := (⟨(el a124 i).ctl.traps, (el a124 i).ctl.post, ((Int.tmod ((k90 + 1) + 1) 3) == 0)⟩ : TCtl) } := by rw [e138]; exact el_set_self (show i < a124.length by omega)
  have t141 : a137.take i = a124.take i := by rw [e138]; exact take_set_self
  have d142 : a137.drop (i + 1) = a124.drop (i + 1) := by rw [e138]; exact drop_set_self
  clear e138
  refine rd (nt (ws (rg ?_)))
  refine S.qg 3 [] [(1, .v (I (((k90 + 1) + 1) + 1)))] (.cons (qp ((k90 + 1) + 1) 1) .nil) fun ac w β S => ?_
  refine (nt (ws (rg ?_)))
  refine S.qb 5 [] [(75, .v (I (((k90 + 1) + 1) + 1))), (77, .v (pt q1.1.b (q1.1.off + i * 15 + 8)))] (.cons (Q_idx o130.rn (l := a.length) (k := i) (i := (i : Int)) (by omega) rfl (by omega) Tryz.underlying49 (by kernel_rfl)) .nil) fun ac w β S => ?_
  refine RG.op rfl (S.sF (α := TGuest) o130 (t := 3) (k := i) (j := 8) (off := q1.1.off + i * 15 + 8) (v := I (((k90 + 1) + 1) + 1)) (y := ({ el a137 i with pend := (((k90 + 1) + 1) + 1) } : TGuest)) (q := ((q1.1, q132).2 i)) (fun G g_ _ => ⟨G, ows_Guest_pend g_ (⟨by omega, by omega⟩), fun _ h => .inl h⟩) fun w N F144 q145 S up o143 d146 s147 n148 => ?_)
  have s149 : ∀ b, F144 b → F b := fun b h => (s147 b h).elim (s136 b) (fun h => False.elim h)
  clear up d146 o130 n148
  obtain ⟨a150, e151⟩ : ∃ z, z = a137.set i ({ el a137 i with pend := (((k90 + 1) + 1) + 1) }) := ⟨_, rfl⟩
  rw [← e151] at o143
  have l152 : a150.length = a137.length := by rw [e151]; exact List.length_set
  have e153 : el a150 i = { el a137 i with pend := (((k90 + 1) + 1) + 1) } := by rw [e151]; exact el_set_self (show i < a137.length by omega)
  have t154 : a150.take i = a137.take i := by rw [e151]; exact take_set_self
  have d155 : a150.drop (i + 1) = a137.drop (i + 1) := by rw [e151]; exact drop_set_self
  clear e151
  refine rd (nt (ws (rg ?_)))
  refine S.qg 3 [] [(1, .v (I ((((k90 + 1) + 1) + 1) + 1)))] (.cons (qp (((k90 + 1) + 1) + 1) 1) .nil) fun ac w β S => ?_
  refine (nt (ws (rg ?_)))
  refine S.qb 6 [] [(82, .v (I ((((k90 + 1) + 1) + 1) + 1))), (85, .v (pt q1.1.b (q1.1.off + i * 15 + 9)))] (.cons (Q_idx o143.rn (l := a.length) (k := i) (i := (i : Int)) (by omega) rfl (by omega) Tryz.underlying49 (by kernel_rfl)) .nil) fun ac w β S => ?_
  refine RG.op rfl (S.sF (α := TGuest) o143 (t := 3) (k := i) (j := 9) (off := q1.1.off + i * 15 + 9) (v := I ((((k90 + 1) + 1) + 1) + 1)) (y := ({ el a150 i with exit := (⟨((((k90 + 1) + 1) + 1) + 1), (el a150 i).exit.page, (el a150 i).exit.wr, (el a150 i).exit.n⟩ : TExit) } : TGuest)) (q := ((q1.1, q145).2 i)) (fun G g_ _ => ⟨G, ows_Guest_exit g_ (show RExit (⟨((((k90 + 1) + 1) + 1) + 1), (el a150 i).exit.page, (el a150 i).exit.wr, (el a150 i).exit.n⟩ : TExit) from ⟨(show In64 ((((k90 + 1) + 1) + 1) + 1) from ⟨by omega, by omega⟩), (RExit.page (d := (el a150 i).exit) (RGuest.exit (d := (el a150 i)) (LRd.el o143.rn i (by omega)))), (RExit.n (d := (el a150 i).exit) (RGuest.exit (d := (el a150 i)) (LRd.el o143.rn i (by omega))))⟩), fun _ h => .inl h⟩) fun w N F157 q158 S up o156 d159 s160 n161 => ?_)
  have s162 : ∀ b, F157 b → F b := fun b h => (s160 b h).elim (s149 b) (fun h => False.elim h)
  clear up d159 o143 n161
  obtain ⟨a163, e164⟩ : ∃ z, z = a150.set i ({ el a150 i with exit := (⟨((((k90 + 1) + 1) + 1) + 1), (el a150 i).exit.page, (el a150 i).exit.wr, (el a150 i).exit.n⟩ : TExit) }) := ⟨_, rfl⟩
  rw [← e164] at o156
  have l165 : a163.length = a150.length := by rw [e164]; exact List.length_set
  have e166 : el a163 i = { el a150 i with exit := (⟨((((k90 + 1) + 1) + 1) + 1), (el a150 i).exit.page, (el a150 i).exit.wr, (el a150 i).exit.n⟩ : TExit) } := by rw [e164]; exact el_set_self (show i < a150.length by omega)
  have t167 : a163.take i = a150.take i := by rw [e164]; exact take_set_self
  have d168 : a163.drop (i + 1) = a150.drop (i + 1) := by rw [e164]; exact drop_set_self
  clear e164
  refine rd (nt (ws (rg ?_)))
  refine S.qg 3 [] [(1, .v (I (((((k90 + 1) + 1) + 1) + 1) + 1)))] (.cons (qp ((((k90 + 1) + 1) + 1) + 1) 1) .nil) fun ac w β S => ?_
  refine (nt (ws (rg ?_)))
  refine S.qb 6 [] [(90, .v (I (((((k90 + 1) + 1) + 1) + 1) + 1))), (93, .v (pt q1.1.b (q1.1.off + i * 15 + 10)))] (.cons (Q_idx o156.rn (l := a.length) (k := i) (i := (i : Int)) (by omega) rfl (by omega) Tryz.underlying49 (by kernel_rfl)) .nil) fun ac w β S => ?_
  refine RG.op rfl (S.sF (α := TGuest) o156 (t := 3) (k := i) (j := 10) (off := q1.1.off + i * 15 + 10) (v := I (((((k90 + 1) + 1) + 1) + 1) + 1)) (y := ({ el a163 i with exit := (⟨(el a163 i).exit.kind, (((((k90 + 1) + 1) + 1) + 1) + 1), (el a163 i).exit.wr, (el a163 i).exit.n⟩ : TExit) } : TGuest)) (q := ((q1.1, q158).2 i)) (fun G g_ _ => ⟨G, ows_Guest_exit g_ (show RExit (⟨(el a163 i).exit.kind, (((((k90 + 1) + 1) + 1) + 1) + 1), (el a163 i).exit.wr, (el a163 i).exit.n⟩ : TExit) from ⟨(RExit.kind (d := (el a163 i).exit) (RGuest.exit (d := (el a163 i)) (LRd.el o156.rn i (by omega)))), (show In64 (((((k90 + 1) + 1) + 1) + 1) + 1) from ⟨by omega, by omega⟩), (RExit.n (d := (el a163 i).exit) (RGuest.exit (d := (el a163 i)) (LRd.el o156.rn i (by omega))))⟩), fun _ h => .inl h⟩) fun w N F170 q171 S up o169 d172 s173 n174 => ?_)
  have s175 : ∀ b, F170 b → F b := fun b h => (s173 b h).elim (s162 b) (fun h => False.elim h)
  clear up d172 o156 n174
  obtain ⟨a176, e177⟩ : ∃ z, z = a163.set i ({ el a163 i with exit := (⟨(el a163 i).exit.kind, (((((k90 + 1) + 1) + 1) + 1) + 1), (el a163 i).exit.wr, (el a163 i).exit.n⟩ : TExit) }) := ⟨_, rfl⟩
  rw [← e177] at o169
  have l178 : a176.length = a163.length := by rw [e177]; exact List.length_set
  have e179 : el a176 i = { el a163 i with exit := (⟨(el a163 i).exit.kind, (((((k90 + 1) + 1) + 1) + 1) + 1), (el a163 i).exit.wr, (el a163 i).exit.n⟩ : TExit) } := by rw [e177]; exact el_set_self (show i < a163.length by omega)
  have t180 : a176.take i = a163.take i := by rw [e177]; exact take_set_self
  have d181 : a176.drop (i + 1) = a163.drop (i + 1) := by rw [e177]; exact drop_set_self
  clear e177
  refine rd (nt (ws (rg ?_)))
  refine S.qg 3 [] [(1, .v (I ((((((k90 + 1) + 1) + 1) + 1) + 1) + 1)))] (.cons (qp (((((k90 + 1) + 1) + 1) + 1) + 1) 1) .nil) fun ac w β S => ?_
  refine (nt (ws (rg ?_)))
  refine S.qb 8 [] [(100, .v (B ((Int.tmod ((((((k90 + 1) + 1) + 1) + 1) + 1) + 1) 3) == 0))), (103, .v (pt q1.1.b (q1.1.off + i * 15 + 11)))] (.cons (Q_rem (x := ((((((k90 + 1) + 1) + 1) + 1) + 1) + 1)) (y := 3) (by decide)) (.cons (Q_idx o169.rn (l := a.length) (k := i) (i := (i : Int)) (by omega) rfl (by omega) Tryz.underlying49 (by kernel_rfl)) .nil)) fun ac w β S => ?_
  refine RG.op rfl (S.sF (α := TGuest) o169 (t := 4) (k := i) (j := 11) (off := q1.1.off + i * 15 + 11) (v := B ((Int.tmod ((((((k90 + 1) + 1) + 1) + 1) + 1) + 1) 3) == 0)) (y := ({ el a176 i with exit := (⟨(el a176 i).exit.kind, (el a176 i).exit.page, ((Int.tmod ((((((k90 + 1) + 1) + 1) + 1) + 1) + 1) 3) == 0), (el a176 i).exit.n⟩ : TExit) } : TGuest)) (q := ((q1.1, q171).2 i)) (fun G g_ _ => ⟨G, ows_Guest_exit g_ (show RExit (⟨(el a176 i).exit.kind, (el a176 i).exit.page, ((Int.tmod ((((((k90 + 1) + 1) + 1) + 1) + 1) + 1) 3) == 0), (el a176 i).exit.n⟩ : TExit) from ⟨(RExit.kind (d := (el a176 i).exit) (RGuest.exit (d := (el a176 i)) (LRd.el o169.rn i (by omega)))), (RExit.page (d := (el a176 i).exit) (RGuest.exit (d := (el a176 i)) (LRd.el o169.rn i (by omega)))), (RExit.n (d := (el a176 i).exit) (RGuest.exit (d := (el a176 i)) (LRd.el o169.rn i (by omega))))⟩), fun _ h => .inl h⟩) fun w N F183 q184 S up o182 d185 s186 n187 => ?_)
  have s188 : ∀ b, F183 b → F b := fun b h => (s186 b h).elim (s175 b) (fun h => False.elim h)
  clear up d185 o169 n187
  obtain ⟨a189, e190⟩ : ∃ z, z = a176.set i ({ el a176 i with exit := (⟨(el a176 i).exit.kind, (el a176 i).exit.page, ((Int.tmod ((((((k90 + 1) + 1) + 1) + 1) + 1) + 1) 3) == 0), (el a176 i).exit.n⟩ : TExit) }) := ⟨_, rfl⟩
  rw [← e190] at o182
  have l191 : a189.length = a176.length := by rw [e190]; exact List.length_set
  have e192 : el a189 i = { el a176 i with exit := (⟨(el a176 i).exit.kind, (el a176 i).exit.page, ((Int.tmod ((((((k90 + 1) + 1) + 1) + 1) + 1) + 1) 3) == 0), (el a176 i).exit.n⟩ : TExit) } := by rw [e190]; exact el_set_self (show i < a176.length by omega)
  have t193 : a189.take i = a176.take i := by rw [e190]; exact take_set_self
  have d194 : a189.drop (i + 1) = a176.drop (i + 1) := by rw [e190]; exact drop_set_self
  clear e190
  refine rd (nt (ws (rg ?_)))
  refine S.qg 3 [] [(1, .v (I (((((((k90 + 1) + 1) + 1) + 1) + 1) + 1) + 1)))] (.cons (qp ((((((k90 + 1) + 1) + 1) + 1) + 1) + 1) 1) .nil) fun ac w β S => ?_
  refine (nt (ws (rg ?_)))
  refine S.qb 6 [] [(108, .v (I (((((((k90 + 1) + 1) + 1) + 1) + 1) + 1) + 1))), (111, .v (pt q1.1.b (q1.1.off + i * 15 + 12)))] (.cons (Q_idx o182.rn (l := a.length) (k := i) (i := (i : Int)) (by omega) rfl (by omega) Tryz.underlying49 (by kernel_rfl)) .nil) fun ac w β S => ?_
  refine RG.op rfl (S.sF (α := TGuest) o182 (t := 3) (k := i) (j := 12) (off := q1.1.off + i * 15 + 12) (v := I (((((((k90 + 1) + 1) + 1) + 1) + 1) + 1) + 1)) (y := ({ el a189 i with exit := (⟨(el a189 i).exit.kind, (el a189 i).exit.page, (el a189 i).exit.wr, (((((((k90 + 1) + 1) + 1) + 1) + 1) + 1) + 1)⟩ : TExit) } : TGuest)) (q := ((q1.1, q184).2 i)) (fun G g_ _ => ⟨G, ows_Guest_exit g_ (show RExit (⟨(el a189 i).exit.kind, (el a189 i).exit.page, (el a189 i).exit.wr, (((((((k90 + 1) + 1) + 1) + 1) + 1) + 1) + 1)⟩ : TExit) from ⟨(RExit.kind (d := (el a189 i).exit) (RGuest.exit (d := (el a189 i)) (LRd.el o182.rn i (by omega)))), (RExit.page (d := (el a189 i).exit) (RGuest.exit (d := (el a189 i)) (LRd.el o182.rn i (by omega)))), (show In64 (((((((k90 + 1) + 1) + 1) + 1) + 1) + 1) + 1) from ⟨by omega, by omega⟩)⟩), fun _ h => .inl h⟩) fun w N F196 q197 S up o195 d198 s199 n200 => ?_)
  have s201 : ∀ b, F196 b → F b := fun b h => (s199 b h).elim (s188 b) (fun h => False.elim h)
  clear up d198 o182 n200
  obtain ⟨a202, e203⟩ : ∃ z, z = a189.set i ({ el a189 i with exit := (⟨(el a189 i).exit.kind, (el a189 i).exit.page, (el a189 i).exit.wr, (((((((k90 + 1) + 1) + 1) + 1) + 1) + 1) + 1)⟩ : TExit) }) := ⟨_, rfl⟩
  rw [← e203] at o195
  have l204 : a202.length = a189.length := by rw [e203]; exact List.length_set
  have e205 : el a202 i = { el a189 i with exit := (⟨(el a189 i).exit.kind, (el a189 i).exit.page, (el a189 i).exit.wr, (((((((k90 + 1) + 1) + 1) + 1) + 1) + 1) + 1)⟩ : TExit) } := by rw [e203]; exact el_set_self (show i < a189.length by omega)
  have t206 : a202.take i = a189.take i := by rw [e203]; exact take_set_self
  have d207 : a202.drop (i + 1) = a189.drop (i + 1) := by rw [e203]; exact drop_set_self
  clear e203
  refine rd (nt (ws (rg ?_)))
  refine S.qg 3 [57, 60, 67, 70, 75, 77, 82, 85, 90, 93, 100, 103, 108, 111] [(1, .v (I ((((((((k90 + 1) + 1) + 1) + 1) + 1) + 1) + 1) + 1)))] (.cons (qp (((((((k90 + 1) + 1) + 1) + 1) + 1) + 1) + 1) 1) .nil) fun ac w β S => ?_
  refine (nt (ws (rg ?_)))
  refine S.qb 7 [] [(118, .v (B ((Int.tmod ((((((((k90 + 1) + 1) + 1) + 1) + 1) + 1) + 1) + 1) 3) == 0))), (120, .v (pt q1.1.b (q1.1.off + i * 15 + 13)))] (.cons (Q_rem (x := ((((((((k90 + 1) + 1) + 1) + 1) + 1) + 1) + 1) + 1)) (y := 3) (by decide)) (.cons (Q_idx o195.rn (l := a.length) (k := i) (i := (i : Int)) (by omega) rfl (by omega) Tryz.underlying49 (by kernel_rfl)) .nil)) fun ac w β S => ?_
  refine RG.op rfl (S.sF (α := TGuest) o195 (t := 4) (k := i) (j := 13) (off := q1.1.off + i * 15 + 13) (v := B ((Int.tmod ((((((((k90 + 1) + 1) + 1) + 1) + 1) + 1) + 1) + 1) 3) == 0)) (y := ({ el a202 i with halted := ((Int.tmod ((((((((k90 + 1) + 1) + 1) + 1) + 1) + 1) + 1) + 1) 3) == 0) } : TGuest)) (q := ((q1.1, q197).2 i)) (fun G g_ _ => ⟨G, ows_Guest_halted g_, fun _ h => .inl h⟩) fun w N F209 q210 S up o208 d211 s212 n213 => ?_)
  have s214 : ∀ b, F209 b → F b := fun b h => (s212 b h).elim (s201 b) (fun h => False.elim h)
  clear up d211 o195 n213
  obtain ⟨a215, e216⟩ : ∃ z, z = a202.set i ({ el a202 i with halted := ((Int.tmod ((((((((k90 + 1) + 1) + 1) + 1) + 1) + 1) + 1) + 1) 3) == 0) }) := ⟨_, rfl⟩
  rw [← e216] at o208
  have l217 : a215.length = a202.length := by rw [e216]; exact List.length_set
  have e218 : el a215 i = { el a202 i with halted := ((Int.tmod ((((((((k90 + 1) + 1) + 1) + 1) + 1) + 1) + 1) + 1) 3) == 0) } := by rw [e216]; exact el_set_self (show i < a202.length by omega)
  have t219 : a215.take i = a202.take i := by rw [e216]; exact take_set_self
  have d220 : a215.drop (i + 1) = a202.drop (i + 1) := by rw [e216]; exact drop_set_self
  clear e216
  refine rd (nt (ws (rg ?_)))
  refine S.qg 3 [] [(1, .v (I (((((((((k90 + 1) + 1) + 1) + 1) + 1) + 1) + 1) + 1) + 1)))] (.cons (qp ((((((((k90 + 1) + 1) + 1) + 1) + 1) + 1) + 1) + 1) 1) .nil) fun ac w β S => ?_
  refine (nt (rg ?_))
  refine S.qb 6 [] [(127, .v (slv (el a215 i).seen.length ((q1.1, q210).2 i).seen.1)), (128, .v (I (((((((((k90 + 1) + 1) + 1) + 1) + 1) + 1) + 1) + 1) + 1)))] (.cons (Q_idx o208.rn (l := a.length) (k := i) (i := (i : Int)) (by omega) rfl (by omega) Tryz.underlying49 (by kernel_rfl)) (.cons (qc o208.rn 50 i 14 (slv (el a215 i).seen.length ((q1.1, q210).2 i).seen.1)) .nil)) fun ac w β S => ?_
  obtain ⟨F221, o222, s223, b224⟩ := foc_Guest_seen o208 (k := i) (show i < a215.length by omega)
  have z225 := szsum_take (xs := a) (k := i) (by omega)
  have z226 := szsum_take_le a (i + 1)
  have z227 := sz_Guest (el a i)
  have e228 : (el a215 i).seen = (el a i).seen := by simp only [e218, e205, e192, e179, e166, e153, e140, e127, e114, e101, e77, e53, e40, e27, hel]
  refine RG.op rfl (S.callX (hd := hdl) (d := 129) o222 (c_laws_markIntS w (el a215 i).seen ((q1.1, q210).2 i).seen F221 (S.ownw o222) (fun b hb => (S.sep b (o222.sub b hb)).1) (((((((((k90 + 1) + 1) + 1) + 1) + 1) + 1) + 1) + 1) + 1) (by omega) (by rw [e228]; omega)) (by kernel_rfl) rfl fun ac w N q229 y230 k231 S up o232 c233 x234 b235 b236 => ?_)
  rw [e228] at b236
  obtain ⟨p237, o238⟩ := b224 _ _ _ _ up o232 c233
  clear up o208 o222 s223 b224 o232 c233
  obtain ⟨a239, e240⟩ : ∃ z, z = a215.set i ({ el a215 i with seen := y230 }) := ⟨_, rfl⟩
  rw [← e240] at o238
  have l241 : a239.length = a215.length := by rw [e240]; exact List.length_set
  have e242 : el a239 i = { el a215 i with seen := y230 } := by rw [e240]; exact el_set_self (show i < a215.length by omega)
  have t243 : a239.take i = a215.take i := by rw [e240]; exact take_set_self
  have d244 : a239.drop (i + 1) = a215.drop (i + 1) := by rw [e240]; exact drop_set_self
  clear e240
  refine S.qe 1 [] [(1, .v (I k231))] fun ac w β S => ?_
  refine (nb (nt (rg ?_)))
  refine S.qg 3 [] [(5, .v (I ((i : Int) + 1)))] (.cons (qp (i : Int) 1) .nil) fun ac w β S => ?_
  refine (nt ?_)
  refine ⟨a.length - (i + 1), by omega, i + 1, a239, k231, (q1.1, p237), F209, _, _, _, rfl, ?_, ?_, ?_, ?_, ?_, ?_, S.z, o238, hq, s214⟩
  ·exact oz
  ·clear S; omega
  ·clear S; refine mk_step (acc := a239) (by omega) (by intro f; rw [t243, t219, t206, t193, t180, t167, t154, t141, t128, t115, t102, t78, t54, t41, t28]; exact hM f) ?_; intro f; simp (disch := first | omega | rfl) only [he_list, he_Guest, e242, e218, e205, e192, e179, e166, e153, e140, e127, e114, e101, e77, e53, e40, e27, x19, x69, x93, x234, hdc_pos, hdi_eq, hdb_eq]
  ·clear S; rw [d244, d220, d207, d194, d181, d168, d155, d142, d129, d116, d103, d79, d55, d42, d29]; exact drop_more hD
  ·clear S; omega
  ·clear S; omega
 have g245 := of_decide_eq_false h4
 refine wp_exit (ex_then (ex_then (ex_hit (nt (ws (rg ?_))))))
 refine S.qe 2 [] [(4, .v (I j))] fun ac w β S => ?_
 refine (nt (wr (S.r [I j] ?_)))
 have hyd : hdl acc k = j := by clear S; exact mk_end (by omega) hM
 have hyb : k ≤ j ∧ j ≤ k + 16 * ((SZ.sz a : Nat) : Int) := by clear S; have hs2 := szsum_take_le a i; constructor <;> omega
 exact retX_of S hyd hyb.1 hyb.2 (by show [slv _ _] = [slv _ _]; rw [hl, hq]) o3 hs

theorem c_laws_markKeptS (w0 : World) (a : List TKept) (pa : LP TKept) (F : Bl) (ha : GT.own KK F w0 a pa) (hF : ∀ b, F b → b < w0.heap.size) (k : Int) (pre0 : 0 ≤ k) (pre1 : k + 16 * (SZ.sz a : Int) ≤ 4611686018427387904) : Calls Tryz.prog 81 [slv a.length pa.1, I k].toArray w0 (RetX hdl F w0 pa a k) := by
 refine Calls.walk F Tryz.func81 rfl rfl ?_
 intro ac β S
 have oa : Ow w0 F w0 (Lt w0.heap.size) F a pa := ⟨ha, hF, fun b hb => .inr hb⟩
 have hz := sz_list a
 have hlea : a.length ≤ 4194304 := LOwn.le ha
 refine ws (rg ?_)
 refine S.qe 1 [] [] fun ac w β S => ?_
 refine (nt (ws (ws (rg ?_))))
 refine S.qe 1 [] [(5, .v (I 0))] fun ac w β S => ?_
 refine (nt (wp_block ?_))
 refine wp_loop_down (fun mm ac w => ∃ (i : Nat) (acc : List TKept) (j : Int) (q1 : _) (F2 : _) (u : _) (N : _) (β : _), mm = a.length - i ∧ (i ≤ a.length) ∧ (acc.length = a.length) ∧ (∀ f, hdlc (acc.take i) k f = f j) ∧ (acc.drop i = a.drop i) ∧ (k ≤ j) ∧ (j ≤ k + 16 * ((i : Int) + (szsum (a.take i) : Nat))) ∧ St Tryz.prog Tryz.f81.ntmps w0 F u N β ⟨[(0, .v (slv a.length q1.1)), (1, .v (I j)), (5, .v (I (i : Int)))], []⟩ ac w ∧ Ow w0 F u N F2 acc q1 ∧ q1.1 = pa.1 ∧ (∀ b, F2 b → F b)) _ ⟨0, a, k, pa, F, _, _, _, rfl, o0, (by rfl), (by intro f; rfl), (by rfl), o0, (by simp [szsum_nil]), S.z, oa, rfl, (fun _ h => h)⟩ ?_
 clear S oa
 rintro mm ac w ⟨i, acc, j, q1, F2, u, N, β, rfl, hi, hl, hM, hD, hj0, hj1, S, o3, hq, hs⟩
 have hel := el_of_drop hD
 have hsl := szsum_take_le a i
 refine ws (ws (rg ?_))
 refine S.qe 4 [] [(9, .v (B (decide ((i : Int) < (a.length : Int)))))] fun ac w β S => ?_
 refine (nt (S.c (decide ((i : Int) < (a.length : Int))) (fun h4 => ?_) (fun h4 => ?_)))
 ·have g5 := of_decide_eq_true h4
  refine wk (nt (ws (wp_block (ws (rg ?_)))))
  refine S.qb 6 [] [(16, .v (slv (el acc i).known.length (q1.2 i).known.1)), (17, .v (I j))] (.cons (Q_idx o3.rn (l := a.length) (k := i) (i := (i : Int)) (by omega) rfl (by omega) Tryz.underlying51 (by kernel_rfl)) (.cons (qc o3.rn 48 i 0 (slv (el acc i).known.length (q1.2 i).known.1)) .nil)) fun ac w β S => ?_
  obtain ⟨F6, o7, s8, b9⟩ := foc_Kept_known o3 (k := i) (show i < acc.length by omega)
  have z10 := szsum_take (xs := a) (k := i) (by omega)
  have z11 := szsum_take_le a (i + 1)
  have z12 := sz_Kept (el a i)
  have e13 : (el acc i).known = (el a i).known := by simp only [hel]
  refine RG.op rfl (S.callX (hd := hdl) (d := 18) o7 (c_laws_markBoolS w (el acc i).known (q1.2 i).known F6 (S.ownw o7) (fun b hb => (S.sep b (o7.sub b hb)).1) j (by omega) (by rw [e13]; omega)) (by kernel_rfl) rfl fun ac w N q14 y15 k16 S up o17 c18 x19 b20 b21 => ?_)
  rw [e13] at b21
  obtain ⟨p22, o23⟩ := b9 _ _ _ _ up o17 c18
  clear up o3 o7 s8 b9 o17 c18
  obtain ⟨a24, e25⟩ : ∃ z, z = acc.set i ({ el acc i with known := y15 }) := ⟨_, rfl⟩
  rw [← e25] at o23
  have l26 : a24.length = acc.length := by rw [e25]; exact List.length_set
  have e27 : el a24 i = { el acc i with known := y15 } := by rw [e25]; exact el_set_self (show i < acc.length by omega)
  have t28 : a24.take i = acc.take i := by rw [e25]; exact take_set_self
  have d29 : a24.drop (i + 1) = acc.drop (i + 1) := by rw [e25]; exact drop_set_self
  clear e25
  refine S.qe 1 [] [(1, .v (I k16))] fun ac w β S => ?_
  refine (nt (rg ?_))
  refine S.qb 6 [] [(23, .v (slv (el a24 i).slots.length ((q1.1, p22).2 i).slots.1)), (24, .v (I k16))] (.cons (Q_idx o23.rn (l := a.length) (k := i) (i := (i : Int)) (by omega) rfl (by omega) Tryz.underlying51 (by kernel_rfl)) (.cons (qc o23.rn 47 i 1 (slv (el a24 i).slots.length ((q1.1, p22).2 i).slots.1)) .nil)) fun ac w β S => ?_
  obtain ⟨F30, o31, s32, b33⟩ := foc_Kept_slots o23 (k := i) (show i < a24.length by omega)
  have z34 := szsum_take (xs := a) (k := i) (by omega)
  have z35 := szsum_take_le a (i + 1)
  have z36 := sz_Kept (el a i)
  have e37 : (el a24 i).slots = (el a i).slots := by simp only [e27, hel]
  refine RG.op rfl (S.callX (hd := hdl) (d := 25) o31 (c_laws_markSlotS w (el a24 i).slots ((q1.1, p22).2 i).slots F30 (S.ownw o31) (fun b hb => (S.sep b (o31.sub b hb)).1) k16 (by omega) (by rw [e37]; omega)) (by kernel_rfl) rfl fun ac w N q38 y39 k40 S up o41 c42 x43 b44 b45 => ?_)
  rw [e37] at b45
  obtain ⟨p46, o47⟩ := b33 _ _ _ _ up o41 c42
  clear up o23 o31 s32 b33 o41 c42
  obtain ⟨a48, e49⟩ : ∃ z, z = a24.set i ({ el a24 i with slots := y39 }) := ⟨_, rfl⟩
  rw [← e49] at o47
  have l50 : a48.length = a24.length := by rw [e49]; exact List.length_set
  have e51 : el a48 i = { el a24 i with slots := y39 } := by rw [e49]; exact el_set_self (show i < a24.length by omega)
  have t52 : a48.take i = a24.take i := by rw [e49]; exact take_set_self
  have d53 : a48.drop (i + 1) = a24.drop (i + 1) := by rw [e49]; exact drop_set_self
  clear e49
  refine S.qe 1 [] [(1, .v (I k40))] fun ac w β S => ?_
  refine (nb (nt (rg ?_)))
  refine S.qg 3 [] [(5, .v (I ((i : Int) + 1)))] (.cons (qp (i : Int) 1) .nil) fun ac w β S => ?_
  refine (nt ?_)
  refine ⟨a.length - (i + 1), by omega, i + 1, a48, k40, (q1.1, p46), F2, _, _, _, rfl, ?_, ?_, ?_, ?_, ?_, ?_, S.z, o47, hq, hs⟩
  ·exact oz
  ·clear S; omega
  ·clear S; refine mk_step (acc := a48) (by omega) (by intro f; rw [t52, t28]; exact hM f) ?_; intro f; simp (disch := first | omega | rfl) only [he_list, he_Kept, e51, e27, x19, x43, hdc_pos, hdi_eq, hdb_eq]
  ·clear S; rw [d53, d29]; exact drop_more hD
  ·clear S; omega
  ·clear S; omega
 have g54 := of_decide_eq_false h4
 refine wp_exit (ex_then (ex_then (ex_hit (nt (ws (rg ?_))))))
 refine S.qe 2 [] [(4, .v (I j))] fun ac w β S => ?_
 refine (nt (wr (S.r [I j] ?_)))
 have hyd : hdl acc k = j := by clear S; exact mk_end (by omega) hM
 have hyb : k ≤ j ∧ j ≤ k + 16 * ((SZ.sz a : Nat) : Int) := by clear S; have hs2 := szsum_take_le a i; constructor <;> omega
 exact retX_of S hyd hyb.1 hyb.2 (by show [slv _ _] = [slv _ _]; rw [hl, hq]) o3 hs

theorem c_laws_markMonS (w0 : World) (a : List TMon) (pa : LP TMon) (F : Bl) (ha : GT.own KK F w0 a pa) (hF : ∀ b, F b → b < w0.heap.size) (k : Int) (pre0 : 0 ≤ k) (pre1 : k + 16 * (SZ.sz a : Int) ≤ 4611686018427387904) : Calls Tryz.prog 40 [slv a.length pa.1, I k].toArray w0 (RetX hdl F w0 pa a k) := by
 refine Calls.walk F Tryz.func40 rfl rfl ?_
 intro ac β S
 have oa : Ow w0 F w0 (Lt w0.heap.size) F a pa := ⟨ha, hF, fun b hb => .inr hb⟩
 have hz := sz_list a
 have hlea : a.length ≤ 4194304 := LOwn.le ha
 refine ws (rg ?_)
 refine S.qe 1 [] [] fun ac w β S => ?_
 refine (nt (ws (ws (rg ?_))))
 refine S.qe 1 [] [(5, .v (I 0))] fun ac w β S => ?_
 refine (nt (wp_block ?_))
 refine wp_loop_down (fun mm ac w => ∃ (i : Nat) (acc : List TMon) (j : Int) (q1 : _) (F2 : _) (u : _) (N : _) (β : _), mm = a.length - i ∧ (i ≤ a.length) ∧ (acc.length = a.length) ∧ (∀ f, hdlc (acc.take i) k f = f j) ∧ (acc.drop i = a.drop i) ∧ (k ≤ j) ∧ (j ≤ k + 16 * ((i : Int) + (szsum (a.take i) : Nat))) ∧ St Tryz.prog Tryz.f40.ntmps w0 F u N β ⟨[(0, .v (slv a.length q1.1)), (1, .v (I j)), (5, .v (I (i : Int)))], []⟩ ac w ∧ Ow w0 F u N F2 acc q1 ∧ q1.1 = pa.1 ∧ (∀ b, F2 b → F b)) _ ⟨0, a, k, pa, F, _, _, _, rfl, o0, (by rfl), (by intro f; rfl), (by rfl), o0, (by simp [szsum_nil]), S.z, oa, rfl, (fun _ h => h)⟩ ?_
 clear S oa
 rintro mm ac w ⟨i, acc, j, q1, F2, u, N, β, rfl, hi, hl, hM, hD, hj0, hj1, S, o3, hq, hs⟩
 have hel := el_of_drop hD
 have hsl := szsum_take_le a i
 refine ws (ws (rg ?_))
 refine S.qe 4 [] [(9, .v (B (decide ((i : Int) < (a.length : Int)))))] fun ac w β S => ?_
 refine (nt (S.c (decide ((i : Int) < (a.length : Int))) (fun h4 => ?_) (fun h4 => ?_)))
 ·have g5 := of_decide_eq_true h4
  refine wk (nt (ws (wp_block (ws (rg ?_)))))
  refine S.qb 6 [] [(16, .v (slv (el acc i).outer.length (q1.2 i).outer.1)), (17, .v (I j))] (.cons (Q_idx o3.rn (l := a.length) (k := i) (i := (i : Int)) (by omega) rfl (by omega) Tryz.underlying28 (by kernel_rfl)) (.cons (qc o3.rn 47 i 0 (slv (el acc i).outer.length (q1.2 i).outer.1)) .nil)) fun ac w β S => ?_
  obtain ⟨F6, o7, s8, b9⟩ := foc_Mon_outer o3 (k := i) (show i < acc.length by omega)
  have z10 := szsum_take (xs := a) (k := i) (by omega)
  have z11 := szsum_take_le a (i + 1)
  have z12 := sz_Mon (el a i)
  have e13 : (el acc i).outer = (el a i).outer := by simp only [hel]
  refine RG.op rfl (S.callX (hd := hdl) (d := 18) o7 (c_laws_markSlotS w (el acc i).outer (q1.2 i).outer F6 (S.ownw o7) (fun b hb => (S.sep b (o7.sub b hb)).1) j (by omega) (by rw [e13]; omega)) (by kernel_rfl) rfl fun ac w N q14 y15 k16 S up o17 c18 x19 b20 b21 => ?_)
  rw [e13] at b21
  obtain ⟨p22, o23⟩ := b9 _ _ _ _ up o17 c18
  clear up o3 o7 s8 b9 o17 c18
  obtain ⟨a24, e25⟩ : ∃ z, z = acc.set i ({ el acc i with outer := y15 }) := ⟨_, rfl⟩
  rw [← e25] at o23
  have l26 : a24.length = acc.length := by rw [e25]; exact List.length_set
  have e27 : el a24 i = { el acc i with outer := y15 } := by rw [e25]; exact el_set_self (show i < acc.length by omega)
  have t28 : a24.take i = acc.take i := by rw [e25]; exact take_set_self
  have d29 : a24.drop (i + 1) = acc.drop (i + 1) := by rw [e25]; exact drop_set_self
  clear e25
  refine S.qe 1 [] [(1, .v (I k16))] fun ac w β S => ?_
  refine (nt (ws (rg ?_)))
  refine S.qb 6 [] [(23, .v (slv (el a24 i).out.length ((q1.1, p22).2 i).out.1)), (24, .v (I k16))] (.cons (Q_idx o23.rn (l := a.length) (k := i) (i := (i : Int)) (by omega) rfl (by omega) Tryz.underlying28 (by kernel_rfl)) (.cons (qc o23.rn 22 i 1 (slv (el a24 i).out.length ((q1.1, p22).2 i).out.1)) .nil)) fun ac w β S => ?_
  obtain ⟨F30, o31, s32, b33⟩ := foc_Mon_out o23 (k := i) (show i < a24.length by omega)
  have z34 := szsum_take (xs := a) (k := i) (by omega)
  have z35 := szsum_take_le a (i + 1)
  have z36 := sz_Mon (el a i)
  have e37 : (el a24 i).out = (el a i).out := by simp only [e27, hel]
  refine RG.op rfl (S.callX (hd := hdl) (d := 25) o31 (c_laws_markIntSS w (el a24 i).out ((q1.1, p22).2 i).out F30 (S.ownw o31) (fun b hb => (S.sep b (o31.sub b hb)).1) k16 (by omega) (by rw [e37]; omega)) (by kernel_rfl) rfl fun ac w N q38 y39 k40 S up o41 c42 x43 b44 b45 => ?_)
  rw [e37] at b45
  obtain ⟨p46, o47⟩ := b33 _ _ _ _ up o41 c42
  clear up o23 o31 s32 b33 o41 c42
  obtain ⟨a48, e49⟩ : ∃ z, z = a24.set i ({ el a24 i with out := y39 }) := ⟨_, rfl⟩
  rw [← e49] at o47
  have l50 : a48.length = a24.length := by rw [e49]; exact List.length_set
  have e51 : el a48 i = { el a24 i with out := y39 } := by rw [e49]; exact el_set_self (show i < a24.length by omega)
  have t52 : a48.take i = a24.take i := by rw [e49]; exact take_set_self
  have d53 : a48.drop (i + 1) = a24.drop (i + 1) := by rw [e49]; exact drop_set_self
  clear e49
  refine S.qe 1 [] [(1, .v (I k40))] fun ac w β S => ?_
  refine (nt (ws (rg ?_)))
  refine S.qb 6 [] [(30, .v (slv (el a48 i).dirty.length ((q1.1, p46).2 i).dirty.1)), (31, .v (I k40))] (.cons (Q_idx o47.rn (l := a.length) (k := i) (i := (i : Int)) (by omega) rfl (by omega) Tryz.underlying28 (by kernel_rfl)) (.cons (qc o47.rn 48 i 2 (slv (el a48 i).dirty.length ((q1.1, p46).2 i).dirty.1)) .nil)) fun ac w β S => ?_
  obtain ⟨F54, o55, s56, b57⟩ := foc_Mon_dirty o47 (k := i) (show i < a48.length by omega)
  have z58 := szsum_take (xs := a) (k := i) (by omega)
  have z59 := szsum_take_le a (i + 1)
  have z60 := sz_Mon (el a i)
  have e61 : (el a48 i).dirty = (el a i).dirty := by simp only [e51, e27, hel]
  refine RG.op rfl (S.callX (hd := hdl) (d := 32) o55 (c_laws_markBoolS w (el a48 i).dirty ((q1.1, p46).2 i).dirty F54 (S.ownw o55) (fun b hb => (S.sep b (o55.sub b hb)).1) k40 (by omega) (by rw [e61]; omega)) (by kernel_rfl) rfl fun ac w N q62 y63 k64 S up o65 c66 x67 b68 b69 => ?_)
  rw [e61] at b69
  obtain ⟨p70, o71⟩ := b57 _ _ _ _ up o65 c66
  clear up o47 o55 s56 b57 o65 c66
  obtain ⟨a72, e73⟩ : ∃ z, z = a48.set i ({ el a48 i with dirty := y63 }) := ⟨_, rfl⟩
  rw [← e73] at o71
  have l74 : a72.length = a48.length := by rw [e73]; exact List.length_set
  have e75 : el a72 i = { el a48 i with dirty := y63 } := by rw [e73]; exact el_set_self (show i < a48.length by omega)
  have t76 : a72.take i = a48.take i := by rw [e73]; exact take_set_self
  have d77 : a72.drop (i + 1) = a48.drop (i + 1) := by rw [e73]; exact drop_set_self
  clear e73
  refine S.qe 1 [] [(1, .v (I k64))] fun ac w β S => ?_
  refine (nt (ws (rg ?_)))
  refine S.qb 6 [] [(37, .v (slv (el a72 i).guests.length ((q1.1, p70).2 i).guests.1)), (38, .v (I k64))] (.cons (Q_idx o71.rn (l := a.length) (k := i) (i := (i : Int)) (by omega) rfl (by omega) Tryz.underlying28 (by kernel_rfl)) (.cons (qc o71.rn 49 i 3 (slv (el a72 i).guests.length ((q1.1, p70).2 i).guests.1)) .nil)) fun ac w β S => ?_
  obtain ⟨F78, o79, s80, b81⟩ := foc_Mon_guests o71 (k := i) (show i < a72.length by omega)
  have z82 := szsum_take (xs := a) (k := i) (by omega)
  have z83 := szsum_take_le a (i + 1)
  have z84 := sz_Mon (el a i)
  have e85 : (el a72 i).guests = (el a i).guests := by simp only [e75, e51, e27, hel]
  refine RG.op rfl (S.callX (hd := hdl) (d := 39) o79 (c_laws_markGuestS w (el a72 i).guests ((q1.1, p70).2 i).guests F78 (S.ownw o79) (fun b hb => (S.sep b (o79.sub b hb)).1) k64 (by omega) (by rw [e85]; omega)) (by kernel_rfl) rfl fun ac w N q86 y87 k88 S up o89 c90 x91 b92 b93 => ?_)
  rw [e85] at b93
  obtain ⟨p94, o95⟩ := b81 _ _ _ _ up o89 c90
  clear up o71 o79 s80 b81 o89 c90
  obtain ⟨a96, e97⟩ : ∃ z, z = a72.set i ({ el a72 i with guests := y87 }) := ⟨_, rfl⟩
  rw [← e97] at o95
  have l98 : a96.length = a72.length := by rw [e97]; exact List.length_set
  have e99 : el a96 i = { el a72 i with guests := y87 } := by rw [e97]; exact el_set_self (show i < a72.length by omega)
  have t100 : a96.take i = a72.take i := by rw [e97]; exact take_set_self
  have d101 : a96.drop (i + 1) = a72.drop (i + 1) := by rw [e97]; exact drop_set_self
  clear e97
  refine S.qe 1 [] [(1, .v (I k88))] fun ac w β S => ?_
  refine (nt (ws (rg ?_)))
  refine S.qb 6 [] [(44, .v (slv (el a96 i).outs.length ((q1.1, p94).2 i).outs.1)), (45, .v (I k88))] (.cons (Q_idx o95.rn (l := a.length) (k := i) (i := (i : Int)) (by omega) rfl (by omega) Tryz.underlying28 (by kernel_rfl)) (.cons (qc o95.rn 50 i 4 (slv (el a96 i).outs.length ((q1.1, p94).2 i).outs.1)) .nil)) fun ac w β S => ?_
  obtain ⟨F102, o103, s104, b105⟩ := foc_Mon_outs o95 (k := i) (show i < a96.length by omega)
  have z106 := szsum_take (xs := a) (k := i) (by omega)
  have z107 := szsum_take_le a (i + 1)
  have z108 := sz_Mon (el a i)
  have e109 : (el a96 i).outs = (el a i).outs := by simp only [e99, e75, e51, e27, hel]
  refine RG.op rfl (S.callX (hd := hdl) (d := 46) o103 (c_laws_markIntS w (el a96 i).outs ((q1.1, p94).2 i).outs F102 (S.ownw o103) (fun b hb => (S.sep b (o103.sub b hb)).1) k88 (by omega) (by rw [e109]; omega)) (by kernel_rfl) rfl fun ac w N q110 y111 k112 S up o113 c114 x115 b116 b117 => ?_)
  rw [e109] at b117
  obtain ⟨p118, o119⟩ := b105 _ _ _ _ up o113 c114
  clear up o95 o103 s104 b105 o113 c114
  obtain ⟨a120, e121⟩ : ∃ z, z = a96.set i ({ el a96 i with outs := y111 }) := ⟨_, rfl⟩
  rw [← e121] at o119
  have l122 : a120.length = a96.length := by rw [e121]; exact List.length_set
  have e123 : el a120 i = { el a96 i with outs := y111 } := by rw [e121]; exact el_set_self (show i < a96.length by omega)
  have t124 : a120.take i = a96.take i := by rw [e121]; exact take_set_self
  have d125 : a120.drop (i + 1) = a96.drop (i + 1) := by rw [e121]; exact drop_set_self
  clear e121
  refine S.qe 1 [] [(1, .v (I k112))] fun ac w β S => ?_
  refine (nt (ws (rg ?_)))
  refine S.qb 5 [] [(49, .v (I k112)), (51, .v (pt q1.1.b (q1.1.off + i * 9 + 5)))] (.cons (Q_idx o119.rn (l := a.length) (k := i) (i := (i : Int)) (by omega) rfl (by omega) Tryz.underlying28 (by kernel_rfl)) .nil) fun ac w β S => ?_
  refine RG.op rfl (S.sF (α := TMon) o119 (t := 3) (k := i) (j := 5) (off := q1.1.off + i * 9 + 5) (v := I k112) (y := ({ el a120 i with pend := k112 } : TMon)) (q := ((q1.1, p118).2 i)) (fun G g_ _ => ⟨G, ows_Mon_pend g_ (⟨by omega, by omega⟩), fun _ h => .inl h⟩) fun w N F127 q128 S up o126 d129 s130 n131 => ?_)
  have s132 : ∀ b, F127 b → F b := fun b h => (s130 b h).elim (hs b) (fun h => False.elim h)
  clear up d129 o119 n131
  obtain ⟨a133, e134⟩ : ∃ z, z = a120.set i ({ el a120 i with pend := k112 }) := ⟨_, rfl⟩
  rw [← e134] at o126
  have l135 : a133.length = a120.length := by rw [e134]; exact List.length_set
  have e136 : el a133 i = { el a120 i with pend := k112 } := by rw [e134]; exact el_set_self (show i < a120.length by omega)
  have t137 : a133.take i = a120.take i := by rw [e134]; exact take_set_self
  have d138 : a133.drop (i + 1) = a120.drop (i + 1) := by rw [e134]; exact drop_set_self
  clear e134
  refine rd (nt (ws (rg ?_)))
  refine S.qg 3 [9, 16, 17, 23, 24, 30, 31, 37, 38, 44, 45, 49, 51] [(1, .v (I (k112 + 1)))] (.cons (qp k112 1) .nil) fun ac w β S => ?_
  refine (nt (ws (rg ?_)))
  refine S.qb 5 [] [(56, .v (I (k112 + 1))), (58, .v (pt q1.1.b (q1.1.off + i * 9 + 6)))] (.cons (Q_idx o126.rn (l := a.length) (k := i) (i := (i : Int)) (by omega) rfl (by omega) Tryz.underlying28 (by kernel_rfl)) .nil) fun ac w β S => ?_
  refine RG.op rfl (S.sF (α := TMon) o126 (t := 3) (k := i) (j := 6) (off := q1.1.off + i * 9 + 6) (v := I (k112 + 1)) (y := ({ el a133 i with traps := (k112 + 1) } : TMon)) (q := ((q1.1, q128).2 i)) (fun G g_ _ => ⟨G, ows_Mon_traps g_ (⟨by omega, by omega⟩), fun _ h => .inl h⟩) fun w N F140 q141 S up o139 d142 s143 n144 => ?_)
  have s145 : ∀ b, F140 b → F b := fun b h => (s143 b h).elim (s132 b) (fun h => False.elim h)
  clear up d142 o126 n144
  obtain ⟨a146, e147⟩ : ∃ z, z = a133.set i ({ el a133 i with traps := (k112 + 1) }) := ⟨_, rfl⟩
  rw [← e147] at o139
  have l148 : a146.length = a133.length := by rw [e147]; exact List.length_set
  have e149 : el a146 i = { el a133 i with traps := (k112 + 1) } := by rw [e147]; exact el_set_self (show i < a133.length by omega)
  have t150 : a146.take i = a133.take i := by rw [e147]; exact take_set_self
  have d151 : a146.drop (i + 1) = a133.drop (i + 1) := by rw [e147]; exact drop_set_self
  clear e147
  refine rd (nt (ws (rg ?_)))
  refine S.qg 3 [] [(1, .v (I ((k112 + 1) + 1)))] (.cons (qp (k112 + 1) 1) .nil) fun ac w β S => ?_
  refine (nt (ws (rg ?_)))
  refine S.qb 6 [] [(65, .v (slv (el a146 i).tables.length ((q1.1, q141).2 i).tables.1)), (66, .v (I ((k112 + 1) + 1)))] (.cons (Q_idx o139.rn (l := a.length) (k := i) (i := (i : Int)) (by omega) rfl (by omega) Tryz.underlying28 (by kernel_rfl)) (.cons (qc o139.rn 51 i 7 (slv (el a146 i).tables.length ((q1.1, q141).2 i).tables.1)) .nil)) fun ac w β S => ?_
  obtain ⟨F152, o153, s154, b155⟩ := foc_Mon_tables o139 (k := i) (show i < a146.length by omega)
  have z156 := szsum_take (xs := a) (k := i) (by omega)
  have z157 := szsum_take_le a (i + 1)
  have z158 := sz_Mon (el a i)
  have e159 : (el a146 i).tables = (el a i).tables := by simp only [e149, e136, e123, e99, e75, e51, e27, hel]
  refine RG.op rfl (S.callX (hd := hdl) (d := 67) o153 (c_laws_markKeptS w (el a146 i).tables ((q1.1, q141).2 i).tables F152 (S.ownw o153) (fun b hb => (S.sep b (o153.sub b hb)).1) ((k112 + 1) + 1) (by omega) (by rw [e159]; omega)) (by kernel_rfl) rfl fun ac w N q160 y161 k162 S up o163 c164 x165 b166 b167 => ?_)
  rw [e159] at b167
  obtain ⟨p168, o169⟩ := b155 _ _ _ _ up o163 c164
  clear up o139 o153 s154 b155 o163 c164
  obtain ⟨a170, e171⟩ : ∃ z, z = a146.set i ({ el a146 i with tables := y161 }) := ⟨_, rfl⟩
  rw [← e171] at o169
  have l172 : a170.length = a146.length := by rw [e171]; exact List.length_set
  have e173 : el a170 i = { el a146 i with tables := y161 } := by rw [e171]; exact el_set_self (show i < a146.length by omega)
  have t174 : a170.take i = a146.take i := by rw [e171]; exact take_set_self
  have d175 : a170.drop (i + 1) = a146.drop (i + 1) := by rw [e171]; exact drop_set_self
  clear e171
  refine S.qe 1 [] [(1, .v (I k162))] fun ac w β S => ?_
  refine (nt (ws (rg ?_)))
  refine S.qb 5 [] [(70, .v (I k162)), (72, .v (pt q1.1.b (q1.1.off + i * 9 + 8)))] (.cons (Q_idx o169.rn (l := a.length) (k := i) (i := (i : Int)) (by omega) rfl (by omega) Tryz.underlying28 (by kernel_rfl)) .nil) fun ac w β S => ?_
  refine RG.op rfl (S.sF (α := TMon) o169 (t := 3) (k := i) (j := 8) (off := q1.1.off + i * 9 + 8) (v := I k162) (y := ({ el a170 i with owned := k162 } : TMon)) (q := ((q1.1, p168).2 i)) (fun G g_ _ => ⟨G, ows_Mon_owned g_ (⟨by omega, by omega⟩), fun _ h => .inl h⟩) fun w N F177 q178 S up o176 d179 s180 n181 => ?_)
  have s182 : ∀ b, F177 b → F b := fun b h => (s180 b h).elim (s145 b) (fun h => False.elim h)
  clear up d179 o169 n181
  obtain ⟨a183, e184⟩ : ∃ z, z = a170.set i ({ el a170 i with owned := k162 }) := ⟨_, rfl⟩
  rw [← e184] at o176
  have l185 : a183.length = a170.length := by rw [e184]; exact List.length_set
  have e186 : el a183 i = { el a170 i with owned := k162 } := by rw [e184]; exact el_set_self (show i < a170.length by omega)
  have t187 : a183.take i = a170.take i := by rw [e184]; exact take_set_self
  have d188 : a183.drop (i + 1) = a170.drop (i + 1) := by rw [e184]; exact drop_set_self
  clear e184
  refine rd (nt (rg ?_))
  refine S.qg 3 [] [(1, .v (I (k162 + 1)))] (.cons (qp k162 1) .nil) fun ac w β S => ?_
  refine (nb (nt (rg ?_)))
  refine S.qg 3 [] [(5, .v (I ((i : Int) + 1)))] (.cons (qp (i : Int) 1) .nil) fun ac w β S => ?_
  refine (nt ?_)
  refine ⟨a.length - (i + 1), by omega, i + 1, a183, (k162 + 1), (q1.1, q178), F177, _, _, _, rfl, ?_, ?_, ?_, ?_, ?_, ?_, S.z, o176, hq, s182⟩
  ·exact oz
  ·clear S; omega
  ·clear S; refine mk_step (acc := a183) (by omega) (by intro f; rw [t187, t174, t150, t137, t124, t100, t76, t52, t28]; exact hM f) ?_; intro f; simp (disch := first | omega | rfl) only [he_list, he_Mon, e186, e173, e149, e136, e123, e99, e75, e51, e27, x19, x43, x67, x91, x115, x165, hdc_pos, hdi_eq, hdb_eq]
  ·clear S; rw [d188, d175, d151, d138, d125, d101, d77, d53, d29]; exact drop_more hD
  ·clear S; omega
  ·clear S; omega
 have g189 := of_decide_eq_false h4
 refine wp_exit (ex_then (ex_then (ex_hit (nt (ws (rg ?_))))))
 refine S.qe 2 [] [(4, .v (I j))] fun ac w β S => ?_
 refine (nt (wr (S.r [I j] ?_)))
 have hyd : hdl acc k = j := by clear S; exact mk_end (by omega) hM
 have hyb : k ≤ j ∧ j ≤ k + 16 * ((SZ.sz a : Nat) : Int) := by clear S; have hs2 := szsum_take_le a i; constructor <;> omega
 exact retX_of S hyd hyb.1 hyb.2 (by show [slv _ _] = [slv _ _]; rw [hl, hq]) o3 hs

theorem c_laws_markEntryS (w0 : World) (a : List TEntry) (pa : LP TEntry) (F : Bl) (ha : GT.own KK F w0 a pa) (hF : ∀ b, F b → b < w0.heap.size) (k : Int) (pre0 : 0 ≤ k) (pre1 : k + 16 * (SZ.sz a : Int) ≤ 4611686018427387904) : Calls Tryz.prog 41 [slv a.length pa.1, I k].toArray w0 (RetX hdl F w0 pa a k) := by
 refine Calls.walk F Tryz.func41 rfl rfl ?_
 intro ac β S
 have oa : Ow w0 F w0 (Lt w0.heap.size) F a pa := ⟨ha, hF, fun b hb => .inr hb⟩
 have hz := szl_TEntry a
 have hlea : a.length ≤ 4194304 := LOwn.le ha
 refine ws (rg ?_)
 refine S.qe 1 [] [] fun ac w β S => ?_
 refine (nt (ws (ws (rg ?_))))
 refine S.qe 1 [] [(5, .v (I 0))] fun ac w β S => ?_
 refine (nt (wp_block ?_))
 refine wp_loop_down (fun mm ac w => ∃ (i : Nat) (acc : List TEntry) (j : Int) (q1 : _) (F2 : _) (u : _) (N : _) (β : _), mm = a.length - i ∧ (i ≤ a.length) ∧ (acc = f_marksEntry i k ++ a.drop i) ∧ (j = k + 4 * (i : Int)) ∧ St Tryz.prog Tryz.f41.ntmps w0 F u N β ⟨[(0, .v (slv a.length q1.1)), (1, .v (I j)), (5, .v (I (i : Int)))], []⟩ ac w ∧ Ow w0 F u N F2 acc q1 ∧ q1.1 = pa.1 ∧ (∀ b, F2 b → F b)) _ ⟨0, a, k, pa, F, _, _, _, rfl, o0, (by simp [f_marksEntry]), (by simp), S.z, oa, rfl, (fun _ h => h)⟩ ?_
 clear S oa
 rintro mm ac w ⟨i, acc, j, q1, F2, u, N, β, rfl, hi, hacc, hj, S, o3, hq, hs⟩
 have hlacc : acc.length = a.length := by rw [hacc]; simp [f_marksEntry]; omega
 refine ws (ws (rg ?_))
 refine S.qe 4 [] [(9, .v (B (decide ((i : Int) < (a.length : Int)))))] fun ac w β S => ?_
 refine (nt (S.c (decide ((i : Int) < (a.length : Int))) (fun h4 => ?_) (fun h4 => ?_)))
 ·have g5 := of_decide_eq_true h4
  refine wk (nt (ws (wp_block (ws (rg ?_)))))
  refine S.qb 5 [] [(14, .v (I j)), (16, .v (pt q1.1.b (q1.1.off + i * 4)))] (.cons (Q_idx o3.rn (l := a.length) (k := i) (i := (i : Int)) (by rw [hacc]; simp [f_marksEntry]; omega) rfl (by omega) Tryz.underlying29 (by kernel_rfl)) .nil) fun ac w β S => ?_
  have e6 : REntry (el acc i) := (LRd.el o3.rn i (by omega))
  refine RG.op rfl (S.sF (α := TEntry) o3 (t := 3) (k := i) (j := 0) (off := q1.1.off + i * 4) (v := I j) (y := (⟨j, (el acc i).page, (el acc i).host, (el acc i).rights⟩ : TEntry)) (q := ()) (fun _ _ _ => ⟨NoB, (show REntry (⟨j, (el acc i).page, (el acc i).host, (el acc i).rights⟩ : TEntry) from ⟨(show In64 j from ⟨by omega, by omega⟩), (REntry.page (d := (el acc i)) e6), (REntry.host (d := (el acc i)) e6), (REntry.rights (d := (el acc i)) e6)⟩), fun _ h => False.elim h⟩) fun w N F8 q9 S up o7 d10 s11 n12 => ?_)
  have s13 : ∀ b, F8 b → F b := fun b h => (s11 b h).elim (hs b) (fun h => False.elim h)
  clear up d10 o3 n12
  have l14 : (acc.set i (⟨j, (el acc i).page, (el acc i).host, (el acc i).rights⟩ : TEntry)).length = acc.length := List.length_set
  refine rd (nt (ws (rg ?_)))
  refine S.qg 3 [] [(1, .v (I (j + 1)))] (.cons (qp j 1) .nil) fun ac w β S => ?_
  refine (nt (ws (rg ?_)))
  refine S.qb 5 [] [(21, .v (I (j + 1))), (23, .v (pt q1.1.b (q1.1.off + i * 4 + 1)))] (.cons (Q_idx o7.rn (l := a.length) (k := i) (i := (i : Int)) (by rw [List.length_set]; exact (by rw [hacc]; simp [f_marksEntry]; omega)) rfl (by omega) Tryz.underlying29 (by kernel_rfl)) .nil) fun ac w β S => ?_
  refine RG.op rfl (S.setEl (α := TEntry) o7 (t := 3) (v := I (j + 1)) (k := i) (j := 1) (off := q1.1.off + i * 4 + 1) (y := (⟨j, (j + 1), (el acc i).host, (el acc i).rights⟩ : TEntry)) (q := ()) (Fy := NoB) (by kernel_rfl) (by kernel_rfl) (by omega) (by kernel_rfl) (by kernel_rfl) (Nat.le_of_ble_eq_true (by kernel_rfl)) (by rw [el_set_self (show i < acc.length by omega)]; kernel_rfl) (fun _ _ _ => ⟨NoB, (show REntry (⟨j, (j + 1), (el acc i).host, (el acc i).rights⟩ : TEntry) from ⟨(show In64 j from ⟨by omega, by omega⟩), (show In64 (j + 1) from ⟨by omega, by omega⟩), (REntry.host (d := (el acc i)) e6), (REntry.rights (d := (el acc i)) e6)⟩), fun _ h => False.elim h⟩) (fun b _ h => False.elim h) (fun b h => False.elim h) (fun b h => False.elim h) fun w N F16 q17 S up o15 d18 s19 n20 => ?_)
  have s21 : ∀ b, F16 b → F b := fun b h => (s19 b h).elim (s13 b) (fun h => False.elim h)
  clear up d18 o7 n20
  rw [List.set_set] at o15
  have l22 : (acc.set i (⟨j, (j + 1), (el acc i).host, (el acc i).rights⟩ : TEntry)).length = acc.length := List.length_set
  refine rd (nt (ws (rg ?_)))
  refine S.qg 3 [] [(1, .v (I ((j + 1) + 1)))] (.cons (qp (j + 1) 1) .nil) fun ac w β S => ?_
  refine (nt (ws (rg ?_)))
  refine S.qb 5 [] [(28, .v (I ((j + 1) + 1))), (30, .v (pt q1.1.b (q1.1.off + i * 4 + 2)))] (.cons (Q_idx o15.rn (l := a.length) (k := i) (i := (i : Int)) (by rw [List.length_set]; exact (by rw [hacc]; simp [f_marksEntry]; omega)) rfl (by omega) Tryz.underlying29 (by kernel_rfl)) .nil) fun ac w β S => ?_
  refine RG.op rfl (S.setEl (α := TEntry) o15 (t := 3) (v := I ((j + 1) + 1)) (k := i) (j := 2) (off := q1.1.off + i * 4 + 2) (y := (⟨j, (j + 1), ((j + 1) + 1), (el acc i).rights⟩ : TEntry)) (q := ()) (Fy := NoB) (by kernel_rfl) (by kernel_rfl) (by omega) (by kernel_rfl) (by kernel_rfl) (Nat.le_of_ble_eq_true (by kernel_rfl)) (by rw [el_set_self (show i < acc.length by omega)]; kernel_rfl) (fun _ _ _ => ⟨NoB, (show REntry (⟨j, (j + 1), ((j + 1) + 1), (el acc i).rights⟩ : TEntry) from ⟨(show In64 j from ⟨by omega, by omega⟩), (show In64 (j + 1) from ⟨by omega, by omega⟩), (show In64 ((j + 1) + 1) from ⟨by omega, by omega⟩), (REntry.rights (d := (el acc i)) e6)⟩), fun _ h => False.elim h⟩) (fun b _ h => False.elim h) (fun b h => False.elim h) (fun b h => False.elim h) fun w N F24 q25 S up o23 d26 s27 n28 => ?_)
  have s29 : ∀ b, F24 b → F b := fun b h => (s27 b h).elim (s21 b) (fun h => False.elim h)
  clear up d26 o15 n28
  rw [List.set_set] at o23
  have l30 : (acc.set i (⟨j, (j + 1), ((j + 1) + 1), (el acc i).rights⟩ : TEntry)).length = acc.length := List.length_set
  refine rd (nt (ws (rg ?_)))
  refine S.qg 3 [] [(1, .v (I (((j + 1) + 1) + 1)))] (.cons (qp ((j + 1) + 1) 1) .nil) fun ac w β S => ?_
  refine (nt (ws (rg ?_)))
  refine S.qb 5 [] [(35, .v (I (((j + 1) + 1) + 1))), (37, .v (pt q1.1.b (q1.1.off + i * 4 + 3)))] (.cons (Q_idx o23.rn (l := a.length) (k := i) (i := (i : Int)) (by rw [List.length_set]; exact (by rw [hacc]; simp [f_marksEntry]; omega)) rfl (by omega) Tryz.underlying29 (by kernel_rfl)) .nil) fun ac w β S => ?_
  refine RG.op rfl (S.setEl (α := TEntry) o23 (t := 3) (v := I (((j + 1) + 1) + 1)) (k := i) (j := 3) (off := q1.1.off + i * 4 + 3) (y := (⟨j, (j + 1), ((j + 1) + 1), (((j + 1) + 1) + 1)⟩ : TEntry)) (q := ()) (Fy := NoB) (by kernel_rfl) (by kernel_rfl) (by omega) (by kernel_rfl) (by kernel_rfl) (Nat.le_of_ble_eq_true (by kernel_rfl)) (by rw [el_set_self (show i < acc.length by omega)]; kernel_rfl) (fun _ _ _ => ⟨NoB, (show REntry (⟨j, (j + 1), ((j + 1) + 1), (((j + 1) + 1) + 1)⟩ : TEntry) from ⟨(show In64 j from ⟨by omega, by omega⟩), (show In64 (j + 1) from ⟨by omega, by omega⟩), (show In64 ((j + 1) + 1) from ⟨by omega, by omega⟩), (show In64 (((j + 1) + 1) + 1) from ⟨by omega, by omega⟩)⟩), fun _ h => False.elim h⟩) (fun b _ h => False.elim h) (fun b h => False.elim h) (fun b h => False.elim h) fun w N F32 q33 S up o31 d34 s35 n36 => ?_)
  have s37 : ∀ b, F32 b → F b := fun b h => (s35 b h).elim (s29 b) (fun h => False.elim h)
  clear up d34 o23 n36
  rw [List.set_set] at o31
  have l38 : (acc.set i (⟨j, (j + 1), ((j + 1) + 1), (((j + 1) + 1) + 1)⟩ : TEntry)).length = acc.length := List.length_set
  refine rd (nt (rg ?_))
  refine S.qg 3 [] [(1, .v (I ((((j + 1) + 1) + 1) + 1)))] (.cons (qp (((j + 1) + 1) + 1) 1) .nil) fun ac w β S => ?_
  refine (nb (nt (rg ?_)))
  refine S.qg 3 [] [(5, .v (I ((i : Int) + 1)))] (.cons (qp (i : Int) 1) .nil) fun ac w β S => ?_
  refine (nt ?_)
  refine ⟨a.length - (i + 1), by omega, i + 1, (acc.set i (⟨j, (j + 1), ((j + 1) + 1), (((j + 1) + 1) + 1)⟩ : TEntry)), ((((j + 1) + 1) + 1) + 1), (q1.1, q33), F32, _, _, _, rfl, ?_, ?_, ?_, S.z, o31, hq, s37⟩
  ·exact oz
  ·clear S; (have hlt : i < acc.length := (by omega)); rw [hacc, ← marksEntry_step (by omega) hj]; (first | rfl | (simp [g_markEntry, Int.add_assoc]; done))
  ·clear S; omega
 have g39 := of_decide_eq_false h4
 refine wp_exit (ex_then (ex_then (ex_hit (nt (ws (rg ?_))))))
 refine S.qe 2 [] [(4, .v (I j))] fun ac w β S => ?_
 refine (nt (wr (S.r [I j] ?_)))
 have hyd : hdl acc k = j := by clear S; (have e : i = a.length := (by omega)); subst e; rw [hacc, List.drop_length, List.append_nil, hj]; exact hd_marksEntry k (by omega) _ (by omega) id
 have hyb : k ≤ j ∧ j ≤ k + 16 * ((SZ.sz a : Nat) : Int) := by clear S; skip; constructor <;> omega
 exact retX_of S hyd hyb.1 hyb.2 (by show [slv _ _] = [slv _ _]; rw [hlacc, hq]) o3 hs

theorem c_laws_markHost (w0 : World) (a : THost) (pa : PHost) (F : Bl) (ha : GT.own KK F w0 a pa) (hF : ∀ b, F b → b < w0.heap.size) (k : Int) (pre0 : 0 ≤ k) (pre1 : k + 16 * (SZ.sz a : Int) ≤ 4611686018427387904) : Calls Tryz.prog 13 [GT.val a pa, I k].toArray w0 (RetX hdT_Host F w0 pa a k) := by
 refine Calls.walk F Tryz.func13 rfl rfl ?_
 intro ac β S
 have oa : Ow w0 F w0 (Lt w0.heap.size) F a pa := ⟨ha, hF, fun b hb => .inr hb⟩
 obtain ⟨F1, F4, F7, F10, o2, o5, o8, o11, s3, s6, s9, s12, d13, d14, d15, d16, d17, d18⟩ := sp_Host oa
 have hz := sz_Host a
 refine ws (rg ?_)
 refine S.qem 2 [] [(2, .p 0 0)] 1 [(0, [slv a.mem.length pa.mem.1, slv a.mons.length pa.mons.1, slv a.buf.length pa.buf.1, slv a.iobuf.length pa.iobuf.1])] fun ac w β S => ?_
 refine (nt (ws (rg ?_)))
 refine S.qa 3 [] [(6, .v (slv a.mem.length pa.mem.1)), (7, .v (I k))] fun ac w β S => ?_
 refine RG.op rfl (S.callX (hd := hdl) (d := 8) o2 (c_laws_markIntSS w a.mem pa.mem F1 (S.ownw o2) (fun b hb => (S.sep b (o2.sub b hb)).1) k (by omega) (by omega)) (by kernel_rfl) rfl fun ac w N q19 y20 k21 S up o22 c23 x24 b25 b26 => ?_)
 replace o5 := o5.upF (Disj.symm d13) up
 replace o8 := o8.upF (Disj.symm d14) up
 replace o11 := o11.upF (Disj.symm d15) up
 clear up
 refine S.qe 1 [] [(1, .v (I k21))] fun ac w β S => ?_
 refine (nt (ws (rg ?_)))
 refine S.qa 3 [] [(10, .v (slv a.mons.length pa.mons.1)), (11, .v (I k21))] fun ac w β S => ?_
 refine RG.op rfl (S.callX (hd := hdl) (d := 12) o5 (c_laws_markMonS w a.mons pa.mons F4 (S.ownw o5) (fun b hb => (S.sep b (o5.sub b hb)).1) k21 (by omega) (by omega)) (by kernel_rfl) rfl fun ac w N q27 y28 k29 S up o30 c31 x32 b33 b34 => ?_)
 replace o8 := o8.upF (Disj.symm d16) up
 replace o11 := o11.upF (Disj.symm d17) up
 replace o22 := o22.upF (Disj.symm (Disj.symm d13)) up
 clear up
 refine S.qe 1 [] [(1, .v (I k29))] fun ac w β S => ?_
 refine (nt (ws (rg ?_)))
 refine S.qa 3 [] [(14, .v (slv a.buf.length pa.buf.1)), (15, .v (I k29))] fun ac w β S => ?_
 refine RG.op rfl (S.callX (hd := hdl) (d := 16) o8 (c_laws_markEntryS w a.buf pa.buf F7 (S.ownw o8) (fun b hb => (S.sep b (o8.sub b hb)).1) k29 (by omega) (by omega)) (by kernel_rfl) rfl fun ac w N q35 y36 k37 S up o38 c39 x40 b41 b42 => ?_)
 replace o11 := o11.upF (Disj.symm d18) up
 replace o22 := o22.upF (Disj.symm (Disj.symm d14)) up
 replace o30 := o30.upF (Disj.symm (Disj.symm d16)) up
 clear up
 refine S.qe 1 [] [(1, .v (I k37))] fun ac w β S => ?_
 refine (nt (ws (rg ?_)))
 refine S.qam 3 [] [(18, .v (slv a.iobuf.length pa.iobuf.1)), (19, .v (I k37))] 0 [] fun ac w β S => ?_
 refine RG.op rfl (S.callX (hd := hdl) (d := 20) o11 (c_laws_markEntryS w a.iobuf pa.iobuf F10 (S.ownw o11) (fun b hb => (S.sep b (o11.sub b hb)).1) k37 (by omega) (by omega)) (by kernel_rfl) rfl fun ac w N q43 y44 k45 S up o46 c47 x48 b49 b50 => ?_)
 replace o22 := o22.upF (Disj.symm (Disj.symm d15)) up
 replace o30 := o30.upF (Disj.symm (Disj.symm d17)) up
 replace o38 := o38.upF (Disj.symm (Disj.symm d18)) up
 clear up
 refine S.qe 1 [] [(1, .v (I k45))] fun ac w β S => ?_
 refine (nt (ws (rg ?_)))
 refine S.qe 2 [] [(4, .v (I k45))] fun ac w β S => ?_
 refine (nt (wr (S.r [I k45] ?_)))
 have o51 := ow_Host (x := (⟨y20, y28, y36, y44⟩ : THost)) (p := (⟨q19, q27, q35, q43⟩ : PHost)) o22 o30 o38 o46 (Disj.symm (Disj.symm d13)) (Disj.symm (Disj.symm d14)) (Disj.symm (Disj.symm d15)) (Disj.symm (Disj.symm d16)) (Disj.symm (Disj.symm d17)) (Disj.symm (Disj.symm d18)) 
 have hcc := cc_Host (x := (⟨y20, y28, y36, y44⟩ : THost)) (y := a) (p := (⟨q19, q27, q35, q43⟩ : PHost)) (q := pa) c23 c31 c39 c47 
 have hsz := sz_Host a
 have hyd : hdT_Host (⟨y20, y28, y36, y44⟩ : THost) k = k45 := by clear S; simp (disch := omega) only [hdT_Host, x24, x32, x40, x48, hdc_pos]
 have hyb : k ≤ k45 ∧ k45 ≤ k + 16 * ((SZ.sz a : Nat) : Int) := by clear S; constructor <;> omega
 exact retX_of S hyd hyb.1 hyb.2 hcc o51 (uni_all fun G hG => by simp only [List.mem_cons, List.not_mem_nil, or_false] at hG; rcases hG with rfl | rfl | rfl | rfl <;> assumption)

theorem k0_laws_heldIntS {p : Prop} (h : p := by clear S; (first | (rw [hr, hd_end (by omega)]; done) | (rw [hr, hd_step (by omega)]; simp [he_Int, w1, hdi, hdb, hdc, *]; done) | (rw [hr, hd_step (by omega)]; simp_all [he_Int, w1, hdi, hdb, hdc]; done))) : p := h
theorem c_laws_heldIntS (w0 : World) (a : List Int) (pa : LP Int) (ha : RD w0 a pa) (k : Int) : Calls Tryz.prog 82 [slv a.length pa.1, I k].toArray w0 (fun e w' => e = .returned (I (hdl a k)) ∧ Chg NoB w0 w') := by
 refine Calls.walk NoB Tryz.func82 rfl rfl ?_
 intro ac β S
 have hlea : a.length ≤ 4194304 := LRd.le ha
 refine ws (rg ?_)
 refine S.qe 1 [] [] fun ac w β S => ?_
 refine (nt (ws (ws (rg ?_))))
 refine S.qe 1 [] [(5, .v (I 0))] fun ac w β S => ?_
 refine (nt (wp_block ?_))
 refine wp_loop_down (fun mm ac w => ∃ (i : Nat) (j : Int)  (u : _) (N : _) (β : _), mm = a.length - i ∧ (i ≤ a.length) ∧ (hdl a k = hdlc (a.drop i) j id) ∧ St Tryz.prog Tryz.f82.ntmps w0 NoB u N β ⟨[(0, .v (slv a.length pa.1)), (1, .v (I j)), (5, .v (I (i : Int)))], []⟩ ac w) _ ⟨0, k, _, _, _, rfl, o0, (by rfl), S.z⟩ ?_
 clear S
 rintro mm ac w ⟨i, j, u, N, β, rfl, hi, hr, S⟩
 refine ws (ws (rg ?_))
 refine S.qe 4 [] [(9, .v (B (decide ((i : Int) < (a.length : Int)))))] fun ac w β S => ?_
 refine (nt (S.c (decide ((i : Int) < (a.length : Int))) (fun h1 => ?_) (fun h1 => ?_)))
 ·have g2 := of_decide_eq_true h1
  refine wk (nt (ws (wp_block (ws (ws (rg ?_))))))
  refine S.qg 6 [] [(17, .v (B ((el a i) != j)))] (.cons (qn (S.arg ha) i Tryz.underlying50) (.cons (qx (S.arg ha) 3 i) .nil)) fun ac w β S => ?_
  refine (nt (S.c ((el a i) != j) (fun h3 => ?_) (fun h3 => ?_)))
  ·have g4 : ¬ ((el a i) = j) := bne_iff_ne.1 h3
   refine ws (rg ?_)
   refine S.qe 1 [] [(4, .v (I (-1)))] fun ac w β S => ?_
   exact (nt (wr (rt (rb (rt (rt (rb (rt (S.r [I (-1)] ⟨retI k0_laws_heldIntS, S.chg⟩)))))))))
  have g5 : (el a i) = j := ne_f h3
  refine wk (nt (rg ?_))
  refine S.qg 3 [] [(1, .v (I (w1 j)))] (.cons (Q_addw (x := j) (y := 1)) .nil) fun ac w β S => ?_
  refine (nb (nt (rg ?_)))
  refine S.qg 3 [] [(5, .v (I ((i : Int) + 1)))] (.cons (qp (i : Int) 1) .nil) fun ac w β S => ?_
  refine (nt ?_)
  refine ⟨a.length - (i + 1), by omega, i + 1, (w1 j), _, _, _, rfl, ?_, ?_, S.z⟩
  ·exact oz
  ·clear S; (rw [hr, hd_step (by omega)]; simp [he_Int, w1, hdi, hdb, hdc, *])
 have g6 := of_decide_eq_false h1
 refine wp_exit (ex_then (ex_then (ex_hit (nt (ws (rg ?_))))))
 refine S.qe 2 [] [(4, .v (I j))] fun ac w β S => ?_
 exact (nt (wr (S.r [I j] ⟨retI k0_laws_heldIntS, S.chg⟩)))

theorem k0_laws_heldIntSS {p : Prop} (h : p := by clear S; (first | (rw [hr, hd_end (by omega)]; done) | (rw [hr, hd_step (by omega)]; simp [he_list, w1, hdi, hdb, hdc, *]; done) | (rw [hr, hd_step (by omega)]; simp_all [he_list, w1, hdi, hdb, hdc]; done))) : p := h
theorem c_laws_heldIntSS (w0 : World) (a : List (List Int)) (pa : LP (List Int)) (ha : RD w0 a pa) (k : Int) : Calls Tryz.prog 42 [slv a.length pa.1, I k].toArray w0 (fun e w' => e = .returned (I (hdl a k)) ∧ Chg NoB w0 w') := by
 refine Calls.walk NoB Tryz.func42 rfl rfl ?_
 intro ac β S
 have hlea : a.length ≤ 4194304 := LRd.le ha
 refine ws (rg ?_)
 refine S.qe 1 [] [] fun ac w β S => ?_
 refine (nt (ws (ws (rg ?_))))
 refine S.qe 1 [] [(5, .v (I 0))] fun ac w β S => ?_
 refine (nt (wp_block ?_))
 refine wp_loop_down (fun mm ac w => ∃ (i : Nat) (j : Int)  (u : _) (N : _) (β : _), mm = a.length - i ∧ (i ≤ a.length) ∧ (hdl a k = hdlc (a.drop i) j id) ∧ St Tryz.prog Tryz.f42.ntmps w0 NoB u N β ⟨[(0, .v (slv a.length pa.1)), (1, .v (I j)), (5, .v (I (i : Int)))], []⟩ ac w) _ ⟨0, k, _, _, _, rfl, o0, (by rfl), S.z⟩ ?_
 clear S
 rintro mm ac w ⟨i, j, u, N, β, rfl, hi, hr, S⟩
 refine ws (ws (rg ?_))
 refine S.qe 4 [] [(9, .v (B (decide ((i : Int) < (a.length : Int)))))] fun ac w β S => ?_
 refine (nt (S.c (decide ((i : Int) < (a.length : Int))) (fun h1 => ?_) (fun h1 => ?_)))
 ·have g2 := of_decide_eq_true h1
  refine wk (nt (ws (wp_block (ws (rg ?_)))))
  refine S.qg 7 [] [(1, .v (I (hdl (el a i) j)))] (.cons (qn (S.arg ha) i Tryz.underlying22) (.cons (qx (S.arg ha) 50 i) (.cons (Q_call fun w hw => c_laws_heldIntS w (el a i) (pa.2 i) (rd_of (LRd.el (S.arg ha) i (by omega)) hw) j) .nil))) fun ac w β S => ?_
  refine (nt (ws (rg ?_)))
  refine S.qe 2 [] [(19, .v (B (decide ((hdl (el a i) j) < 0))))] fun ac w β S => ?_
  refine (nt (S.c (decide ((hdl (el a i) j) < 0)) (fun h3 => ?_) (fun h3 => ?_)))
  ·have g4 := of_decide_eq_true h3
   refine ws (rg ?_)
   refine S.qe 1 [] [(4, .v (I (-1)))] fun ac w β S => ?_
   exact (nt (wr (rb (rt (rt (rb (rt (S.r [I (-1)] ⟨retI k0_laws_heldIntSS, S.chg⟩))))))))
  have g5 := of_decide_eq_false h3
  refine wk (nb (nt (rg ?_)))
  refine S.qg 3 [] [(5, .v (I ((i : Int) + 1)))] (.cons (qp (i : Int) 1) .nil) fun ac w β S => ?_
  refine (nt ?_)
  refine ⟨a.length - (i + 1), by omega, i + 1, (hdl (el a i) j), _, _, _, rfl, ?_, ?_, S.z⟩
  ·exact oz
  ·clear S; (rw [hr, hd_step (by omega)]; simp [he_list, w1, hdi, hdb, hdc, *])
 have g6 := of_decide_eq_false h1
 refine wp_exit (ex_then (ex_then (ex_hit (nt (ws (rg ?_))))))
 refine S.qe 2 [] [(4, .v (I j))] fun ac w β S => ?_
 exact (nt (wr (S.r [I j] ⟨retI k0_laws_heldIntSS, S.chg⟩)))

theorem k0_laws_heldSlotS {p : Prop} (h : p := by clear S; (first | (rw [hr, hd_end (by omega)]; done) | (rw [hr, hd_step (by omega)]; simp [he_Slot, w1, hdi, hdb, hdc, *]; done) | (rw [hr, hd_step (by omega)]; simp_all [he_Slot, w1, hdi, hdb, hdc]; done))) : p := h
theorem c_laws_heldSlotS (w0 : World) (a : List TSlot) (pa : LP TSlot) (ha : RD w0 a pa) (k : Int) : Calls Tryz.prog 83 [slv a.length pa.1, I k].toArray w0 (fun e w' => e = .returned (I (hdl a k)) ∧ Chg NoB w0 w') := by
 refine Calls.walk NoB Tryz.func83 rfl rfl ?_
 intro ac β S
 have hlea : a.length ≤ 4194304 := LRd.le ha
 refine ws (rg ?_)
 refine S.qe 1 [] [] fun ac w β S => ?_
 refine (nt (ws (ws (rg ?_))))
 refine S.qe 1 [] [(5, .v (I 0))] fun ac w β S => ?_
 refine (nt (wp_block ?_))
 refine wp_loop_down (fun mm ac w => ∃ (i : Nat) (j : Int)  (u : _) (N : _) (β : _), mm = a.length - i ∧ (i ≤ a.length) ∧ (hdl a k = hdlc (a.drop i) j id) ∧ St Tryz.prog Tryz.f83.ntmps w0 NoB u N β ⟨[(0, .v (slv a.length pa.1)), (1, .v (I j)), (5, .v (I (i : Int)))], []⟩ ac w) _ ⟨0, k, _, _, _, rfl, o0, (by rfl), S.z⟩ ?_
 clear S
 rintro mm ac w ⟨i, j, u, N, β, rfl, hi, hr, S⟩
 refine ws (ws (rg ?_))
 refine S.qe 4 [] [(9, .v (B (decide ((i : Int) < (a.length : Int)))))] fun ac w β S => ?_
 refine (nt (S.c (decide ((i : Int) < (a.length : Int))) (fun h1 => ?_) (fun h1 => ?_)))
 ·have g2 := of_decide_eq_true h1
  refine wk (nt (ws (wp_block (ws (ws (rg ?_))))))
  refine S.qg 7 [] [(18, .v (B ((el a i).page != j)))] (.cons (qn (S.arg ha) i Tryz.underlying47) (.cons (qc (S.arg ha) 3 i 0 (I (el a i).page)) .nil)) fun ac w β S => ?_
  refine (nt (S.c ((el a i).page != j) (fun h3 => ?_) (fun h3 => ?_)))
  ·have g4 : ¬ ((el a i).page = j) := bne_iff_ne.1 h3
   refine ws (rg ?_)
   refine S.qe 1 [] [(4, .v (I (-1)))] fun ac w β S => ?_
   exact (nt (wr (rt (rb (rt (rt (rb (rt (S.r [I (-1)] ⟨retI k0_laws_heldSlotS, S.chg⟩)))))))))
  have g5 : (el a i).page = j := ne_f h3
  refine wk (nt (ws (rg ?_)))
  refine S.qg 3 [] [(1, .v (I (w1 j)))] (.cons (Q_addw (x := j) (y := 1)) .nil) fun ac w β S => ?_
  refine (nt (ws (ws (rg ?_))))
  refine S.qg 7 [] [(27, .v (B ((el a i).rights != (w1 j))))] (.cons (qn (S.arg ha) i Tryz.underlying47) (.cons (qc (S.arg ha) 3 i 1 (I (el a i).rights)) .nil)) fun ac w β S => ?_
  refine (nt (S.c ((el a i).rights != (w1 j)) (fun h6 => ?_) (fun h6 => ?_)))
  ·have g7 : ¬ ((el a i).rights = (w1 j)) := bne_iff_ne.1 h6
   refine ws (rg ?_)
   refine S.qe 1 [] [(4, .v (I (-1)))] fun ac w β S => ?_
   exact (nt (wr (rt (rb (rt (rt (rb (rt (S.r [I (-1)] ⟨retI k0_laws_heldSlotS, S.chg⟩)))))))))
  have g8 : (el a i).rights = (w1 j) := ne_f h6
  refine wk (nt (rg ?_))
  refine S.qg 3 [] [(1, .v (I (w1 (w1 j))))] (.cons (Q_addw (x := (w1 j)) (y := 1)) .nil) fun ac w β S => ?_
  refine (nb (nt (rg ?_)))
  refine S.qg 3 [] [(5, .v (I ((i : Int) + 1)))] (.cons (qp (i : Int) 1) .nil) fun ac w β S => ?_
  refine (nt ?_)
  refine ⟨a.length - (i + 1), by omega, i + 1, (w1 (w1 j)), _, _, _, rfl, ?_, ?_, S.z⟩
  ·exact oz
  ·clear S; (rw [hr, hd_step (by omega)]; simp [he_Slot, w1, hdi, hdb, hdc, *])
 have g9 := of_decide_eq_false h1
 refine wp_exit (ex_then (ex_then (ex_hit (nt (ws (rg ?_))))))
 refine S.qe 2 [] [(4, .v (I j))] fun ac w β S => ?_
 exact (nt (wr (S.r [I j] ⟨retI k0_laws_heldSlotS, S.chg⟩)))

theorem k0_laws_heldBoolS {p : Prop} (h : p := by clear S; (first | (rw [hr, hd_end (by omega)]; done) | (rw [hr, hd_step (by omega)]; simp [he_Bool, w1, hdi, hdb, hdc, *]; done) | (rw [hr, hd_step (by omega)]; simp_all [he_Bool, w1, hdi, hdb, hdc]; done))) : p := h
theorem c_laws_heldBoolS (w0 : World) (a : List Bool) (pa : LP Bool) (ha : RD w0 a pa) (k : Int) : Calls Tryz.prog 84 [slv a.length pa.1, I k].toArray w0 (fun e w' => e = .returned (I (hdl a k)) ∧ Chg NoB w0 w') := by
 refine Calls.walk NoB Tryz.func84 rfl rfl ?_
 intro ac β S
 have hlea : a.length ≤ 4194304 := LRd.le ha
 refine ws (rg ?_)
 refine S.qe 1 [] [] fun ac w β S => ?_
 refine (nt (ws (ws (rg ?_))))
 refine S.qe 1 [] [(5, .v (I 0))] fun ac w β S => ?_
 refine (nt (wp_block ?_))
 refine wp_loop_down (fun mm ac w => ∃ (i : Nat) (j : Int)  (u : _) (N : _) (β : _), mm = a.length - i ∧ (i ≤ a.length) ∧ (hdl a k = hdlc (a.drop i) j id) ∧ St Tryz.prog Tryz.f84.ntmps w0 NoB u N β ⟨[(0, .v (slv a.length pa.1)), (1, .v (I j)), (5, .v (I (i : Int)))], []⟩ ac w) _ ⟨0, k, _, _, _, rfl, o0, (by rfl), S.z⟩ ?_
 clear S
 rintro mm ac w ⟨i, j, u, N, β, rfl, hi, hr, S⟩
 refine ws (ws (rg ?_))
 refine S.qe 4 [] [(9, .v (B (decide ((i : Int) < (a.length : Int)))))] fun ac w β S => ?_
 refine (nt (S.c (decide ((i : Int) < (a.length : Int))) (fun h1 => ?_) (fun h1 => ?_)))
 ·have g2 := of_decide_eq_true h1
  refine wk (nt (ws (wp_block (ws (ws (rg ?_))))))
  refine S.qg 8 [] [(19, .v (B (!((el a i) == ((Int.tmod j 3) == 0)))))] (.cons (qn (S.arg ha) i Tryz.underlying48) (.cons (qx (S.arg ha) 4 i) (.cons (Q_rem (x := j) (y := 3) (by decide)) .nil))) fun ac w β S => ?_
  refine (nt (S.c (!((el a i) == ((Int.tmod j 3) == 0))) (fun h3 => ?_) (fun h3 => ?_)))
  ·have h4 := not_t h3
   have g5 : ¬ ((el a i) = ((Int.tmod j 3) == 0)) := ne_of_beq_false h4
   refine ws (rg ?_)
   refine S.qe 1 [] [(4, .v (I (-1)))] fun ac w β S => ?_
   exact (nt (wr (rt (rb (rt (rt (rb (rt (S.r [I (-1)] ⟨retI k0_laws_heldBoolS, S.chg⟩)))))))))
  have h6 := not_f h3
  have g7 : (el a i) = ((Int.tmod j 3) == 0) := eq_of_beq h6
  refine wk (nt (rg ?_))
  refine S.qg 3 [] [(1, .v (I (w1 j)))] (.cons (Q_addw (x := j) (y := 1)) .nil) fun ac w β S => ?_
  refine (nb (nt (rg ?_)))
  refine S.qg 3 [] [(5, .v (I ((i : Int) + 1)))] (.cons (qp (i : Int) 1) .nil) fun ac w β S => ?_
  refine (nt ?_)
  refine ⟨a.length - (i + 1), by omega, i + 1, (w1 j), _, _, _, rfl, ?_, ?_, S.z⟩
  ·exact oz
  ·clear S; (rw [hr, hd_step (by omega)]; simp [he_Bool, w1, hdi, hdb, hdc, *])
 have g8 := of_decide_eq_false h1
 refine wp_exit (ex_then (ex_then (ex_hit (nt (ws (rg ?_))))))
 refine S.qe 2 [] [(4, .v (I j))] fun ac w β S => ?_
 exact (nt (wr (S.r [I j] ⟨retI k0_laws_heldBoolS, S.chg⟩)))

theorem k0_laws_heldInsS {p : Prop} (h : p := by clear S; (first | (rw [hr, hd_end (by omega)]; done) | (rw [hr, hd_step (by omega)]; simp [he_Ins, w1, hdi, hdb, hdc, *]; done) | (rw [hr, hd_step (by omega)]; simp_all [he_Ins, w1, hdi, hdb, hdc]; done))) : p := h
theorem c_laws_heldInsS (w0 : World) (a : List TIns) (pa : LP TIns) (ha : RD w0 a pa) (k : Int) : Calls Tryz.prog 132 [slv a.length pa.1, I k].toArray w0 (fun e w' => e = .returned (I (hdl a k)) ∧ Chg NoB w0 w') := by
 refine Calls.walk NoB Tryz.func132 rfl rfl ?_
 intro ac β S
 have hlea : a.length ≤ 4194304 := LRd.le ha
 refine ws (rg ?_)
 refine S.qe 1 [] [] fun ac w β S => ?_
 refine (nt (ws (ws (rg ?_))))
 refine S.qe 1 [] [(5, .v (I 0))] fun ac w β S => ?_
 refine (nt (wp_block ?_))
 refine wp_loop_down (fun mm ac w => ∃ (i : Nat) (j : Int)  (u : _) (N : _) (β : _), mm = a.length - i ∧ (i ≤ a.length) ∧ (hdl a k = hdlc (a.drop i) j id) ∧ St Tryz.prog Tryz.f132.ntmps w0 NoB u N β ⟨[(0, .v (slv a.length pa.1)), (1, .v (I j)), (5, .v (I (i : Int)))], []⟩ ac w) _ ⟨0, k, _, _, _, rfl, o0, (by rfl), S.z⟩ ?_
 clear S
 rintro mm ac w ⟨i, j, u, N, β, rfl, hi, hr, S⟩
 refine ws (ws (rg ?_))
 refine S.qe 4 [] [(9, .v (B (decide ((i : Int) < (a.length : Int)))))] fun ac w β S => ?_
 refine (nt (S.c (decide ((i : Int) < (a.length : Int))) (fun h1 => ?_) (fun h1 => ?_)))
 ·have g2 := of_decide_eq_true h1
  refine wk (nt (ws (wp_block (ws (ws (rg ?_))))))
  refine S.qg 7 [] [(18, .v (B ((el a i).opc != j)))] (.cons (qn (S.arg ha) i Tryz.underlying93) (.cons (qc (S.arg ha) 3 i 0 (I (el a i).opc)) .nil)) fun ac w β S => ?_
  refine (nt (S.c ((el a i).opc != j) (fun h3 => ?_) (fun h3 => ?_)))
  ·have g4 : ¬ ((el a i).opc = j) := bne_iff_ne.1 h3
   refine ws (rg ?_)
   refine S.qe 1 [] [(4, .v (I (-1)))] fun ac w β S => ?_
   exact (nt (wr (rt (rb (rt (rt (rb (rt (S.r [I (-1)] ⟨retI k0_laws_heldInsS, S.chg⟩)))))))))
  have g5 : (el a i).opc = j := ne_f h3
  refine wk (nt (ws (rg ?_)))
  refine S.qg 3 [] [(1, .v (I (w1 j)))] (.cons (Q_addw (x := j) (y := 1)) .nil) fun ac w β S => ?_
  refine (nt (ws (ws (rg ?_))))
  refine S.qg 7 [] [(27, .v (B ((el a i).x != (w1 j))))] (.cons (qn (S.arg ha) i Tryz.underlying93) (.cons (qc (S.arg ha) 3 i 1 (I (el a i).x)) .nil)) fun ac w β S => ?_
  refine (nt (S.c ((el a i).x != (w1 j)) (fun h6 => ?_) (fun h6 => ?_)))
  ·have g7 : ¬ ((el a i).x = (w1 j)) := bne_iff_ne.1 h6
   refine ws (rg ?_)
   refine S.qe 1 [] [(4, .v (I (-1)))] fun ac w β S => ?_
   exact (nt (wr (rt (rb (rt (rt (rb (rt (S.r [I (-1)] ⟨retI k0_laws_heldInsS, S.chg⟩)))))))))
  have g8 : (el a i).x = (w1 j) := ne_f h6
  refine wk (nt (rg ?_))
  refine S.qg 3 [] [(1, .v (I (w1 (w1 j))))] (.cons (Q_addw (x := (w1 j)) (y := 1)) .nil) fun ac w β S => ?_
  refine (nb (nt (rg ?_)))
  refine S.qg 3 [] [(5, .v (I ((i : Int) + 1)))] (.cons (qp (i : Int) 1) .nil) fun ac w β S => ?_
  refine (nt ?_)
  refine ⟨a.length - (i + 1), by omega, i + 1, (w1 (w1 j)), _, _, _, rfl, ?_, ?_, S.z⟩
  ·exact oz
  ·clear S; (rw [hr, hd_step (by omega)]; simp [he_Ins, w1, hdi, hdb, hdc, *])
 have g9 := of_decide_eq_false h1
 refine wp_exit (ex_then (ex_then (ex_hit (nt (ws (rg ?_))))))
 refine S.qe 2 [] [(4, .v (I j))] fun ac w β S => ?_
 exact (nt (wr (S.r [I j] ⟨retI k0_laws_heldInsS, S.chg⟩)))

theorem k0_laws_heldGuestS {p : Prop} (h : p := by clear S; (first | (rw [hr, hd_end (by omega)]; done) | (rw [hr, hd_step (by omega)]; simp [he_Guest, w1, hdi, hdb, hdc, *]; done) | (rw [hr, hd_step (by omega)]; simp_all [he_Guest, w1, hdi, hdb, hdc]; done))) : p := h
theorem c_laws_heldGuestS (w0 : World) (a : List TGuest) (pa : LP TGuest) (ha : RD w0 a pa) (k : Int) : Calls Tryz.prog 85 [slv a.length pa.1, I k].toArray w0 (fun e w' => e = .returned (I (hdl a k)) ∧ Chg NoB w0 w') := by
 refine Calls.walk NoB Tryz.func85 rfl rfl ?_
 intro ac β S
 have hlea : a.length ≤ 4194304 := LRd.le ha
 refine ws (rg ?_)
 refine S.qe 1 [] [] fun ac w β S => ?_
 refine (nt (ws (ws (rg ?_))))
 refine S.qe 1 [] [(5, .v (I 0))] fun ac w β S => ?_
 refine (nt (wp_block ?_))
 refine wp_loop_down (fun mm ac w => ∃ (i : Nat) (j : Int)  (u : _) (N : _) (β : _), mm = a.length - i ∧ (i ≤ a.length) ∧ (hdl a k = hdlc (a.drop i) j id) ∧ St Tryz.prog Tryz.f85.ntmps w0 NoB u N β ⟨[(0, .v (slv a.length pa.1)), (1, .v (I j)), (5, .v (I (i : Int)))], []⟩ ac w) _ ⟨0, k, _, _, _, rfl, o0, (by rfl), S.z⟩ ?_
 clear S
 rintro mm ac w ⟨i, j, u, N, β, rfl, hi, hr, S⟩
 refine ws (ws (rg ?_))
 refine S.qe 4 [] [(9, .v (B (decide ((i : Int) < (a.length : Int)))))] fun ac w β S => ?_
 refine (nt (S.c (decide ((i : Int) < (a.length : Int))) (fun h1 => ?_) (fun h1 => ?_)))
 ·have g2 := of_decide_eq_true h1
  refine wk (nt (ws (wp_block (ws (rg ?_)))))
  refine S.qg 8 [] [(1, .v (I (hdl (el a i).prog j)))] (.cons (qn (S.arg ha) i Tryz.underlying49) (.cons (qc (S.arg ha) 93 i 0 (slv (el a i).prog.length (pa.2 i).prog.1)) (.cons (Q_call fun w hw => c_laws_heldInsS w (el a i).prog (pa.2 i).prog (rd_of (RGuest.prog (d := (el a i)) (LRd.el (S.arg ha) i (by omega))) hw) j) .nil))) fun ac w β S => ?_
  refine (nt (ws (ws (rg ?_))))
  refine S.qe 2 [] [(20, .v (B (decide ((hdl (el a i).prog j) < 0))))] fun ac w β S => ?_
  refine (nt (S.c (decide ((hdl (el a i).prog j) < 0)) (fun h3 => ?_) (fun h3 => ?_)))
  ·have g4 := of_decide_eq_true h3
   refine ws (rg ?_)
   refine S.qe 1 [] [(4, .v (I (-1)))] fun ac w β S => ?_
   exact (nt (wr (rt (rb (rt (rt (rb (rt (S.r [I (-1)] ⟨retI k0_laws_heldGuestS, S.chg⟩)))))))))
  have g5 := of_decide_eq_false h3
  refine wk (nt (ws (ws (rg ?_))))
  refine S.qg 7 [] [(27, .v (B ((el a i).acc != (hdl (el a i).prog j))))] (.cons (qn (S.arg ha) i Tryz.underlying49) (.cons (qc (S.arg ha) 3 i 1 (I (el a i).acc)) .nil)) fun ac w β S => ?_
  refine (nt (S.c ((el a i).acc != (hdl (el a i).prog j)) (fun h6 => ?_) (fun h6 => ?_)))
  ·have g7 : ¬ ((el a i).acc = (hdl (el a i).prog j)) := bne_iff_ne.1 h6
   refine ws (rg ?_)
   refine S.qe 1 [] [(4, .v (I (-1)))] fun ac w β S => ?_
   exact (nt (wr (rt (rb (rt (rt (rb (rt (S.r [I (-1)] ⟨retI k0_laws_heldGuestS, S.chg⟩)))))))))
  have g8 : (el a i).acc = (hdl (el a i).prog j) := ne_f h6
  refine wk (nt (ws (rg ?_)))
  refine S.qg 3 [] [(1, .v (I (w1 (hdl (el a i).prog j))))] (.cons (Q_addw (x := (hdl (el a i).prog j)) (y := 1)) .nil) fun ac w β S => ?_
  refine (nt (ws (ws (rg ?_))))
  refine S.qg 7 [] [(36, .v (B ((el a i).pc != (w1 (hdl (el a i).prog j)))))] (.cons (qn (S.arg ha) i Tryz.underlying49) (.cons (qc (S.arg ha) 3 i 2 (I (el a i).pc)) .nil)) fun ac w β S => ?_
  refine (nt (S.c ((el a i).pc != (w1 (hdl (el a i).prog j))) (fun h9 => ?_) (fun h9 => ?_)))
  ·have g10 : ¬ ((el a i).pc = (w1 (hdl (el a i).prog j))) := bne_iff_ne.1 h9
   refine ws (rg ?_)
   refine S.qe 1 [] [(4, .v (I (-1)))] fun ac w β S => ?_
   exact (nt (wr (rt (rb (rt (rt (rb (rt (S.r [I (-1)] ⟨retI k0_laws_heldGuestS, S.chg⟩)))))))))
  have g11 : (el a i).pc = (w1 (hdl (el a i).prog j)) := ne_f h9
  refine wk (nt (ws (rg ?_)))
  refine S.qg 3 [] [(1, .v (I (w1 (w1 (hdl (el a i).prog j)))))] (.cons (Q_addw (x := (w1 (hdl (el a i).prog j))) (y := 1)) .nil) fun ac w β S => ?_
  refine (nt (ws (rg ?_)))
  refine S.qg 8 [] [(1, .v (I (hdl (el a i).written (w1 (w1 (hdl (el a i).prog j))))))] (.cons (qn (S.arg ha) i Tryz.underlying49) (.cons (qc (S.arg ha) 47 i 3 (slv (el a i).written.length (pa.2 i).written.1)) (.cons (Q_call fun w hw => c_laws_heldSlotS w (el a i).written (pa.2 i).written (rd_of (RGuest.written (d := (el a i)) (LRd.el (S.arg ha) i (by omega))) hw) (w1 (w1 (hdl (el a i).prog j)))) .nil))) fun ac w β S => ?_
  refine (nt (ws (ws (rg ?_))))
  refine S.qe 2 [] [(47, .v (B (decide ((hdl (el a i).written (w1 (w1 (hdl (el a i).prog j)))) < 0))))] fun ac w β S => ?_
  refine (nt (S.c (decide ((hdl (el a i).written (w1 (w1 (hdl (el a i).prog j)))) < 0)) (fun h12 => ?_) (fun h12 => ?_)))
  ·have g13 := of_decide_eq_true h12
   refine ws (rg ?_)
   refine S.qe 1 [] [(4, .v (I (-1)))] fun ac w β S => ?_
   exact (nt (wr (rt (rb (rt (rt (rb (rt (S.r [I (-1)] ⟨retI k0_laws_heldGuestS, S.chg⟩)))))))))
  have g14 := of_decide_eq_false h12
  refine wk (nt (ws (rg ?_)))
  refine S.qg 8 [] [(1, .v (I (hdl (el a i).live (hdl (el a i).written (w1 (w1 (hdl (el a i).prog j)))))))] (.cons (qn (S.arg ha) i Tryz.underlying49) (.cons (qc (S.arg ha) 47 i 4 (slv (el a i).live.length (pa.2 i).live.1)) (.cons (Q_call fun w hw => c_laws_heldSlotS w (el a i).live (pa.2 i).live (rd_of (RGuest.live (d := (el a i)) (LRd.el (S.arg ha) i (by omega))) hw) (hdl (el a i).written (w1 (w1 (hdl (el a i).prog j))))) .nil))) fun ac w β S => ?_
  refine (nt (ws (ws (rg ?_))))
  refine S.qe 2 [] [(56, .v (B (decide ((hdl (el a i).live (hdl (el a i).written (w1 (w1 (hdl (el a i).prog j))))) < 0))))] fun ac w β S => ?_
  refine (nt (S.c (decide ((hdl (el a i).live (hdl (el a i).written (w1 (w1 (hdl (el a i).prog j))))) < 0)) (fun h15 => ?_) (fun h15 => ?_)))
  ·have g16 := of_decide_eq_true h15
   refine ws (rg ?_)
   refine S.qe 1 [] [(4, .v (I (-1)))] fun ac w β S => ?_
   exact (nt (wr (rt (rb (rt (rt (rb (rt (S.r [I (-1)] ⟨retI k0_laws_heldGuestS, S.chg⟩)))))))))
  have g17 := of_decide_eq_false h15
  refine wk (nt (ws (ws (rg ?_))))
  refine S.qg 8 [] [(64, .v (B ((el a i).ctl.traps != (hdl (el a i).live (hdl (el a i).written (w1 (w1 (hdl (el a i).prog j))))))))] (.cons (qn (S.arg ha) i Tryz.underlying49) (.cons (qc (S.arg ha) 3 i 5 (I (el a i).ctl.traps)) .nil)) fun ac w β S => ?_
  refine (nt (S.c ((el a i).ctl.traps != (hdl (el a i).live (hdl (el a i).written (w1 (w1 (hdl (el a i).prog j)))))) (fun h18 => ?_) (fun h18 => ?_)))
  ·have g19 : ¬ ((el a i).ctl.traps = (hdl (el a i).live (hdl (el a i).written (w1 (w1 (hdl (el a i).prog j)))))) := bne_iff_ne.1 h18
   refine ws (rg ?_)
   refine S.qe 1 [] [(4, .v (I (-1)))] fun ac w β S => ?_
   exact (nt (wr (rt (rb (rt (rt (rb (rt (S.r [I (-1)] ⟨retI k0_laws_heldGuestS, S.chg⟩)))))))))
  have g20 : (el a i).ctl.traps = (hdl (el a i).live (hdl (el a i).written (w1 (w1 (hdl (el a i).prog j))))) := ne_f h18
  refine wk (nt (ws (rg ?_)))
  refine S.qg 3 [] [(1, .v (I (w1 (hdl (el a i).live (hdl (el a i).written (w1 (w1 (hdl (el a i).prog j))))))))] (.cons (Q_addw (x := (hdl (el a i).live (hdl (el a i).written (w1 (w1 (hdl (el a i).prog j)))))) (y := 1)) .nil) fun ac w β S => ?_
  refine (nt (ws (ws (rg ?_))))
  refine S.qg 8 [] [(74, .v (B ((el a i).ctl.post != (w1 (hdl (el a i).live (hdl (el a i).written (w1 (w1 (hdl (el a i).prog j)))))))))] (.cons (qn (S.arg ha) i Tryz.underlying49) (.cons (qc (S.arg ha) 3 i 6 (I (el a i).ctl.post)) .nil)) fun ac w β S => ?_
  refine (nt (S.c ((el a i).ctl.post != (w1 (hdl (el a i).live (hdl (el a i).written (w1 (w1 (hdl (el a i).prog j))))))) (fun h21 => ?_) (fun h21 => ?_)))
  ·have g22 : ¬ ((el a i).ctl.post = (w1 (hdl (el a i).live (hdl (el a i).written (w1 (w1 (hdl (el a i).prog j))))))) := bne_iff_ne.1 h21
   refine ws (rg ?_)
   refine S.qe 1 [] [(4, .v (I (-1)))] fun ac w β S => ?_
   exact (nt (wr (rt (rb (rt (rt (rb (rt (S.r [I (-1)] ⟨retI k0_laws_heldGuestS, S.chg⟩)))))))))
  have g23 : (el a i).ctl.post = (w1 (hdl (el a i).live (hdl (el a i).written (w1 (w1 (hdl (el a i).prog j)))))) := ne_f h21
  refine wk (nt (ws (rg ?_)))
  refine S.qg 3 [] [(1, .v (I (w1 (w1 (hdl (el a i).live (hdl (el a i).written (w1 (w1 (hdl (el a i).prog j)))))))))] (.cons (Q_addw (x := (w1 (hdl (el a i).live (hdl (el a i).written (w1 (w1 (hdl (el a i).prog j))))))) (y := 1)) .nil) fun ac w β S => ?_
  refine (nt (ws (ws (rg ?_))))
  refine S.qg 10 [] [(86, .v (B (!((el a i).ctl.opn == ((Int.tmod (w1 (w1 (hdl (el a i).live (hdl (el a i).written (w1 (w1 (hdl (el a i).prog j))))))) 3) == 0)))))] (.cons (qn (S.arg ha) i Tryz.underlying49) (.cons (qc (S.arg ha) 4 i 7 (B (el a i).ctl.opn)) (.cons (Q_rem (x := (w1 (w1 (hdl (el a i).live (hdl (el a i).written (w1 (w1 (hdl (el a i).prog j)))))))) (y := 3) (by decide)) .nil))) fun ac w β S => ?_
  refine (nt (S.c (!((el a i).ctl.opn == ((Int.tmod (w1 (w1 (hdl (el a i).live (hdl (el a i).written (w1 (w1 (hdl (el a i).prog j))))))) 3) == 0))) (fun h24 => ?_) (fun h24 => ?_)))
  ·have h25 := not_t h24
   have g26 : ¬ ((el a i).ctl.opn = ((Int.tmod (w1 (w1 (hdl (el a i).live (hdl (el a i).written (w1 (w1 (hdl (el a i).prog j))))))) 3) == 0)) := ne_of_beq_false h25
   refine ws (rg ?_)
   refine S.qe 1 [] [(4, .v (I (-1)))] fun ac w β S => ?_
   exact (nt (wr (rt (rb (rt (rt (rb (rt (S.r [I (-1)] ⟨retI k0_laws_heldGuestS, S.chg⟩)))))))))
  have h27 := not_f h24
  have g28 : (el a i).ctl.opn = ((Int.tmod (w1 (w1 (hdl (el a i).live (hdl (el a i).written (w1 (w1 (hdl (el a i).prog j))))))) 3) == 0) := eq_of_beq h27
  refine wk (nt (ws (rg ?_)))
  refine S.qg 3 [] [(1, .v (I (w1 (w1 (w1 (hdl (el a i).live (hdl (el a i).written (w1 (w1 (hdl (el a i).prog j))))))))))] (.cons (Q_addw (x := (w1 (w1 (hdl (el a i).live (hdl (el a i).written (w1 (w1 (hdl (el a i).prog j)))))))) (y := 1)) .nil) fun ac w β S => ?_
  refine (nt (ws (ws (rg ?_))))
  refine S.qg 7 [] [(95, .v (B ((el a i).pend != (w1 (w1 (w1 (hdl (el a i).live (hdl (el a i).written (w1 (w1 (hdl (el a i).prog j)))))))))))] (.cons (qn (S.arg ha) i Tryz.underlying49) (.cons (qc (S.arg ha) 3 i 8 (I (el a i).pend)) .nil)) fun ac w β S => ?_
  refine (nt (S.c ((el a i).pend != (w1 (w1 (w1 (hdl (el a i).live (hdl (el a i).written (w1 (w1 (hdl (el a i).prog j))))))))) (fun h29 => ?_) (fun h29 => ?_)))
  ·have g30 : ¬ ((el a i).pend = (w1 (w1 (w1 (hdl (el a i).live (hdl (el a i).written (w1 (w1 (hdl (el a i).prog j))))))))) := bne_iff_ne.1 h29
   refine ws (rg ?_)
   refine S.qe 1 [0, 1, 5, 9, 20, 27, 36, 47, 56, 64, 74, 86, 95] [(4, .v (I (-1)))] fun ac w β S => ?_
   exact (nt (wr (rt (rb (rt (rt (rb (rt (S.r [I (-1)] ⟨retI k0_laws_heldGuestS, S.chg⟩)))))))))
  have g31 : (el a i).pend = (w1 (w1 (w1 (hdl (el a i).live (hdl (el a i).written (w1 (w1 (hdl (el a i).prog j)))))))) := ne_f h29
  refine wk (nt (ws (rg ?_)))
  refine S.qg 3 [] [(1, .v (I (w1 (w1 (w1 (w1 (hdl (el a i).live (hdl (el a i).written (w1 (w1 (hdl (el a i).prog j)))))))))))] (.cons (Q_addw (x := (w1 (w1 (w1 (hdl (el a i).live (hdl (el a i).written (w1 (w1 (hdl (el a i).prog j))))))))) (y := 1)) .nil) fun ac w β S => ?_
  refine (nt (ws (ws (rg ?_))))
  refine S.qg 8 [] [(105, .v (B ((el a i).exit.kind != (w1 (w1 (w1 (w1 (hdl (el a i).live (hdl (el a i).written (w1 (w1 (hdl (el a i).prog j))))))))))))] (.cons (qn (S.arg ha) i Tryz.underlying49) (.cons (qc (S.arg ha) 3 i 9 (I (el a i).exit.kind)) .nil)) fun ac w β S => ?_
  refine (nt (S.c ((el a i).exit.kind != (w1 (w1 (w1 (w1 (hdl (el a i).live (hdl (el a i).written (w1 (w1 (hdl (el a i).prog j)))))))))) (fun h32 => ?_) (fun h32 => ?_)))
  ·have g33 : ¬ ((el a i).exit.kind = (w1 (w1 (w1 (w1 (hdl (el a i).live (hdl (el a i).written (w1 (w1 (hdl (el a i).prog j)))))))))) := bne_iff_ne.1 h32
   refine ws (rg ?_)
   refine S.qe 1 [0, 1, 5, 9, 20, 27, 36, 47, 56, 64, 74, 86, 95, 105] [(4, .v (I (-1)))] fun ac w β S => ?_
   exact (nt (wr (rt (rb (rt (rt (rb (rt (S.r [I (-1)] ⟨retI k0_laws_heldGuestS, S.chg⟩)))))))))
  have g34 : (el a i).exit.kind = (w1 (w1 (w1 (w1 (hdl (el a i).live (hdl (el a i).written (w1 (w1 (hdl (el a i).prog j))))))))) := ne_f h32
  refine wk (nt (ws (rg ?_)))
  refine S.qg 3 [] [(1, .v (I (w1 (w1 (w1 (w1 (w1 (hdl (el a i).live (hdl (el a i).written (w1 (w1 (hdl (el a i).prog j))))))))))))] (.cons (Q_addw (x := (w1 (w1 (w1 (w1 (hdl (el a i).live (hdl (el a i).written (w1 (w1 (hdl (el a i).prog j)))))))))) (y := 1)) .nil) fun ac w β S => ?_
  refine (nt (ws (ws (rg ?_))))
  refine S.qg 8 [] [(115, .v (B ((el a i).exit.page != (w1 (w1 (w1 (w1 (w1 (hdl (el a i).live (hdl (el a i).written (w1 (w1 (hdl (el a i).prog j)))))))))))))] (.cons (qn (S.arg ha) i Tryz.underlying49) (.cons (qc (S.arg ha) 3 i 10 (I (el a i).exit.page)) .nil)) fun ac w β S => ?_
  refine (nt (S.c ((el a i).exit.page != (w1 (w1 (w1 (w1 (w1 (hdl (el a i).live (hdl (el a i).written (w1 (w1 (hdl (el a i).prog j))))))))))) (fun h35 => ?_) (fun h35 => ?_)))
  ·have g36 : ¬ ((el a i).exit.page = (w1 (w1 (w1 (w1 (w1 (hdl (el a i).live (hdl (el a i).written (w1 (w1 (hdl (el a i).prog j))))))))))) := bne_iff_ne.1 h35
   refine ws (rg ?_)
   refine S.qe 1 [0, 1, 5, 9, 20, 27, 36, 47, 56, 64, 74, 86, 95, 105, 115] [(4, .v (I (-1)))] fun ac w β S => ?_
   exact (nt (wr (rt (rb (rt (rt (rb (rt (S.r [I (-1)] ⟨retI k0_laws_heldGuestS, S.chg⟩)))))))))
  have g37 : (el a i).exit.page = (w1 (w1 (w1 (w1 (w1 (hdl (el a i).live (hdl (el a i).written (w1 (w1 (hdl (el a i).prog j)))))))))) := ne_f h35
  refine wk (nt (ws (rg ?_)))
  refine S.qg 3 [] [(1, .v (I (w1 (w1 (w1 (w1 (w1 (w1 (hdl (el a i).live (hdl (el a i).written (w1 (w1 (hdl (el a i).prog j)))))))))))))] (.cons (Q_addw (x := (w1 (w1 (w1 (w1 (w1 (hdl (el a i).live (hdl (el a i).written (w1 (w1 (hdl (el a i).prog j))))))))))) (y := 1)) .nil) fun ac w β S => ?_
  refine (nt (ws (ws (rg ?_))))
  refine S.qg 10 [] [(127, .v (B (!((el a i).exit.wr == ((Int.tmod (w1 (w1 (w1 (w1 (w1 (w1 (hdl (el a i).live (hdl (el a i).written (w1 (w1 (hdl (el a i).prog j))))))))))) 3) == 0)))))] (.cons (qn (S.arg ha) i Tryz.underlying49) (.cons (qc (S.arg ha) 4 i 11 (B (el a i).exit.wr)) (.cons (Q_rem (x := (w1 (w1 (w1 (w1 (w1 (w1 (hdl (el a i).live (hdl (el a i).written (w1 (w1 (hdl (el a i).prog j)))))))))))) (y := 3) (by decide)) .nil))) fun ac w β S => ?_
  refine (nt (S.c (!((el a i).exit.wr == ((Int.tmod (w1 (w1 (w1 (w1 (w1 (w1 (hdl (el a i).live (hdl (el a i).written (w1 (w1 (hdl (el a i).prog j))))))))))) 3) == 0))) (fun h38 => ?_) (fun h38 => ?_)))
  ·have h39 := not_t h38
   have g40 : ¬ ((el a i).exit.wr = ((Int.tmod (w1 (w1 (w1 (w1 (w1 (w1 (hdl (el a i).live (hdl (el a i).written (w1 (w1 (hdl (el a i).prog j))))))))))) 3) == 0)) := ne_of_beq_false h39
   refine ws (rg ?_)
   refine S.qe 1 [0, 1, 5, 9, 20, 27, 36, 47, 56, 64, 74, 86, 95, 105, 115, 127] [(4, .v (I (-1)))] fun ac w β S => ?_
   exact (nt (wr (rt (rb (rt (rt (rb (rt (S.r [I (-1)] ⟨retI k0_laws_heldGuestS, S.chg⟩)))))))))
  have h41 := not_f h38
  have g42 : (el a i).exit.wr = ((Int.tmod (w1 (w1 (w1 (w1 (w1 (w1 (hdl (el a i).live (hdl (el a i).written (w1 (w1 (hdl (el a i).prog j))))))))))) 3) == 0) := eq_of_beq h41
  refine wk (nt (ws (rg ?_)))
  refine S.qg 3 [9, 20, 27, 36, 47, 56, 64, 74, 86, 95, 105, 115, 127] [(1, .v (I (w1 (w1 (w1 (w1 (w1 (w1 (w1 (hdl (el a i).live (hdl (el a i).written (w1 (w1 (hdl (el a i).prog j))))))))))))))] (.cons (Q_addw (x := (w1 (w1 (w1 (w1 (w1 (w1 (hdl (el a i).live (hdl (el a i).written (w1 (w1 (hdl (el a i).prog j)))))))))))) (y := 1)) .nil) fun ac w β S => ?_
  refine (nt (ws (ws (rg ?_))))
  refine S.qg 8 [] [(137, .v (B ((el a i).exit.n != (w1 (w1 (w1 (w1 (w1 (w1 (w1 (hdl (el a i).live (hdl (el a i).written (w1 (w1 (hdl (el a i).prog j)))))))))))))))] (.cons (qn (S.arg ha) i Tryz.underlying49) (.cons (qc (S.arg ha) 3 i 12 (I (el a i).exit.n)) .nil)) fun ac w β S => ?_
  refine (nt (S.c ((el a i).exit.n != (w1 (w1 (w1 (w1 (w1 (w1 (w1 (hdl (el a i).live (hdl (el a i).written (w1 (w1 (hdl (el a i).prog j))))))))))))) (fun h43 => ?_) (fun h43 => ?_)))
  ·have g44 : ¬ ((el a i).exit.n = (w1 (w1 (w1 (w1 (w1 (w1 (w1 (hdl (el a i).live (hdl (el a i).written (w1 (w1 (hdl (el a i).prog j))))))))))))) := bne_iff_ne.1 h43
   refine ws (rg ?_)
   refine S.qe 1 [] [(4, .v (I (-1)))] fun ac w β S => ?_
   exact (nt (wr (rt (rb (rt (rt (rb (rt (S.r [I (-1)] ⟨retI k0_laws_heldGuestS, S.chg⟩)))))))))
  have g45 : (el a i).exit.n = (w1 (w1 (w1 (w1 (w1 (w1 (w1 (hdl (el a i).live (hdl (el a i).written (w1 (w1 (hdl (el a i).prog j)))))))))))) := ne_f h43
  refine wk (nt (ws (rg ?_)))
  refine S.qg 3 [] [(1, .v (I (w1 (w1 (w1 (w1 (w1 (w1 (w1 (w1 (hdl (el a i).live (hdl (el a i).written (w1 (w1 (hdl (el a i).prog j)))))))))))))))] (.cons (Q_addw (x := (w1 (w1 (w1 (w1 (w1 (w1 (w1 (hdl (el a i).live (hdl (el a i).written (w1 (w1 (hdl (el a i).prog j))))))))))))) (y := 1)) .nil) fun ac w β S => ?_
  refine (nt (ws (ws (rg ?_))))
  refine S.qg 9 [] [(148, .v (B (!((el a i).halted == ((Int.tmod (w1 (w1 (w1 (w1 (w1 (w1 (w1 (w1 (hdl (el a i).live (hdl (el a i).written (w1 (w1 (hdl (el a i).prog j))))))))))))) 3) == 0)))))] (.cons (qn (S.arg ha) i Tryz.underlying49) (.cons (qc (S.arg ha) 4 i 13 (B (el a i).halted)) (.cons (Q_rem (x := (w1 (w1 (w1 (w1 (w1 (w1 (w1 (w1 (hdl (el a i).live (hdl (el a i).written (w1 (w1 (hdl (el a i).prog j)))))))))))))) (y := 3) (by decide)) .nil))) fun ac w β S => ?_
  refine (nt (S.c (!((el a i).halted == ((Int.tmod (w1 (w1 (w1 (w1 (w1 (w1 (w1 (w1 (hdl (el a i).live (hdl (el a i).written (w1 (w1 (hdl (el a i).prog j))))))))))))) 3) == 0))) (fun h46 => ?_) (fun h46 => ?_)))
  ·have h47 := not_t h46
   have g48 : ¬ ((el a i).halted = ((Int.tmod (w1 (w1 (w1 (w1 (w1 (w1 (w1 (w1 (hdl (el a i).live (hdl (el a i).written (w1 (w1 (hdl (el a i).prog j))))))))))))) 3) == 0)) := ne_of_beq_false h47
   refine ws (rg ?_)
   refine S.qe 1 [] [(4, .v (I (-1)))] fun ac w β S => ?_
   exact (nt (wr (rt (rb (rt (rt (rb (rt (S.r [I (-1)] ⟨retI k0_laws_heldGuestS, S.chg⟩)))))))))
  have h49 := not_f h46
  have g50 : (el a i).halted = ((Int.tmod (w1 (w1 (w1 (w1 (w1 (w1 (w1 (w1 (hdl (el a i).live (hdl (el a i).written (w1 (w1 (hdl (el a i).prog j))))))))))))) 3) == 0) := eq_of_beq h49
  refine wk (nt (ws (rg ?_)))
  refine S.qg 3 [] [(1, .v (I (w1 (w1 (w1 (w1 (w1 (w1 (w1 (w1 (w1 (hdl (el a i).live (hdl (el a i).written (w1 (w1 (hdl (el a i).prog j))))))))))))))))] (.cons (Q_addw (x := (w1 (w1 (w1 (w1 (w1 (w1 (w1 (w1 (hdl (el a i).live (hdl (el a i).written (w1 (w1 (hdl (el a i).prog j)))))))))))))) (y := 1)) .nil) fun ac w β S => ?_
  refine (nt (ws (rg ?_)))
  refine S.qg 8 [] [(1, .v (I (hdl (el a i).seen (w1 (w1 (w1 (w1 (w1 (w1 (w1 (w1 (w1 (hdl (el a i).live (hdl (el a i).written (w1 (w1 (hdl (el a i).prog j)))))))))))))))))] (.cons (qn (S.arg ha) i Tryz.underlying49) (.cons (qc (S.arg ha) 50 i 14 (slv (el a i).seen.length (pa.2 i).seen.1)) (.cons (Q_call fun w hw => c_laws_heldIntS w (el a i).seen (pa.2 i).seen (rd_of (RGuest.seen (d := (el a i)) (LRd.el (S.arg ha) i (by omega))) hw) (w1 (w1 (w1 (w1 (w1 (w1 (w1 (w1 (w1 (hdl (el a i).live (hdl (el a i).written (w1 (w1 (hdl (el a i).prog j))))))))))))))) .nil))) fun ac w β S => ?_
  refine (nt (ws (rg ?_)))
  refine S.qe 2 [] [(159, .v (B (decide ((hdl (el a i).seen (w1 (w1 (w1 (w1 (w1 (w1 (w1 (w1 (w1 (hdl (el a i).live (hdl (el a i).written (w1 (w1 (hdl (el a i).prog j))))))))))))))) < 0))))] fun ac w β S => ?_
  refine (nt (S.c (decide ((hdl (el a i).seen (w1 (w1 (w1 (w1 (w1 (w1 (w1 (w1 (w1 (hdl (el a i).live (hdl (el a i).written (w1 (w1 (hdl (el a i).prog j))))))))))))))) < 0)) (fun h51 => ?_) (fun h51 => ?_)))
  ·have g52 := of_decide_eq_true h51
   refine ws (rg ?_)
   refine S.qe 1 [] [(4, .v (I (-1)))] fun ac w β S => ?_
   exact (nt (wr (rb (rt (rt (rb (rt (S.r [I (-1)] ⟨retI k0_laws_heldGuestS, S.chg⟩))))))))
  have g53 := of_decide_eq_false h51
  refine wk (nb (nt (rg ?_)))
  refine S.qg 3 [] [(5, .v (I ((i : Int) + 1)))] (.cons (qp (i : Int) 1) .nil) fun ac w β S => ?_
  refine (nt ?_)
  refine ⟨a.length - (i + 1), by omega, i + 1, (hdl (el a i).seen (w1 (w1 (w1 (w1 (w1 (w1 (w1 (w1 (w1 (hdl (el a i).live (hdl (el a i).written (w1 (w1 (hdl (el a i).prog j))))))))))))))), _, _, _, rfl, ?_, ?_, S.z⟩
  ·exact oz
  ·clear S; (rw [hr, hd_step (by omega)]; simp [he_Guest, w1, hdi, hdb, hdc, *])
 have g54 := of_decide_eq_false h1
 refine wp_exit (ex_then (ex_then (ex_hit (nt (ws (rg ?_))))))
 refine S.qe 2 [] [(4, .v (I j))] fun ac w β S => ?_
 exact (nt (wr (S.r [I j] ⟨retI k0_laws_heldGuestS, S.chg⟩)))

end Go.Proofs.YtklppedmchbdmaaGreat
