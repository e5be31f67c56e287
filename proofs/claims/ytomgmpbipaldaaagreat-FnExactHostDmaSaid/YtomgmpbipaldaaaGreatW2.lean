/- The walks: what each function that the laws reach computes (part 2). -/
import Derived.Test.YtomgmpbipaldaaaGreatW1
import Derived.Test.YtomgmpbipaldaaaGreatProg
import Derived.KernelRfl
namespace Go.Proofs.YtomgmpbipaldaaaGreat
open Go
set_option linter.unusedVariables false
set_option linter.unusedSimpArgs false
set_option maxRecDepth 100000
set_option maxHeartbeats 2000000

theorem k0_spec_l22Slot {p : Prop} (h : p := by clear S; ((have hke : k = (el h.mons m.toNat).guests.length := (by omega)); subst hke; subst_vars; unfold f_slotTo; simp only [el_set_self (show m.toNat < h.mons.length by omega), List.set_set]; first | (rw [flushIf_yes (by assumption), flushIf_yes (by assumption)]; done) | (rw [flushIf_no (by assumption), flushIf_no (by assumption)]; done))) : p := h
theorem c_spec_l22Slot (w0 : World) (h : THost) (ph : PHost) (F : Bl) (hh : GT.own KK F w0 h ph) (hF : ∀ b, F b → b < w0.heap.size) (m : Int) (page : Int) (s : TSlot) (hs : RSlot s) (pre0 : (0 ≤ m ∧ m < h.mons.length) ∧ (el h.mons m.toNat).tables.length = (el h.mons m.toNat).guests.length ∧ (0 ≤ page ∧ page ≤ 7) ∧ (el h.mons m.toNat).outer.length = 8) : Calls Tryz.prog 106 [GT.val h ph, I m, I page, GT.val s ()].toArray w0 (RetT F F w0 (f_slotTo h m page s : THost)) := by
 refine Calls.run F Tryz.func106 ?_
 intro ac β S
 have oh : Ow w0 F w0 (Lt w0.heap.size) F h ph := ⟨hh, hF, fun b hb => .inr hb⟩
 obtain ⟨F1, F4, F7, F10, o2, o5, o8, o11, s3, s6, s9, s12, d13, d14, d15, d16, d17, d18⟩ := sp_Host oh
 have i19 : In64 (el (el h.mons m.toNat).outer page.toNat).page := (RSlot.page (d := (el (el h.mons m.toNat).outer page.toNat)) (LRd.el (RMon.outer (d := (el h.mons m.toNat)) (LRd.el o5.rn m.toNat (by omega))) page.toNat (by omega)))
 refine S.go 36 (.cons (qt o5.rn m Tryz.underlying28) (.cons (qs o5.rn 73 m.toNat) (.cons (qt (RMon.outer (d := (el h.mons m.toNat)) (LRd.el o5.rn m.toNat (by omega))) page Tryz.underlying69) (.cons (qc (RMon.outer (d := (el h.mons m.toNat)) (LRd.el o5.rn m.toNat (by omega))) 3 page.toNat 0 (I (el (el h.mons m.toNat).outer page.toNat).page)) .nil)))) fun ac w β S => ?_
 refine lp (fun mm ac w => ∃ (k : Nat) (X : List TMon) (q20 : _) (F21 : _) (u : _) (N : _) (β : _), mm = (el h.mons m.toNat).guests.length - k ∧ (k ≤ (el h.mons m.toNat).guests.length) ∧ (X = h.mons.set m.toNat { el h.mons m.toNat with tables := f_tabs (el h.mons m.toNat).tables (el h.mons m.toNat).guests page k }) ∧ St Tryz.prog Tryz.f106.ntmps w0 F u N β ⟨[(1, .v (I m)), (2, .v (I page)), (4, .p 0 0), (7, .p 1 0), (8, .p 2 0), (9, .p 3 0), (10, .v (I (el (el h.mons m.toNat).outer page.toNat).page)), (11, .v (I (k : Int)))], [[slv h.mem.length ph.mem.1, slv X.length q20.1, slv h.buf.length ph.buf.1, slv h.iobuf.length ph.iobuf.1], GT.cells s (), Zc THost, GT.cells (el X m.toNat) (q20.2 m.toNat)]⟩ ac w ∧ Ow w0 F u N F21 X q20 ∧ Ow w0 F u N F1 h.mem ph.mem ∧ Ow w0 F u N F7 h.buf ph.buf ∧ Ow w0 F u N F10 h.iobuf ph.iobuf ∧ Disj F21 F1 ∧ Disj F21 F7 ∧ Disj F21 F10) _ ⟨0, h.mons, ph.mons, F4, _, _, _, rfl, o0, (by exact set_self.symm), S.z, o5, o2, o8, o11, (Disj.symm d13), d16, d17⟩ ?_
 clear S o11 o2 o5 o8
 rintro f26 mm hf27 ac w ⟨k, X, q20, F21, u, N, β, rfl, hk, hX, S, o22, o2, o8, o11, d23, d24, d25⟩
 refine S.rs fun S => ?_
 obtain ⟨hl, he⟩ := setm_tables hX (show m.toNat < h.mons.length by omega) (tabs_len _ _ _ _)
 have b28 : (el X m.toNat).tables.length ≤ 4194304 := LRd.le (RMon.tables (d := (el X m.toNat)) (LRd.el o22.rn m.toNat (by omega)))
 refine S.gd 10 .nil (decide ((k : Int) < ((el X m.toNat).tables.length : Int))) (fun ac w β h29 g30 S => ?_) (fun ac w β h29 g30 S => ?_)
 ·refine S.go 5 .nil fun ac w β S => ?_
  refine drw ?_
  refine S.draw0 (f := 18) 17 (by kernel_rfl) (by kernel_rfl) fun w S => ?_
  refine S.hq 0 [0] [] [(30, .p 3 7)] .nil fun ac S => ?_
  refine S.hq 1 [1] [] [(31, .v (slv (el X m.toNat).tables.length (q20.2 m.toNat).tables.1))] .nil fun ac S => ?_
  refine S.hq 2 [2] [] [(32, .v (I (k : Int)))] .nil fun ac S => ?_
  refine S.hq 3 [3] [] [(33, .p 3 7)] .nil fun ac S => ?_
  refine S.hq 4 [4] [] [(34, .v (slv (el X m.toNat).tables.length (q20.2 m.toNat).tables.1))] .nil fun ac S => ?_
  refine S.hq 5 [5] [] [(35, .v (I (k : Int)))] .nil fun ac S => ?_
  refine S.hq 6 [6] [] [(36, .v (pt (q20.2 m.toNat).tables.1.b ((q20.2 m.toNat).tables.1.off + k * 2)))] (.cons (qn (RMon.tables (d := (el X m.toNat)) (LRd.el o22.rn m.toNat (by omega))) k Tryz.underlying71) .nil) fun ac S => ?_
  refine S.hq 7 [7] [] [(37, .v (GT.val (el (el X m.toNat).tables k) ((q20.2 m.toNat).tables.2 k)))] (.cons (qs (RMon.tables (d := (el X m.toNat)) (LRd.el o22.rn m.toNat (by omega))) 96 k) .nil) fun ac S => ?_
  refine S.hq 8 [8] [] [(38, .p 3 3)] .nil fun ac S => ?_
  refine S.hq 9 [9] [] [(39, .v (slv (el X m.toNat).guests.length (q20.2 m.toNat).guests.1))] .nil fun ac S => ?_
  refine S.hq 10 [10] [] [(40, .v (I (k : Int)))] .nil fun ac S => ?_
  refine S.hq 11 [11] [] [(41, .v (pt (q20.2 m.toNat).guests.1.b ((q20.2 m.toNat).guests.1.off + k * 15)))] (.cons (qn (RMon.guests (d := (el X m.toNat)) (LRd.el o22.rn m.toNat (by omega))) k Tryz.underlying70) .nil) fun ac S => ?_
  refine S.hq 12 [12] [] [(42, .v (pt (q20.2 m.toNat).guests.1.b ((q20.2 m.toNat).guests.1.off + k * 15 + 4)))] .nil fun ac S => ?_
  refine S.hq 13 [13] [] [(43, .v (slv (el (el X m.toNat).guests k).live.length ((q20.2 m.toNat).guests.2 k).live.1))] (.cons (qc (RMon.guests (d := (el X m.toNat)) (LRd.el o22.rn m.toNat (by omega))) 69 k 4 (slv (el (el X m.toNat).guests k).live.length ((q20.2 m.toNat).guests.2 k).live.1)) .nil) fun ac S => ?_
  refine S.hq 14 [14] [] [(44, .v (I page))] .nil fun ac S => ?_
  refine WD.one (i := 15) (by kernel_rfl) ?_
  refine id (S.k1 45 (c_spec_ForgetUses w (el (el X m.toNat).tables k) ((q20.2 m.toNat).tables.2 k) (S.rd (LRd.el (RMon.tables (d := (el X m.toNat)) (LRd.el o22.rn m.toNat (by omega))) k (by omega))) (el (el X m.toNat).guests k).live ((q20.2 m.toNat).guests.2 k).live (S.rd (RGuest.live (d := (el (el X m.toNat).guests k)) (LRd.el (RMon.guests (d := (el X m.toNat)) (LRd.el o22.rn m.toNat (by omega))) k (by omega)))) page) fun ac w N q31 F32 S up o33 d34 => ?_)
  refine WD.next S up (by kernel_rfl) ?_
  have d35 := Disj.w d34 o22.sub
  have d36 := Disj.w d34 o2.sub
  have d37 := Disj.w d34 o8.sub
  have d38 := Disj.w d34 o11.sub
  replace o22 := o22.up up
  replace o2 := o2.up up
  replace o8 := o8.up up
  replace o11 := o11.up up
  clear up d34
  obtain ⟨F39, F42, o40, o43, s41, s44, d45⟩ := sp_Kept o33
  refine S.hq 16 [16] [] [(45, .v (GT.val (f_forgetUses (el (el X m.toNat).tables k) (el (el X m.toNat).guests k).live page) q31)), (46, .v (pt (q20.2 m.toNat).tables.1.b ((q20.2 m.toNat).tables.1.off + k * 2)))] (.cons (qn (RMon.tables (d := (el X m.toNat)) (LRd.el o22.rn m.toNat (by omega))) k Tryz.underlying71) .nil) fun ac S => ?_
  refine WD.one (i := 17) (by kernel_rfl) ?_
  obtain ⟨F46, o47, s48, b49⟩ := foc2_Mon_tables o22 (k := m.toNat) (show m.toNat < X.length by omega)
  have l50 := LRd.le o47.rn
  have n51 := o47.sub
  have o56 := ow_Kept (x := (f_forgetUses (el (el X m.toNat).tables k) (el (el X m.toNat).guests k).live page)) (p := q31) o40 o43 d45 
  refine id (S.sV (α := TKept) o47 (t := 96) (k := k) (off := (q20.2 m.toNat).tables.1.off + k * 2) o56 (Disj.symm (Disj.or (Disj.symm (Disj.part (Disj.symm (Disj.part (Disj.symm d35) s41)) s48)) (Disj.or (Disj.symm (Disj.part (Disj.symm (Disj.part (Disj.symm d35) s44)) s48)) Disj.nob))) fun w N F53 q54 S up o52 d55 s57 n58 => ?_)
  refine WD.last (by kernel_rfl) ?_
  have d59 := d55 _ (Disj.symm (Disj.part d23 s48)) (Disj.symm (Disj.or (Disj.part (Disj.symm d36) s41) (Disj.or (Disj.part (Disj.symm d36) s44) Disj.nob))) o2.sub
  have d60 := d55 _ (Disj.symm (Disj.part d24 s48)) (Disj.symm (Disj.or (Disj.part (Disj.symm d37) s41) (Disj.or (Disj.part (Disj.symm d37) s44) Disj.nob))) o8.sub
  have d61 := d55 _ (Disj.symm (Disj.part d25 s48)) (Disj.symm (Disj.or (Disj.part (Disj.symm d38) s41) (Disj.or (Disj.part (Disj.symm d38) s44) Disj.nob))) o11.sub
  replace o2 := o2.upF (Disj.symm (Disj.part d23 s48)) up
  replace o8 := o8.upF (Disj.symm (Disj.part d24 s48)) up
  replace o11 := o11.upF (Disj.symm (Disj.part d25 s48)) up
  clear d55 o47
  obtain ⟨p62, o63, c64⟩ := b49 _ _ _ _ _ (uniB [F39, F42]) up o52 s57 (Disj.symm (Disj.or (Disj.part (Disj.symm d35) s41) (Disj.or (Disj.part (Disj.symm d35) s44) Disj.nob))) (by show [slv _ _] = [slv _ _]; rw [List.length_set]) (fun b h => n58 b (n51 b h))
  clear up o52 n58
  have l65 : (X.set m.toNat ({ el X m.toNat with tables := ((el X m.toNat).tables.set k (f_forgetUses (el (el X m.toNat).tables k) (el (el X m.toNat).guests k).live page)) })).length = X.length := List.length_set
  obtain ⟨X66, hX67⟩ : ∃ z, z = X.set m.toNat ({ el X m.toNat with tables := ((el X m.toNat).tables.set k (f_forgetUses (el (el X m.toNat).tables k) (el (el X m.toNat).guests k).live page)) }) := ⟨_, rfl⟩
  rw [← hX67] at o63 c64 l65
  obtain ⟨l68, e69⟩ := setm_tables hX67 (show m.toNat < X.length by omega) List.length_set
  replace S := S.z (σ' := ⟨[(1, .v (I m)), (2, .v (I page)), (4, .p 0 0), (7, .p 1 0), (8, .p 2 0), (9, .p 3 0), (10, .v (I (el (el h.mons m.toNat).outer page.toNat).page)), (11, .v (I (k : Int))), (45, .v (GT.val (f_forgetUses (el (el X m.toNat).tables k) (el (el X m.toNat).guests k).live page) q31)), (46, .v (pt (q20.2 m.toNat).tables.1.b ((q20.2 m.toNat).tables.1.off + k * 2)))], [[slv h.mem.length ph.mem.1, slv X.length q20.1, slv h.buf.length ph.buf.1, slv h.iobuf.length ph.iobuf.1], GT.cells s (), Zc THost, GT.cells (el X m.toNat) (q20.2 m.toNat)]⟩)
  replace S := S.cast (σ' := ⟨[(1, .v (I m)), (2, .v (I page)), (4, .p 0 0), (7, .p 1 0), (8, .p 2 0), (9, .p 3 0), (10, .v (I (el (el h.mons m.toNat).outer page.toNat).page)), (11, .v (I (k : Int))), (45, .v (GT.val (f_forgetUses (el (el X m.toNat).tables k) (el (el X m.toNat).guests k).live page) q31)), (46, .v (pt (q20.2 m.toNat).tables.1.b ((q20.2 m.toNat).tables.1.off + k * 2)))], [[slv h.mem.length ph.mem.1, slv X66.length q20.1, slv h.buf.length ph.buf.1, slv h.iobuf.length ph.iobuf.1], GT.cells s (), Zc THost, GT.cells (el X m.toNat) (q20.2 m.toNat)]⟩) (by rw [show X66.length = X.length by omega])
  replace S := S.z (σ' := ⟨[(1, .v (I m)), (2, .v (I page)), (4, .p 0 0), (7, .p 1 0), (8, .p 2 0), (9, .p 3 0), (10, .v (I (el (el h.mons m.toNat).outer page.toNat).page)), (11, .v (I (k : Int))), (45, .v (GT.val (f_forgetUses (el (el X m.toNat).tables k) (el (el X m.toNat).guests k).live page) q31)), (46, .v (pt (q20.2 m.toNat).tables.1.b ((q20.2 m.toNat).tables.1.off + k * 2)))], [[slv h.mem.length ph.mem.1, slv X66.length q20.1, slv h.buf.length ph.buf.1, slv h.iobuf.length ph.iobuf.1], GT.cells s (), Zc THost, GT.cells (el X m.toNat) (q20.2 m.toNat)]⟩)
  have v70 : GT.cells (el X66 m.toNat) ((q20.1, p62).2 m.toNat) = GT.cells (el X m.toNat) (q20.2 m.toNat) := c64 m.toNat
  replace S := S.cast (σ' := ⟨[(1, .v (I m)), (2, .v (I page)), (4, .p 0 0), (7, .p 1 0), (8, .p 2 0), (9, .p 3 0), (10, .v (I (el (el h.mons m.toNat).outer page.toNat).page)), (11, .v (I (k : Int))), (45, .v (GT.val (f_forgetUses (el (el X m.toNat).tables k) (el (el X m.toNat).guests k).live page) q31)), (46, .v (pt (q20.2 m.toNat).tables.1.b ((q20.2 m.toNat).tables.1.off + k * 2)))], [[slv h.mem.length ph.mem.1, slv X66.length q20.1, slv h.buf.length ph.buf.1, slv h.iobuf.length ph.iobuf.1], GT.cells s (), Zc THost, GT.cells (el X66 m.toNat) ((q20.1, p62).2 m.toNat)]⟩) (by rw [v70])
  refine WD.done (by kernel_rfl) ?_ _
  refine S.ex fun S => ?_
  refine S.ge 7 (.cons (qp (k : Int) 1) .nil) f26 fun ac w β S => hf27.of ((el h.mons m.toNat).guests.length - (k + 1)) _ _ (by omega) ⟨k + 1, X66, (q20.1, p62), (Or F21 F53), _, _, _, rfl, ?_, ?_, S.z, o63, o2, o8, o11, (Disj.symm (Disj.symm (Disj.or d23 (Disj.symm d59)))), (Disj.symm (Disj.symm (Disj.or d24 (Disj.symm d60)))), (Disj.symm (Disj.symm (Disj.or d25 (Disj.symm d61))))⟩
  ·exact oz
  ·clear S; (subst_vars; rw [List.set_set]; simp only [el_set_self (show m.toNat < h.mons.length by omega), f_tabs, tabs_el _ _ _ (Nat.le_refl _)])
 refine S.gd 13 .nil ((el (el h.mons m.toNat).outer page.toNat).page != (-1)) (fun ac w β h71 g72 S => ?_) (fun ac w β h71 g72 S => ?_)
 ·refine S.go 6 .nil fun ac w β S => S.K1 (r := f_flushHost h.buf (el (el h.mons m.toNat).outer page.toNat).page) (d := 52) (c_spec_FlushHost w h.buf ph.buf (S.rd o8.rn) (el (el h.mons m.toNat).outer page.toNat).page i19) fun ac w N q73 F74 S up o75 d76 => ?_
  have d77 := Disj.w d76 o22.sub
  have d78 := Disj.w d76 o2.sub
  have d79 := Disj.w d76 o8.sub
  have d80 := Disj.w d76 o11.sub
  replace o22 := o22.up up
  replace o2 := o2.up up
  replace o8 := o8.up up
  replace o11 := o11.up up
  clear up d76
  refine S.go 8 .nil fun ac w β S => S.K1 (r := f_flushHost h.iobuf (el (el h.mons m.toNat).outer page.toNat).page) (d := 57) (c_spec_FlushHost w h.iobuf ph.iobuf (S.rd o11.rn) (el (el h.mons m.toNat).outer page.toNat).page i19) fun ac w N q81 F82 S up o83 d84 => ?_
  have d85 := Disj.w d84 o22.sub
  have d86 := Disj.w d84 o2.sub
  have d87 := Disj.w d84 o11.sub
  have d88 := Disj.w d84 o75.sub
  replace o22 := o22.up up
  replace o2 := o2.up up
  replace o11 := o11.up up
  replace o75 := o75.up up
  clear up d84
  obtain ⟨F89, o90, s91, b92⟩ := foc2_Mon_outer o22 (k := m.toNat) (show m.toNat < X.length by omega)
  have l93 := LRd.le o90.rn
  have n94 := o90.sub
  have e95 : RSlot (el (el X m.toNat).outer page.toNat) := (LRd.el o90.rn page.toNat (by omega))
  refine S.go 11 (.cons (qt (RMon.outer (d := (el X m.toNat)) (LRd.el o22.rn m.toNat (by omega))) page Tryz.underlying69) .nil) fun ac w β S => S.SF (α := TSlot) o90 (t := 92) (k := page.toNat) (j := 0) (off := (q20.2 m.toNat).outer.1.off + page.toNat * 2) (v := GT.val s ()) (y := s) (q := ()) (fun _ _ _ => ⟨NoB, hs, fun _ h => False.elim h⟩) fun w N F97 q98 S up o96 d99 s100 n101 => ?_
  have d102 := d99 _ (Disj.symm (Disj.part d23 s91)) (fun b _ h => False.elim h) o2.sub
  have d103 := d99 _ (Disj.symm (Disj.part d77 s91)) (fun b _ h => False.elim h) o75.sub
  have d104 := d99 _ (Disj.symm (Disj.part d85 s91)) (fun b _ h => False.elim h) o83.sub
  replace o2 := o2.upF (Disj.symm (Disj.part d23 s91)) up
  replace o75 := o75.upF (Disj.symm (Disj.part d77 s91)) up
  replace o83 := o83.upF (Disj.symm (Disj.part d85 s91)) up
  clear d99 o90
  obtain ⟨p105, o106, c107⟩ := b92 _ _ _ _ _ NoB up o96 s100 (fun b _ h => False.elim h) (by show [slv _ _] = [slv _ _]; rw [List.length_set]) (fun b h => n101 b (n94 b h))
  clear up o96 n101
  have l108 : (X.set m.toNat ({ el X m.toNat with outer := ((el X m.toNat).outer.set page.toNat s) })).length = X.length := List.length_set
  obtain ⟨X109, hX110⟩ : ∃ z, z = X.set m.toNat ({ el X m.toNat with outer := ((el X m.toNat).outer.set page.toNat s) }) := ⟨_, rfl⟩
  rw [← hX110] at o106 c107 l108
  obtain ⟨l111, e112⟩ := setm_outer hX110 (show m.toNat < X.length by omega) List.length_set
  replace S := S.z (σ' := ⟨[(1, .v (I m)), (4, .p 0 0), (8, .p 2 0), (9, .p 3 0), (62, .v (GT.val s ())), (63, .v (pt (q20.2 m.toNat).outer.1.b ((q20.2 m.toNat).outer.1.off + page.toNat * 2)))], [[slv h.mem.length ph.mem.1, slv X.length q20.1, slv (f_flushHost h.buf (el (el h.mons m.toNat).outer page.toNat).page).length q73.1, slv (f_flushHost h.iobuf (el (el h.mons m.toNat).outer page.toNat).page).length q81.1], GT.cells s (), Zc THost, GT.cells (el X m.toNat) (q20.2 m.toNat)]⟩)
  replace S := S.cast (σ' := ⟨[(1, .v (I m)), (4, .p 0 0), (8, .p 2 0), (9, .p 3 0), (62, .v (GT.val s ())), (63, .v (pt (q20.2 m.toNat).outer.1.b ((q20.2 m.toNat).outer.1.off + page.toNat * 2)))], [[slv h.mem.length ph.mem.1, slv X109.length q20.1, slv (f_flushHost h.buf (el (el h.mons m.toNat).outer page.toNat).page).length q73.1, slv (f_flushHost h.iobuf (el (el h.mons m.toNat).outer page.toNat).page).length q81.1], GT.cells s (), Zc THost, GT.cells (el X m.toNat) (q20.2 m.toNat)]⟩) (by rw [show X109.length = X.length by omega])
  refine S.is fun S => ?_
  replace S := S.z (σ' := ⟨[(1, .v (I m)), (4, .p 0 0), (8, .p 2 0), (9, .p 3 0), (62, .v (GT.val s ())), (63, .v (pt (q20.2 m.toNat).outer.1.b ((q20.2 m.toNat).outer.1.off + page.toNat * 2)))], [[slv h.mem.length ph.mem.1, slv X109.length q20.1, slv (f_flushHost h.buf (el (el h.mons m.toNat).outer page.toNat).page).length q73.1, slv (f_flushHost h.iobuf (el (el h.mons m.toNat).outer page.toNat).page).length q81.1], GT.cells s (), Zc THost, GT.cells (el X m.toNat) (q20.2 m.toNat)]⟩)
  have v113 : GT.cells (el X109 m.toNat) ((q20.1, p105).2 m.toNat) = GT.cells (el X m.toNat) (q20.2 m.toNat) := c107 m.toNat
  replace S := S.cast (σ' := ⟨[(1, .v (I m)), (4, .p 0 0), (8, .p 2 0), (9, .p 3 0), (62, .v (GT.val s ())), (63, .v (pt (q20.2 m.toNat).outer.1.b ((q20.2 m.toNat).outer.1.off + page.toNat * 2)))], [[slv h.mem.length ph.mem.1, slv X109.length q20.1, slv (f_flushHost h.buf (el (el h.mons m.toNat).outer page.toNat).page).length q73.1, slv (f_flushHost h.iobuf (el (el h.mons m.toNat).outer page.toNat).page).length q81.1], GT.cells s (), Zc THost, GT.cells (el X109 m.toNat) ((q20.1, p105).2 m.toNat)]⟩) (by rw [v113])
  refine S.is fun S => ?_
  refine S.go 9 (.cons (qt o106.rn m Tryz.underlying28) .nil) fun ac w β S => S.SF (α := TMon) o106 (t := 73) (k := m.toNat) (j := 0) (off := q20.1.off + m.toNat * 9) (v := GT.val (el X109 m.toNat) ((q20.1, p105).2 m.toNat)) (y := (el X109 m.toNat)) (q := ((q20.1, p105).2 m.toNat)) (fun G g_ _ => ⟨G, g_, fun _ h => .inl h⟩) fun w N F115 q116 S up o114 d117 s118 n119 => ?_
  have d120 := d117 _ (Disj.symm (Disj.or d23 (Disj.symm d102))) (fun b _ h => False.elim h) o2.sub
  have d121 := d117 _ (Disj.symm (Disj.or d77 (Disj.symm d103))) (fun b _ h => False.elim h) o75.sub
  have d122 := d117 _ (Disj.symm (Disj.or d85 (Disj.symm d104))) (fun b _ h => False.elim h) o83.sub
  replace o2 := o2.upF (Disj.symm (Disj.or d23 (Disj.symm d102))) up
  replace o75 := o75.upF (Disj.symm (Disj.or d77 (Disj.symm d103))) up
  replace o83 := o83.upF (Disj.symm (Disj.or d85 (Disj.symm d104))) up
  clear up d117 o106 n119
  rw [set_self] at o114
  refine S.gr 9 .nil [GT.val (⟨h.mem, X109, (f_flushHost h.buf (el (el h.mons m.toNat).outer page.toNat).page), (f_flushHost h.iobuf (el (el h.mons m.toNat).outer page.toNat).page)⟩ : THost) (⟨ph.mem, (q20.1, q116), q73, q81⟩ : PHost)] fun ac w β S => ?_
  have o123 := ow_Host (x := (⟨h.mem, X109, (f_flushHost h.buf (el (el h.mons m.toNat).outer page.toNat).page), (f_flushHost h.iobuf (el (el h.mons m.toNat).outer page.toNat).page)⟩ : THost)) (p := (⟨ph.mem, (q20.1, q116), q73, q81⟩ : PHost)) o2 o114 o75 o83 d120 d78 d86 (Disj.symm d121) (Disj.symm d122) d88 
  exact retT_of S (show f_slotTo h m page s = (⟨h.mem, X109, (f_flushHost h.buf (el (el h.mons m.toNat).outer page.toNat).page), (f_flushHost h.iobuf (el (el h.mons m.toNat).outer page.toNat).page)⟩ : THost) from k0_spec_l22Slot) rfl o123
 obtain ⟨F124, o125, s126, b127⟩ := foc2_Mon_outer o22 (k := m.toNat) (show m.toNat < X.length by omega)
 have l128 := LRd.le o125.rn
 have n129 := o125.sub
 have e130 : RSlot (el (el X m.toNat).outer page.toNat) := (LRd.el o125.rn page.toNat (by omega))
 refine S.go 10 (.cons (qt (RMon.outer (d := (el X m.toNat)) (LRd.el o22.rn m.toNat (by omega))) page Tryz.underlying69) .nil) fun ac w β S => S.SF (α := TSlot) o125 (t := 92) (k := page.toNat) (j := 0) (off := (q20.2 m.toNat).outer.1.off + page.toNat * 2) (v := GT.val s ()) (y := s) (q := ()) (fun _ _ _ => ⟨NoB, hs, fun _ h => False.elim h⟩) fun w N F132 q133 S up o131 d134 s135 n136 => ?_
 have d137 := d134 _ (Disj.symm (Disj.part d23 s126)) (fun b _ h => False.elim h) o2.sub
 have d138 := d134 _ (Disj.symm (Disj.part d24 s126)) (fun b _ h => False.elim h) o8.sub
 have d139 := d134 _ (Disj.symm (Disj.part d25 s126)) (fun b _ h => False.elim h) o11.sub
 replace o2 := o2.upF (Disj.symm (Disj.part d23 s126)) up
 replace o8 := o8.upF (Disj.symm (Disj.part d24 s126)) up
 replace o11 := o11.upF (Disj.symm (Disj.part d25 s126)) up
 clear d134 o125
 obtain ⟨p140, o141, c142⟩ := b127 _ _ _ _ _ NoB up o131 s135 (fun b _ h => False.elim h) (by show [slv _ _] = [slv _ _]; rw [List.length_set]) (fun b h => n136 b (n129 b h))
 clear up o131 n136
 have l143 : (X.set m.toNat ({ el X m.toNat with outer := ((el X m.toNat).outer.set page.toNat s) })).length = X.length := List.length_set
 obtain ⟨X144, hX145⟩ : ∃ z, z = X.set m.toNat ({ el X m.toNat with outer := ((el X m.toNat).outer.set page.toNat s) }) := ⟨_, rfl⟩
 rw [← hX145] at o141 c142 l143
 obtain ⟨l146, e147⟩ := setm_outer hX145 (show m.toNat < X.length by omega) List.length_set
 replace S := S.z (σ' := ⟨[(1, .v (I m)), (4, .p 0 0), (8, .p 2 0), (9, .p 3 0), (62, .v (GT.val s ())), (63, .v (pt (q20.2 m.toNat).outer.1.b ((q20.2 m.toNat).outer.1.off + page.toNat * 2)))], [[slv h.mem.length ph.mem.1, slv X.length q20.1, slv h.buf.length ph.buf.1, slv h.iobuf.length ph.iobuf.1], GT.cells s (), Zc THost, GT.cells (el X m.toNat) (q20.2 m.toNat)]⟩)
 replace S := S.cast (σ' := ⟨[(1, .v (I m)), (4, .p 0 0), (8, .p 2 0), (9, .p 3 0), (62, .v (GT.val s ())), (63, .v (pt (q20.2 m.toNat).outer.1.b ((q20.2 m.toNat).outer.1.off + page.toNat * 2)))], [[slv h.mem.length ph.mem.1, slv X144.length q20.1, slv h.buf.length ph.buf.1, slv h.iobuf.length ph.iobuf.1], GT.cells s (), Zc THost, GT.cells (el X m.toNat) (q20.2 m.toNat)]⟩) (by rw [show X144.length = X.length by omega])
 refine S.is fun S => ?_
 replace S := S.z (σ' := ⟨[(1, .v (I m)), (4, .p 0 0), (8, .p 2 0), (9, .p 3 0), (62, .v (GT.val s ())), (63, .v (pt (q20.2 m.toNat).outer.1.b ((q20.2 m.toNat).outer.1.off + page.toNat * 2)))], [[slv h.mem.length ph.mem.1, slv X144.length q20.1, slv h.buf.length ph.buf.1, slv h.iobuf.length ph.iobuf.1], GT.cells s (), Zc THost, GT.cells (el X m.toNat) (q20.2 m.toNat)]⟩)
 have v148 : GT.cells (el X144 m.toNat) ((q20.1, p140).2 m.toNat) = GT.cells (el X m.toNat) (q20.2 m.toNat) := c142 m.toNat
 replace S := S.cast (σ' := ⟨[(1, .v (I m)), (4, .p 0 0), (8, .p 2 0), (9, .p 3 0), (62, .v (GT.val s ())), (63, .v (pt (q20.2 m.toNat).outer.1.b ((q20.2 m.toNat).outer.1.off + page.toNat * 2)))], [[slv h.mem.length ph.mem.1, slv X144.length q20.1, slv h.buf.length ph.buf.1, slv h.iobuf.length ph.iobuf.1], GT.cells s (), Zc THost, GT.cells (el X144 m.toNat) ((q20.1, p140).2 m.toNat)]⟩) (by rw [v148])
 refine S.is fun S => ?_
 refine S.go 9 (.cons (qt o141.rn m Tryz.underlying28) .nil) fun ac w β S => S.SF (α := TMon) o141 (t := 73) (k := m.toNat) (j := 0) (off := q20.1.off + m.toNat * 9) (v := GT.val (el X144 m.toNat) ((q20.1, p140).2 m.toNat)) (y := (el X144 m.toNat)) (q := ((q20.1, p140).2 m.toNat)) (fun G g_ _ => ⟨G, g_, fun _ h => .inl h⟩) fun w N F150 q151 S up o149 d152 s153 n154 => ?_
 have d155 := d152 _ (Disj.symm (Disj.or d23 (Disj.symm d137))) (fun b _ h => False.elim h) o2.sub
 have d156 := d152 _ (Disj.symm (Disj.or d24 (Disj.symm d138))) (fun b _ h => False.elim h) o8.sub
 have d157 := d152 _ (Disj.symm (Disj.or d25 (Disj.symm d139))) (fun b _ h => False.elim h) o11.sub
 replace o2 := o2.upF (Disj.symm (Disj.or d23 (Disj.symm d137))) up
 replace o8 := o8.upF (Disj.symm (Disj.or d24 (Disj.symm d138))) up
 replace o11 := o11.upF (Disj.symm (Disj.or d25 (Disj.symm d139))) up
 clear up d152 o141 n154
 rw [set_self] at o149
 refine S.gr 9 .nil [GT.val (⟨h.mem, X144, h.buf, h.iobuf⟩ : THost) (⟨ph.mem, (q20.1, q151), ph.buf, ph.iobuf⟩ : PHost)] fun ac w β S => ?_
 have o158 := ow_Host (x := (⟨h.mem, X144, h.buf, h.iobuf⟩ : THost)) (p := (⟨ph.mem, (q20.1, q151), ph.buf, ph.iobuf⟩ : PHost)) o2 o149 o8 o11 d155 d14 d15 (Disj.symm d156) (Disj.symm d157) d18 
 exact retT_of S (show f_slotTo h m page s = (⟨h.mem, X144, h.buf, h.iobuf⟩ : THost) from k0_spec_l22Slot) rfl o158

theorem c_spec_l22Out (w0 : World) (h : THost) (ph : PHost) (F : Bl) (hh : GT.own KK F w0 h ph) (hF : ∀ b, F b → b < w0.heap.size) (m : Int) (page : Int) (pre0 : (0 ≤ m ∧ m < h.mons.length) ∧ (el h.mons m.toNat).tables.length = (el h.mons m.toNat).guests.length ∧ (0 ≤ page ∧ page ≤ 7) ∧ (el h.mons m.toNat).outer.length = 8 ∧ (el h.mons m.toNat).out.length = 8) : Calls Tryz.prog 142 [GT.val h ph, I m, I page].toArray w0 (RetT F F w0 (f_send h m page : THost)) := by
 refine Calls.run F Tryz.func142 ?_
 intro ac β S
 have oh : Ow w0 F w0 (Lt w0.heap.size) F h ph := ⟨hh, hF, fun b hb => .inr hb⟩
 obtain ⟨F1, F4, F7, F10, o2, o5, o8, o11, s3, s6, s9, s12, d13, d14, d15, d16, d17, d18⟩ := sp_Host oh
 refine S.go 7 .nil fun ac w β S => ?_
 refine drw ?_
 refine S.draw0 (f := 22) 21 (by kernel_rfl) (by kernel_rfl) fun w S => ?_
 refine S.hq 0 [0] [] [(7, .p 0 1)] .nil fun ac S => ?_
 refine S.hq 1 [1] [] [(8, .v (slv h.mons.length ph.mons.1))] .nil fun ac S => ?_
 refine S.hq 2 [2] [] [(9, .v (I m))] .nil fun ac S => ?_
 refine S.hq 3 [3] [] [(10, .v (pt ph.mons.1.b (ph.mons.1.off + m.toNat * 9)))] (.cons (qt o5.rn m Tryz.underlying28) .nil) fun ac S => ?_
 refine S.hq 4 [4] [] [(11, .v (pt ph.mons.1.b (ph.mons.1.off + m.toNat * 9 + 1)))] .nil fun ac S => ?_
 refine S.hq 5 [5] [] [(12, .v (slv (el h.mons m.toNat).out.length (ph.mons.2 m.toNat).out.1))] (.cons (qc o5.rn 22 m.toNat 1 (slv (el h.mons m.toNat).out.length (ph.mons.2 m.toNat).out.1)) .nil) fun ac S => ?_
 refine S.hq 6 [6] [] [(13, .v (I page))] .nil fun ac S => ?_
 refine S.hq 7 [7] [] [(14, .p 0 0)] .nil fun ac S => ?_
 refine S.hq 8 [8] [] [(15, .v (slv h.mem.length ph.mem.1))] .nil fun ac S => ?_
 refine S.hq 9 [9] [] [(16, .p 0 1)] .nil fun ac S => ?_
 refine S.hq 10 [10] [] [(17, .v (slv h.mons.length ph.mons.1))] .nil fun ac S => ?_
 refine S.hq 11 [11] [] [(18, .v (I m))] .nil fun ac S => ?_
 refine S.hq 12 [12] [] [(19, .v (pt ph.mons.1.b (ph.mons.1.off + m.toNat * 9)))] (.cons (qt o5.rn m Tryz.underlying28) .nil) fun ac S => ?_
 refine S.hq 13 [13] [] [(20, .v (pt ph.mons.1.b (ph.mons.1.off + m.toNat * 9)))] .nil fun ac S => ?_
 refine S.hq 14 [14] [] [(21, .v (slv (el h.mons m.toNat).outer.length (ph.mons.2 m.toNat).outer.1))] (.cons (qc o5.rn 69 m.toNat 0 (slv (el h.mons m.toNat).outer.length (ph.mons.2 m.toNat).outer.1)) .nil) fun ac S => ?_
 refine S.hq 15 [15] [] [(22, .v (I page))] .nil fun ac S => ?_
 refine S.hq 16 [16] [] [(23, .v (pt (ph.mons.2 m.toNat).outer.1.b ((ph.mons.2 m.toNat).outer.1.off + page.toNat * 2)))] (.cons (qt (RMon.outer (d := (el h.mons m.toNat)) (LRd.el o5.rn m.toNat (by omega))) page Tryz.underlying69) .nil) fun ac S => ?_
 refine S.hq 17 [17] [] [(24, .v (pt (ph.mons.2 m.toNat).outer.1.b ((ph.mons.2 m.toNat).outer.1.off + page.toNat * 2)))] .nil fun ac S => ?_
 have i19 : In64 (el (el h.mons m.toNat).outer page.toNat).page := (RSlot.page (d := (el (el h.mons m.toNat).outer page.toNat)) (LRd.el (RMon.outer (d := (el h.mons m.toNat)) (LRd.el o5.rn m.toNat (by omega))) page.toNat (by omega)))
 refine S.hq 18 [18] [] [(25, .v (I (el (el h.mons m.toNat).outer page.toNat).page))] (.cons (qc (RMon.outer (d := (el h.mons m.toNat)) (LRd.el o5.rn m.toNat (by omega))) 3 page.toNat 0 (I (el (el h.mons m.toNat).outer page.toNat).page)) .nil) fun ac S => ?_
 refine WD.one (i := 19) (by kernel_rfl) ?_
 refine id (S.k1 26 (c_spec_PageAt w h.mem ph.mem (S.rd o2.rn) (el (el h.mons m.toNat).outer page.toNat).page) fun ac w N q20 F21 S up o22 d23 => ?_)
 refine WD.next S up (by kernel_rfl) ?_
 have d24 := Disj.w d23 o2.sub
 have d25 := Disj.w d23 o5.sub
 have d26 := Disj.w d23 o8.sub
 have d27 := Disj.w d23 o11.sub
 replace o2 := o2.up up
 replace o5 := o5.up up
 replace o8 := o8.up up
 replace o11 := o11.up up
 clear up d23
 refine S.hq 20 [20] [] [(26, .v (slv (f_pageAt h.mem (el (el h.mons m.toNat).outer page.toNat).page).length q20.1)), (27, .v (pt (ph.mons.2 m.toNat).out.1.b ((ph.mons.2 m.toNat).out.1.off + page.toNat * 1)))] (.cons (qt (RMon.out (d := (el h.mons m.toNat)) (LRd.el o5.rn m.toNat (by omega))) page Tryz.underlying22) .nil) fun ac S => ?_
 refine WD.one (i := 21) (by kernel_rfl) ?_
 obtain ⟨F28, o29, s30, b31⟩ := foc2_Mon_out o5 (k := m.toNat) (show m.toNat < h.mons.length by omega)
 have l32 := LRd.le o29.rn
 have n33 := o29.sub
 refine id (S.sV (α := List Int) o29 (t := 61) (k := page.toNat) (off := (ph.mons.2 m.toNat).out.1.off + page.toNat * 1) o22 (Disj.symm (Disj.symm (Disj.part d25 s30))) fun w N F35 q36 S up o34 d37 s38 n39 => ?_)
 refine WD.last (by kernel_rfl) ?_
 have d40 := d37 _ (Disj.symm (Disj.part (Disj.symm d13) s30)) d24 o2.sub
 have d41 := d37 _ (Disj.symm (Disj.part d16 s30)) d26 o8.sub
 have d42 := d37 _ (Disj.symm (Disj.part d17 s30)) d27 o11.sub
 replace o2 := o2.upF (Disj.symm (Disj.part (Disj.symm d13) s30)) up
 replace o8 := o8.upF (Disj.symm (Disj.part d16 s30)) up
 replace o11 := o11.upF (Disj.symm (Disj.part d17 s30)) up
 clear d37 o29
 obtain ⟨p43, o44, c45⟩ := b31 _ _ _ _ _ F21 up o34 s38 d25 (by show [slv _ _] = [slv _ _]; rw [List.length_set]) (fun b h => n39 b (n33 b h))
 clear up o34 n39
 have l46 : (h.mons.set m.toNat ({ el h.mons m.toNat with out := ((el h.mons m.toNat).out.set page.toNat (f_pageAt h.mem (el (el h.mons m.toNat).outer page.toNat).page)) })).length = h.mons.length := List.length_set
 obtain ⟨X47, hX48⟩ : ∃ z, z = h.mons.set m.toNat ({ el h.mons m.toNat with out := ((el h.mons m.toNat).out.set page.toNat (f_pageAt h.mem (el (el h.mons m.toNat).outer page.toNat).page)) }) := ⟨_, rfl⟩
 rw [← hX48] at o44 c45 l46
 obtain ⟨l49, e50⟩ := setm_out hX48 (show m.toNat < h.mons.length by omega) List.length_set
 replace S := S.z (σ' := ⟨[(1, .v (I m)), (2, .v (I page)), (3, .p 0 0), (6, .p 1 0), (26, .v (slv (f_pageAt h.mem (el (el h.mons m.toNat).outer page.toNat).page).length q20.1)), (27, .v (pt (ph.mons.2 m.toNat).out.1.b ((ph.mons.2 m.toNat).out.1.off + page.toNat * 1)))], [[slv h.mem.length ph.mem.1, slv h.mons.length ph.mons.1, slv h.buf.length ph.buf.1, slv h.iobuf.length ph.iobuf.1], Zc THost]⟩)
 replace S := S.cast (σ' := ⟨[(1, .v (I m)), (2, .v (I page)), (3, .p 0 0), (6, .p 1 0), (26, .v (slv (f_pageAt h.mem (el (el h.mons m.toNat).outer page.toNat).page).length q20.1)), (27, .v (pt (ph.mons.2 m.toNat).out.1.b ((ph.mons.2 m.toNat).out.1.off + page.toNat * 1)))], [[slv h.mem.length ph.mem.1, slv X47.length ph.mons.1, slv h.buf.length ph.buf.1, slv h.iobuf.length ph.iobuf.1], Zc THost]⟩) (by rw [show X47.length = h.mons.length by omega])
 refine WD.done (by kernel_rfl) ?_ _
 refine S.ex fun S => ?_
 refine S.go 2 .nil fun ac w β S => ?_
 refine drw ?_
 refine S.draw0 (f := 6) 4 (by kernel_rfl) (by kernel_rfl) fun w S => ?_
 refine S.hq 0 [0] [] [(28, .v (GT.val (⟨h.mem, X47, h.buf, h.iobuf⟩ : THost) (⟨ph.mem, (ph.mons.1, p43), ph.buf, ph.iobuf⟩ : PHost)))] .nil fun ac S => ?_
 refine S.hq 1 [1] [] [(29, .v (I m))] .nil fun ac S => ?_
 refine S.hq 2 [2] [] [(30, .v (I page))] .nil fun ac S => ?_
 refine WD.one (i := 3) (by kernel_rfl) ?_
 refine S.stepq (i := 3) (keep := [6, 28, 29, 30, 31]) (m := 2) (σ' := ⟨[(6, .p 1 0), (28, .v (GT.val (⟨h.mem, X47, h.buf, h.iobuf⟩ : THost) (⟨ph.mem, (ph.mons.1, p43), ph.buf, ph.iobuf⟩ : PHost))), (29, .v (I m)), (30, .v (I page)), (31, .v (GT.val (⟨-1, 0⟩ : TSlot) ()))], [[slv h.mem.length ph.mem.1, slv X47.length ph.mons.1, slv h.buf.length ph.buf.1, slv h.iobuf.length ph.iobuf.1], Zc THost]⟩) (.cons (Q_call fun w hw => c_spec_NoSlot w ) .nil) (by kernel_rfl) fun ac w β S hβ => ?_
 refine WD.stayq S hβ ?_
 clear hβ
 refine WD.one (i := 4) (by kernel_rfl) ?_
 have o51 := ow_Host (x := (⟨h.mem, X47, h.buf, h.iobuf⟩ : THost)) (p := (⟨ph.mem, (ph.mons.1, p43), ph.buf, ph.iobuf⟩ : PHost)) o2 o44 o8 o11 (Disj.symm (Disj.or (Disj.symm d13) (Disj.symm d40))) d14 d15 (Disj.symm (Disj.symm (Disj.or d16 (Disj.symm d41)))) (Disj.symm (Disj.symm (Disj.or d17 (Disj.symm d42)))) d18 
 refine id (S.callT (r := f_slotTo (⟨h.mem, X47, h.buf, h.iobuf⟩ : THost) m page (⟨-1, 0⟩ : TSlot)) (d := 32) o51 (c_spec_l22Slot w (⟨h.mem, X47, h.buf, h.iobuf⟩ : THost) (⟨ph.mem, (ph.mons.1, p43), ph.buf, ph.iobuf⟩ : PHost) (uniB [F1, (Or F4 F35), F7, F10]) (S.ownw o51) (fun b hb => (S.sep b (o51.sub b hb)).1) m page (⟨-1, 0⟩ : TSlot) (show RSlot ⟨-1, 0⟩ from ⟨⟨by decide, by decide⟩, ⟨by decide, by decide⟩⟩) (by (first | omega | (dsimp only; omega)))) fun ac w N q52 F53 S up o54 d55  => ?_)
 refine WD.last (by kernel_rfl) ?_
 clear up d55 o51
 obtain ⟨F56, F59, F62, F65, o57, o60, o63, o66, s58, s61, s64, s67, d68, d69, d70, d71, d72, d73⟩ := sp_Host o54
 refine WD.one (i := 5) (by kernel_rfl) ?_
 refine S.stepq (i := 5) (keep := [6]) (m := 2) (σ' := ⟨[(6, .p 1 0)], [[slv h.mem.length ph.mem.1, slv X47.length ph.mons.1, slv h.buf.length ph.buf.1, slv h.iobuf.length ph.iobuf.1], [slv (f_slotTo (⟨h.mem, X47, h.buf, h.iobuf⟩ : THost) m page (⟨-1, 0⟩ : TSlot)).mem.length q52.mem.1, slv (f_slotTo (⟨h.mem, X47, h.buf, h.iobuf⟩ : THost) m page (⟨-1, 0⟩ : TSlot)).mons.length q52.mons.1, slv (f_slotTo (⟨h.mem, X47, h.buf, h.iobuf⟩ : THost) m page (⟨-1, 0⟩ : TSlot)).buf.length q52.buf.1, slv (f_slotTo (⟨h.mem, X47, h.buf, h.iobuf⟩ : THost) m page (⟨-1, 0⟩ : TSlot)).iobuf.length q52.iobuf.1]]⟩) .nil (by kernel_rfl) fun ac w β S hβ => ?_
 refine WD.last (by kernel_rfl) ?_
 clear hβ
 refine WD.done (by kernel_rfl) ?_ _
 refine S.ex fun S => ?_
 refine S.gr 2 .nil [GT.val (f_slotTo (⟨h.mem, X47, h.buf, h.iobuf⟩ : THost) m page (⟨-1, 0⟩ : TSlot)) q52] fun ac w β S => ?_
 have o74 := ow_Host (x := (f_slotTo (⟨h.mem, X47, h.buf, h.iobuf⟩ : THost) m page (⟨-1, 0⟩ : TSlot))) (p := q52) o57 o60 o63 o66 d68 d69 d70 d71 d72 d73 
 exact retT_of S (show f_send h m page = (f_slotTo (⟨h.mem, X47, h.buf, h.iobuf⟩ : THost) m page (⟨-1, 0⟩ : TSlot)) by clear S; (first | (subst_vars; rfl) | (subst_vars; simp [f_send, f_setM, f_slotTo, f_inval, el_set_self, *]; done))) rfl o74

theorem k0_spec_WithPage {p : Prop} (h : p := by clear S; (unfold f_withPage; (repeat' split) <;> first | rfl | (simp; done) | (exfalso; omega) | (exfalso; simp_all; done) | (exfalso; simp_all; omega))) : p := h
theorem c_spec_WithPage (w0 : World) (m : List (List Int)) (pm : LP (List Int)) (hm : RD w0 m pm) (page : Int) (cells : List Int) (pcells : LP Int) (hcells : RD w0 cells pcells) : Calls Tryz.prog 143 [slv m.length pm.1, I page, slv cells.length pcells.1].toArray w0 (Ret1 NoB w0 (f_withPage m page cells : List (List Int))) := by
 refine Calls.run NoB Tryz.func143 ?_
 intro ac β S
 have hlem : m.length ≤ 4194304 := LRd.le hm
 have hlecells : cells.length ≤ 4194304 := LRd.le hcells
 refine S.go 8 .nil fun ac w β S => S.K1 (r := m) (d := 9) (c_spec_l04Copy w m pm (S.rd (S.arg hm))) fun ac w N q1 F2 S up o3 d4 => ?_
 clear up d4
 refine S.gb 12 (.cons (qm (m.length : Int) 1) (.cons (Q_call fun w hw => c_spec_l01In w page 0 ((m.length : Int) - 1)) .nil)) (f_within page 0 ((m.length : Int) - 1)) (fun ac w β h5 S => ?_) (fun ac w β h5 S => ?_)
 ·have g6 := within_t h5
  refine S.gb 5 (.cons (Q_call fun w hw => c_spec_PageOk w cells pcells (rd_of (S.arg hcells) hw)) .nil) (f_pageOk cells) (fun ac w β h7 S => ?_) (fun ac w β h7 S => ?_)
  ·refine S.go 4 .nil fun ac w β S => S.B0 (α := Int) (d := 21) fun ac w N q8 F9 S up o10 d11 => ?_
   have d12 := Disj.w d11 o3.sub
   replace o3 := o3.up up
   clear up d11
   have b17 : cells.length ≤ 4194304 := LRd.le (S.arg hcells)
   refine S.go 1 .nil fun ac w β S => S.AF0 (α := Int) o10 (S.arg hcells) (fun _ _ h => h) (by' := 8) (d := 23) (lx := 0) (ly := cells.length) rfl fun ac w N q13 F14 S up o15 d16 => ?_
   have d18 := d16 _ d12 o3.sub
   replace o3 := o3.upF d12 up
   clear up d16
   refine S.go 1 (.cons (qt o3.rn page Tryz.underlying22) .nil) fun ac w β S => S.SV (α := List Int) o3 (t := 61) (k := page.toNat) (off := q1.1.off + page.toNat * 1) o15 d18 fun w N F20 q21 S up o19 d22 s23 n24 => ?_
   clear up d22 o3 n24
   have l25 : (m.set page.toNat cells).length = m.length := List.length_set
   refine S.gr 9 .nil [slv m.length q1.1] fun ac w β S => ?_
   exact ret1_of S (show f_withPage m page cells = (m.set page.toNat cells) from k0_spec_WithPage) (by rw [show m.length = (m.set page.toNat cells).length from (by rw [List.length_set])]; rfl) o19
  refine S.gr 10 .nil [slv m.length q1.1] fun ac w β S => ?_
  exact ret1_of S (show f_withPage m page cells = m from k0_spec_WithPage) rfl o3
 have g26 := within_f h5
 refine S.gr 15 .nil [slv m.length q1.1] fun ac w β S => ?_
 exact ret1_of S (show f_withPage m page cells = m from k0_spec_WithPage) rfl o3

theorem c_spec_l22In (w0 : World) (h : THost) (ph : PHost) (F : Bl) (hh : GT.own KK F w0 h ph) (hF : ∀ b, F b → b < w0.heap.size) (m : Int) (page : Int) (pre0 : f_hasPage h m page = true) : Calls Tryz.prog 105 [GT.val h ph, I m, I page].toArray w0 (RetT F F w0 (f_fetch h m page : THost)) := by
 refine Calls.run F Tryz.func105 ?_
 intro ac β S
 have oh : Ow w0 F w0 (Lt w0.heap.size) F h ph := ⟨hh, hF, fun b hb => .inr hb⟩
 obtain ⟨F1, F4, F7, F10, o2, o5, o8, o11, s3, s6, s9, s12, d13, d14, d15, d16, d17, d18⟩ := sp_Host oh
 have hp := hasPage_t (h := h) (m := m) (page := page) (by assumption)
 refine S.go 10 .nil fun ac w β S => S.K1 (r := f_freeIn h) (d := 11) (c_spec_FreeIn w h ph (S.rd (show GT.rd KK _ _ h ph from ⟨o2.rn, o5.rn, o8.rn, o11.rn⟩))) fun ac w N q19 F20 S up o21 d22 => ?_
 have d23 := Disj.w d22 o2.sub
 have d24 := Disj.w d22 o5.sub
 have d25 := Disj.w d22 o8.sub
 have d26 := Disj.w d22 o11.sub
 replace o2 := o2.up up
 replace o5 := o5.up up
 replace o8 := o8.up up
 replace o11 := o11.up up
 clear up d22
 refine S.go 4 .nil fun ac w β S => ?_
 refine cutC S (fun ac w => ∃ (J1 : THost) (q27 : PHost) (F28 : Bl) (u : _) (N : _) (β : _), (J1 = f_room h) ∧ St Tryz.prog Tryz.f105.ntmps w0 F u N β ⟨[(1, .v (I m)), (2, .v (I page)), (3, .p 0 0), (6, .p 1 0)], [GT.cells J1 q27, Zc THost]⟩ ac w ∧ Ow w0 F u N F28 J1 q27) ?_ ?_
 ·clear S; intro S
  refine S.gd 0 .nil (((f_freeIn h).length : Int) == 0) (fun ac w β h31 g32 S => ?_) (fun ac w β h31 g32 S => ?_)
  ·have o33 := ow_Host (x := h) (p := ph) o2 o5 o8 o11 d13 d14 d15 d16 d17 d18 
   obtain ⟨Y1, hT1⟩ : ∃ z, z = (f_send h (f_ownerOfPage h 0).1 (f_ownerOfPage h 0).2) := ⟨_, rfl⟩
   have l38 := sendFirst_bd (h := h) hT1 (hasPage_ok (by assumption)) (by omega) m.toNat
   try dsimp only at l38
   refine S.go 16 (.cons (Q_call fun w hw => c_spec_OwnerOfPage w h ph (rd_of (show GT.rd KK _ _ h ph from ⟨o2.rn, o5.rn, o8.rn, o11.rn⟩) hw) 0) .nil) fun ac w β S => S.KTY (d := 22) o33 hT1 (c_spec_l22Out w h ph (uniB [F1, F4, F7, F10]) (S.ownw o33) (fun b hb => (S.sep b (o33.sub b hb)).1) (f_ownerOfPage h 0).1 (f_ownerOfPage h 0).2 (by (first | omega | (dsimp only; omega) | ((have hsp := sendFirst_pre (hasPage_ok (by assumption)) (show ¬ 0 < (f_freeIn h).length by omega)); omega)))) fun ac w N q34 F35 S up o36 d37  => ?_
   clear up d37 o33
   obtain ⟨F39, F42, F45, F48, o40, o43, o46, o49, s41, s44, s47, s50, d51, d52, d53, d54, d55, d56⟩ := sp_Host o36
   have o57 := ow_Host (x := Y1) (p := q34) o40 o43 o46 o49 d51 d52 d53 d54 d55 d56 
   exact S.gn 2 .nil fun ac w β S => ⟨rfl, Y1, q34, (uniB [F39, F42, F45, F48]), _, _, _, (by clear S; first | exact room_y (by assumption) (by omega) | exact room_n (by omega)), S.z, o57⟩
  have o58 := ow_Host (x := h) (p := ph) o2 o5 o8 o11 d13 d14 d15 d16 d17 d18 
  exact S.gn 2 .nil fun ac w β S => ⟨rfl, h, ph, (uniB [F1, F4, F7, F10]), _, _, _, (by clear S; first | exact room_y (by assumption) (by omega) | exact room_n (by omega)), S.z, o58⟩
 clear S o2 o5 o8 o11 o21
 rintro ac w ⟨J1, q27, F28, u, N, β, hJ1, S, o29⟩
 have hr := room_bd2 hJ1 (by assumption)
 obtain ⟨F59, F62, F65, F68, o60, o63, o66, o69, s61, s64, s67, s70, d71, d72, d73, d74, d75, d76⟩ := sp_Host o29
 refine S.ex fun S => ?_
 refine S.go 4 .nil fun ac w β S => S.K1 (r := f_freeIn J1) (d := 24) (c_spec_FreeIn w J1 q27 (S.rd (show GT.rd KK _ _ J1 q27 from ⟨o60.rn, o63.rn, o66.rn, o69.rn⟩))) fun ac w N q77 F78 S up o79 d80 => ?_
 have d81 := Disj.w d80 o60.sub
 have d82 := Disj.w d80 o63.sub
 have d83 := Disj.w d80 o66.sub
 have d84 := Disj.w d80 o69.sub
 replace o60 := o60.up up
 replace o63 := o63.up up
 replace o66 := o66.up up
 replace o69 := o69.up up
 clear up d80
 have i85 : In64 (el (f_freeIn J1) 0) := (LRd.el o79.rn 0 (by omega))
 refine S.go 6 (.cons (qn o79.rn 0 Tryz.underlying61) (.cons (qx o79.rn 3 0) .nil)) fun ac w β S => ?_
 refine drw ?_
 refine S.draw0 (f := 15) 14 (by kernel_rfl) (by kernel_rfl) fun w S => ?_
 refine S.hq 0 [0] [] [(27, .p 0 0)] .nil fun ac S => ?_
 refine S.hq 1 [1] [] [(28, .v (slv J1.mem.length q27.mem.1))] .nil fun ac S => ?_
 refine S.hq 2 [2] [] [(29, .v (I (el (f_freeIn J1) 0)))] .nil fun ac S => ?_
 refine S.hq 3 [3] [] [(30, .p 0 1)] .nil fun ac S => ?_
 refine S.hq 4 [4] [] [(31, .v (slv J1.mons.length q27.mons.1))] .nil fun ac S => ?_
 refine S.hq 5 [5] [] [(32, .v (I m))] .nil fun ac S => ?_
 refine S.hq 6 [6] [] [(33, .v (pt q27.mons.1.b (q27.mons.1.off + m.toNat * 9)))] (.cons (qt o63.rn m Tryz.underlying28) .nil) fun ac S => ?_
 refine S.hq 7 [7] [] [(34, .v (pt q27.mons.1.b (q27.mons.1.off + m.toNat * 9 + 1)))] .nil fun ac S => ?_
 refine S.hq 8 [8] [] [(35, .v (slv (el J1.mons m.toNat).out.length (q27.mons.2 m.toNat).out.1))] (.cons (qc o63.rn 22 m.toNat 1 (slv (el J1.mons m.toNat).out.length (q27.mons.2 m.toNat).out.1)) .nil) fun ac S => ?_
 refine S.hq 9 [9] [] [(36, .v (I page))] .nil fun ac S => ?_
 refine S.hq 10 [10] [] [(37, .v (pt (q27.mons.2 m.toNat).out.1.b ((q27.mons.2 m.toNat).out.1.off + page.toNat * 1)))] (.cons (qt (RMon.out (d := (el J1.mons m.toNat)) (LRd.el o63.rn m.toNat (by omega))) page Tryz.underlying22) .nil) fun ac S => ?_
 refine S.hq 11 [11] [] [(38, .v (slv (el (el J1.mons m.toNat).out page.toNat).length ((q27.mons.2 m.toNat).out.2 page.toNat).1))] (.cons (qx (RMon.out (d := (el J1.mons m.toNat)) (LRd.el o63.rn m.toNat (by omega))) 61 page.toNat) .nil) fun ac S => ?_
 refine WD.one (i := 12) (by kernel_rfl) ?_
 refine id (S.k1 39 (c_spec_WithPage w J1.mem q27.mem (S.rd o60.rn) (el (f_freeIn J1) 0) (el (el J1.mons m.toNat).out page.toNat) ((q27.mons.2 m.toNat).out.2 page.toNat) (S.rd (LRd.el (RMon.out (d := (el J1.mons m.toNat)) (LRd.el o63.rn m.toNat (by omega))) page.toNat (by omega)))) fun ac w N q86 F87 S up o88 d89 => ?_)
 refine WD.next S up (by kernel_rfl) ?_
 have d90 := Disj.w d89 o60.sub
 have d91 := Disj.w d89 o63.sub
 have d92 := Disj.w d89 o66.sub
 have d93 := Disj.w d89 o69.sub
 replace o60 := o60.up up
 replace o63 := o63.up up
 replace o66 := o66.up up
 replace o69 := o69.up up
 clear up d89
 refine S.hq 13 [13] [] [(39, .v (slv (f_withPage J1.mem (el (f_freeIn J1) 0) (el (el J1.mons m.toNat).out page.toNat)).length q86.1)), (40, .p 0 0)] .nil fun ac S => ?_
 refine WD.one (i := 14) (by kernel_rfl) ?_
 refine S.stepq (i := 14) (keep := [1, 2, 3, 6, 9]) (m := 2) (σ' := ⟨[(1, .v (I m)), (2, .v (I page)), (3, .p 0 0), (6, .p 1 0), (9, .v (I (el (f_freeIn J1) 0)))], [[slv (f_withPage J1.mem (el (f_freeIn J1) 0) (el (el J1.mons m.toNat).out page.toNat)).length q86.1, slv J1.mons.length q27.mons.1, slv J1.buf.length q27.buf.1, slv J1.iobuf.length q27.iobuf.1], Zc THost]⟩) .nil (by kernel_rfl) fun ac w β S hβ => ?_
 refine WD.last (by kernel_rfl) ?_
 clear hβ
 refine WD.done (by kernel_rfl) ?_ _
 refine S.ex fun S => ?_
 refine S.go 10 (.cons (qt o63.rn m Tryz.underlying28) (.cons (qc o63.rn 22 m.toNat 1 (slv (el J1.mons m.toNat).out.length (q27.mons.2 m.toNat).out.1)) .nil)) fun ac w β S => S.B0 (α := Int) (d := 48) fun ac w N q94 F95 S up o96 d97 => ?_
 have d98 := Disj.w d97 o63.sub
 have d99 := Disj.w d97 o66.sub
 have d100 := Disj.w d97 o69.sub
 have d101 := Disj.w d97 o88.sub
 replace o63 := o63.up up
 replace o66 := o66.up up
 replace o69 := o69.up up
 replace o88 := o88.up up
 clear up d97
 obtain ⟨F102, o103, s104, b105⟩ := foc2_Mon_out o63 (k := m.toNat) (show m.toNat < J1.mons.length by omega)
 have l106 := LRd.le o103.rn
 have n107 := o103.sub
 refine S.go 1 (.cons (qt (RMon.out (d := (el J1.mons m.toNat)) (LRd.el o63.rn m.toNat (by omega))) page Tryz.underlying22) .nil) fun ac w β S => S.SV (α := List Int) o103 (t := 61) (k := page.toNat) (off := (q27.mons.2 m.toNat).out.1.off + page.toNat * 1) o96 (Disj.symm (Disj.symm (Disj.part d98 s104))) fun w N F109 q110 S up o108 d111 s112 n113 => ?_
 have d114 := d111 _ (Disj.symm (Disj.part d74 s104)) d99 o66.sub
 have d115 := d111 _ (Disj.symm (Disj.part d75 s104)) d100 o69.sub
 have d116 := d111 _ (Disj.symm (Disj.part d91 s104)) d101 o88.sub
 replace o66 := o66.upF (Disj.symm (Disj.part d74 s104)) up
 replace o69 := o69.upF (Disj.symm (Disj.part d75 s104)) up
 replace o88 := o88.upF (Disj.symm (Disj.part d91 s104)) up
 clear d111 o103
 obtain ⟨p117, o118, c119⟩ := b105 _ _ _ _ _ F95 up o108 s112 d98 (by show [slv _ _] = [slv _ _]; rw [List.length_set]) (fun b h => n113 b (n107 b h))
 clear up o108 n113
 have l120 : (J1.mons.set m.toNat ({ el J1.mons m.toNat with out := ((el J1.mons m.toNat).out.set page.toNat ([] : List Int)) })).length = J1.mons.length := List.length_set
 obtain ⟨X121, hX122⟩ : ∃ z, z = J1.mons.set m.toNat ({ el J1.mons m.toNat with out := ((el J1.mons m.toNat).out.set page.toNat ([] : List Int)) }) := ⟨_, rfl⟩
 rw [← hX122] at o118 c119 l120
 obtain ⟨l123, e124⟩ := setm_out hX122 (show m.toNat < J1.mons.length by omega) List.length_set
 replace S := S.z (σ' := ⟨[(1, .v (I m)), (2, .v (I page)), (3, .p 0 0), (6, .p 1 0), (9, .v (I (el (f_freeIn J1) 0))), (48, .v (slv 0 q94.1)), (49, .v (pt (q27.mons.2 m.toNat).out.1.b ((q27.mons.2 m.toNat).out.1.off + page.toNat * 1)))], [[slv (f_withPage J1.mem (el (f_freeIn J1) 0) (el (el J1.mons m.toNat).out page.toNat)).length q86.1, slv J1.mons.length q27.mons.1, slv J1.buf.length q27.buf.1, slv J1.iobuf.length q27.iobuf.1], Zc THost]⟩)
 replace S := S.cast (σ' := ⟨[(1, .v (I m)), (2, .v (I page)), (3, .p 0 0), (6, .p 1 0), (9, .v (I (el (f_freeIn J1) 0))), (48, .v (slv 0 q94.1)), (49, .v (pt (q27.mons.2 m.toNat).out.1.b ((q27.mons.2 m.toNat).out.1.off + page.toNat * 1)))], [[slv (f_withPage J1.mem (el (f_freeIn J1) 0) (el (el J1.mons m.toNat).out page.toNat)).length q86.1, slv X121.length q27.mons.1, slv J1.buf.length q27.buf.1, slv J1.iobuf.length q27.iobuf.1], Zc THost]⟩) (by rw [show X121.length = J1.mons.length by omega])
 have o125 := ow_Host (x := (⟨(f_withPage J1.mem (el (f_freeIn J1) 0) (el (el J1.mons m.toNat).out page.toNat)), X121, J1.buf, J1.iobuf⟩ : THost)) (p := (⟨q86, (q27.mons.1, p117), q27.buf, q27.iobuf⟩ : PHost)) o88 o118 o66 o69 (Disj.symm (Disj.or d91 (Disj.symm d116))) (Disj.symm d92) (Disj.symm d93) (Disj.symm (Disj.symm (Disj.or d74 (Disj.symm d114)))) (Disj.symm (Disj.symm (Disj.or d75 (Disj.symm d115)))) d76 
 obtain ⟨Y1, hT1⟩ : ∃ z, z = (f_slotTo (⟨(f_withPage J1.mem (el (f_freeIn J1) 0) (el (el J1.mons m.toNat).out page.toNat)), X121, J1.buf, J1.iobuf⟩ : THost) m page (⟨(el (f_freeIn J1) 0), 3⟩ : TSlot)) := ⟨_, rfl⟩
 refine S.is fun S => ?_
 refine S.go 9 (.cons (Q_sem (s := Instr.build 92 [(0, I (el (f_freeIn J1) 0)), (1, I 3)].toArray) (v := .agg [I (el (f_freeIn J1) 0), I 3].toArray) (fun w => by kernel_rfl)) .nil) fun ac w β S => S.KTY (d := 55) o125 hT1 (c_spec_l22Slot w (⟨(f_withPage J1.mem (el (f_freeIn J1) 0) (el (el J1.mons m.toNat).out page.toNat)), X121, J1.buf, J1.iobuf⟩ : THost) (⟨q86, (q27.mons.1, p117), q27.buf, q27.iobuf⟩ : PHost) (uniB [F87, (Or F62 F109), F65, F68]) (S.ownw o125) (fun b hb => (S.sep b (o125.sub b hb)).1) m page (⟨(el (f_freeIn J1) 0), 3⟩ : TSlot) (show RSlot (⟨(el (f_freeIn J1) 0), 3⟩ : TSlot) from ⟨i85, (show In64 3 from ⟨by decide, by decide⟩)⟩) (by (first | omega | (dsimp only; omega)))) fun ac w N q126 F127 S up o128 d129  => ?_
 clear up d129 o125
 obtain ⟨F130, F133, F136, F139, o131, o134, o137, o140, s132, s135, s138, s141, d142, d143, d144, d145, d146, d147⟩ := sp_Host o128
 refine S.gr 4 .nil [GT.val Y1 q126] fun ac w β S => ?_
 have o148 := ow_Host (x := Y1) (p := q126) o131 o134 o137 o140 d142 d143 d144 d145 d146 d147 
 exact retT_of S (show f_fetch h m page = Y1 by clear S; subst hT1; (unfold f_fetch; first | (subst_vars; rfl) | (subst_vars; simp [f_putIn, f_setM, f_slotTo, f_inval, el_set_self, *]; done))) rfl o148

theorem k1_spec_l22Mend {p : Prop} (h : p := by clear S; (first | (rw [mend_n (by assumption) hJ1.symm (enough_n (by omega) (by assumption))]; done) | (rw [mend_w (by assumption) hJ1.symm (enough_y (by omega) (by assumption)) (by assumption) (enough_y (mid_rights (by assumption) hJ1.symm (by assumption)) (by assumption))]; done) | (rw [mend_s (by assumption) hJ1.symm (enough_y (by omega) (by assumption)) (by assumption) (enough_n (mid_rights (by assumption) hJ1.symm (by assumption)) (by assumption))]; done))) : p := h
theorem c_spec_l22Mend (w0 : World) (h : THost) (ph : PHost) (F : Bl) (hh : GT.own KK F w0 h ph) (hF : ∀ b, F b → b < w0.heap.size) (m : Int) (page : Int) (need : Int) (pre0 : f_hasPage h m page = true) (pre1 : 1 ≤ need) (pre2 : need ≤ 3) : Calls Tryz.prog 59 [GT.val h ph, I m, I page, I need].toArray w0 (RetT F F w0 (f_mend h m page need : THost)) := by
 refine Calls.run F Tryz.func59 ?_
 intro ac β S
 have oh : Ow w0 F w0 (Lt w0.heap.size) F h ph := ⟨hh, hF, fun b hb => .inr hb⟩
 obtain ⟨F1, F4, F7, F10, o2, o5, o8, o11, s3, s6, s9, s12, d13, d14, d15, d16, d17, d18⟩ := sp_Host oh
 have hp := hasPage_t (h := h) (m := m) (page := page) (by assumption)
 refine S.go 10 (.cons (qt o5.rn m Tryz.underlying28) (.cons (qc o5.rn 69 m.toNat 0 (slv (el h.mons m.toNat).outer.length (ph.mons.2 m.toNat).outer.1)) (.cons (qt (RMon.outer (d := (el h.mons m.toNat)) (LRd.el o5.rn m.toNat (by omega))) page Tryz.underlying69) (.cons (qs (RMon.outer (d := (el h.mons m.toNat)) (LRd.el o5.rn m.toNat (by omega))) 92 page.toNat) (.cons (Q_call fun w hw => c_spec_NoSlot w ) (.cons (Eq_eq_Slot (t := 92) (el (el h.mons m.toNat).outer page.toNat) (⟨-1, 0⟩ : TSlot) (by kernel_rfl)) .nil)))))) fun ac w β S => ?_
 refine cutC S (fun ac w => ∃ (J1 : THost) (q19 : PHost) (F20 : Bl) (u : _) (N : _) (β : _), (J1 = f_mid h m page) ∧ St Tryz.prog Tryz.f59.ntmps w0 F u N β ⟨[(1, .v (I m)), (2, .v (I page)), (3, .v (I need)), (4, .p 0 0), (8, .p 1 0)], [GT.cells J1 q19, Zc THost]⟩ ac w ∧ Ow w0 F u N F20 J1 q19) ?_ ?_
 ·clear S; intro S
  refine S.gb 0 .nil (decide ((el (el h.mons m.toNat).outer page.toNat) = (⟨-1, 0⟩ : TSlot))) (fun ac w β h23 S => ?_) (fun ac w β h23 S => ?_)
  ·have o24 := ow_Host (x := h) (p := ph) o2 o5 o8 o11 d13 d14 d15 d16 d17 d18 
   obtain ⟨Y1, hT1⟩ : ∃ z, z = (f_fetch h m page) := ⟨_, rfl⟩
   have l29 := fetch_bd hT1 (by assumption)
   try dsimp only at l29
   refine S.go 5 .nil fun ac w β S => S.KTY (d := 24) o24 hT1 (c_spec_l22In w h ph (uniB [F1, F4, F7, F10]) (S.ownw o24) (fun b hb => (S.sep b (o24.sub b hb)).1) m page (by (first | assumption | exact hasPage_ok (by assumption) | omega | (dsimp only; omega)))) fun ac w N q25 F26 S up o27 d28  => ?_
   clear up d28 o24
   obtain ⟨F30, F33, F36, F39, o31, o34, o37, o40, s32, s35, s38, s41, d42, d43, d44, d45, d46, d47⟩ := sp_Host o27
   have o48 := ow_Host (x := Y1) (p := q25) o31 o34 o37 o40 d42 d43 d44 d45 d46 d47 
   exact S.gn 2 .nil fun ac w β S => ⟨rfl, Y1, q25, (uniB [F30, F33, F36, F39]), _, _, _, (by clear S; first | exact (mid_out (by assumption) (by assumption)).symm | exact (mid_in (by assumption)).symm | exact mid_outY (by assumption) (of_decide_eq_true (by assumption)) | exact (mid_inS (by assumption) (of_decide_eq_false (by assumption))).symm | exact mid_outY (by assumption) (by assumption) | exact (mid_inS (by assumption) (by assumption)).symm), S.z, o48⟩
  have o49 := ow_Host (x := h) (p := ph) o2 o5 o8 o11 d13 d14 d15 d16 d17 d18 
  exact S.gn 2 .nil fun ac w β S => ⟨rfl, h, ph, (uniB [F1, F4, F7, F10]), _, _, _, (by clear S; first | exact (mid_out (by assumption) (by assumption)).symm | exact (mid_in (by assumption)).symm | exact mid_outY (by assumption) (of_decide_eq_true (by assumption)) | exact (mid_inS (by assumption) (of_decide_eq_false (by assumption))).symm | exact mid_outY (by assumption) (by assumption) | exact (mid_inS (by assumption) (by assumption)).symm), S.z, o49⟩
 clear S o2 o5 o8 o11
 rintro ac w ⟨J1, q19, F20, u, N, β, hJ1, S, o21⟩
 have hr := mid_bd hJ1 (by assumption)
 obtain ⟨F50, F53, F56, F59, o51, o54, o57, o60, s52, s55, s58, s61, d62, d63, d64, d65, d66, d67⟩ := sp_Host o21
 refine S.ex fun S => ?_
 refine S.gd 9 (.cons (Q_land64 (x := need) (y := 2)) .nil) ((land64 need 2) == 0) (fun ac w β h68 g69 S => ?_) (fun ac w β h68 g69 S => ?_)
 ·refine S.gr 8 .nil [GT.val J1 q19] fun ac w β S => ?_
  have o70 := ow_Host (x := J1) (p := q19) o51 o54 o57 o60 d62 d63 d64 d65 d66 d67 
  exact retT_of S (show f_mend h m page need = J1 from k1_spec_l22Mend) rfl o70
 obtain ⟨F71, o72, s73, b74⟩ := foc2_Mon_dirty o54 (k := m.toNat) (show m.toNat < J1.mons.length by omega)
 have l75 := LRd.le o72.rn
 have n76 := o72.sub
 refine S.go 13 (.cons (qt o54.rn m Tryz.underlying28) (.cons (qc o54.rn 64 m.toNat 2 (slv (el J1.mons m.toNat).dirty.length (q19.mons.2 m.toNat).dirty.1)) (.cons (qt (RMon.dirty (d := (el J1.mons m.toNat)) (LRd.el o54.rn m.toNat (by omega))) page Tryz.underlying64) .nil))) fun ac w β S => S.SF (α := Bool) o72 (t := 4) (k := page.toNat) (j := 0) (off := (q19.mons.2 m.toNat).dirty.1.off + page.toNat * 1) (v := B true) (y := true) (q := ()) (fun _ _ _ => ⟨NoB, trivial, fun _ h => False.elim h⟩) fun w N F78 q79 S up o77 d80 s81 n82 => ?_
 have d83 := d80 _ (Disj.symm (Disj.part (Disj.symm d62) s73)) (fun b _ h => False.elim h) o51.sub
 have d84 := d80 _ (Disj.symm (Disj.part d65 s73)) (fun b _ h => False.elim h) o57.sub
 have d85 := d80 _ (Disj.symm (Disj.part d66 s73)) (fun b _ h => False.elim h) o60.sub
 replace o51 := o51.upF (Disj.symm (Disj.part (Disj.symm d62) s73)) up
 replace o57 := o57.upF (Disj.symm (Disj.part d65 s73)) up
 replace o60 := o60.upF (Disj.symm (Disj.part d66 s73)) up
 clear d80 o72
 obtain ⟨p86, o87, c88⟩ := b74 _ _ _ _ _ NoB up o77 s81 (fun b _ h => False.elim h) (by show [slv _ _] = [slv _ _]; rw [List.length_set]) (fun b h => n82 b (n76 b h))
 clear up o77 n82
 have l89 : (J1.mons.set m.toNat ({ el J1.mons m.toNat with dirty := ((el J1.mons m.toNat).dirty.set page.toNat true) })).length = J1.mons.length := List.length_set
 obtain ⟨X90, hX91⟩ : ∃ z, z = J1.mons.set m.toNat ({ el J1.mons m.toNat with dirty := ((el J1.mons m.toNat).dirty.set page.toNat true) }) := ⟨_, rfl⟩
 rw [← hX91] at o87 c88 l89
 obtain ⟨l92, e93⟩ := setm_dirty hX91 (show m.toNat < J1.mons.length by omega) List.length_set
 replace S := S.z (σ' := ⟨[(1, .v (I m)), (2, .v (I page)), (4, .p 0 0), (8, .p 1 0), (36, .v (pt (q19.mons.2 m.toNat).dirty.1.b ((q19.mons.2 m.toNat).dirty.1.off + page.toNat * 1)))], [[slv J1.mem.length q19.mem.1, slv J1.mons.length q19.mons.1, slv J1.buf.length q19.buf.1, slv J1.iobuf.length q19.iobuf.1], Zc THost]⟩)
 replace S := S.cast (σ' := ⟨[(1, .v (I m)), (2, .v (I page)), (4, .p 0 0), (8, .p 1 0), (36, .v (pt (q19.mons.2 m.toNat).dirty.1.b ((q19.mons.2 m.toNat).dirty.1.off + page.toNat * 1)))], [[slv J1.mem.length q19.mem.1, slv X90.length q19.mons.1, slv J1.buf.length q19.buf.1, slv J1.iobuf.length q19.iobuf.1], Zc THost]⟩) (by rw [show X90.length = J1.mons.length by omega])
 refine S.is fun S => ?_
 refine S.gd 26 (.cons (qt o87.rn m Tryz.underlying28) (.cons (qc o87.rn 69 m.toNat 0 (slv (el X90 m.toNat).outer.length ((q19.mons.1, p86).2 m.toNat).outer.1)) (.cons (qt (RMon.outer (d := (el X90 m.toNat)) (LRd.el o87.rn m.toNat (by omega))) page Tryz.underlying69) (.cons (qs (RMon.outer (d := (el X90 m.toNat)) (LRd.el o87.rn m.toNat (by omega))) 92 page.toNat) (.cons (Q_land64 (x := (el (el X90 m.toNat).outer page.toNat).rights) (y := 2)) .nil))))) ((land64 (el (el X90 m.toNat).outer page.toNat).rights 2) == 0) (fun ac w β h94 g95 S => ?_) (fun ac w β h94 g95 S => ?_)
 ·have o96 := ow_Host (x := (⟨J1.mem, X90, J1.buf, J1.iobuf⟩ : THost)) (p := (⟨q19.mem, (q19.mons.1, p86), q19.buf, q19.iobuf⟩ : PHost)) o51 o87 o57 o60 (Disj.symm (Disj.or (Disj.symm d62) (Disj.symm d83))) d63 d64 (Disj.symm (Disj.symm (Disj.or d65 (Disj.symm d84)))) (Disj.symm (Disj.symm (Disj.or d66 (Disj.symm d85)))) d67 
  obtain ⟨Y1, hT1⟩ : ∃ z, z = (f_slotTo (⟨J1.mem, X90, J1.buf, J1.iobuf⟩ : THost) m page (⟨(el (el X90 m.toNat).outer page.toNat).page, 3⟩ : TSlot)) := ⟨_, rfl⟩
  refine S.go 8 (.cons (Q_sem (s := Instr.build 92 [(0, I (el (el X90 m.toNat).outer page.toNat).page), (1, I 3)].toArray) (v := .agg [I (el (el X90 m.toNat).outer page.toNat).page, I 3].toArray) (fun w => by kernel_rfl)) .nil) fun ac w β S => S.KTY (d := 56) o96 hT1 (c_spec_l22Slot w (⟨J1.mem, X90, J1.buf, J1.iobuf⟩ : THost) (⟨q19.mem, (q19.mons.1, p86), q19.buf, q19.iobuf⟩ : PHost) (uniB [F50, (Or F53 F78), F56, F59]) (S.ownw o96) (fun b hb => (S.sep b (o96.sub b hb)).1) m page (⟨(el (el X90 m.toNat).outer page.toNat).page, 3⟩ : TSlot) (show RSlot (⟨(el (el X90 m.toNat).outer page.toNat).page, 3⟩ : TSlot) from ⟨(RSlot.page (d := (el (el X90 m.toNat).outer page.toNat)) (LRd.el (RMon.outer (d := (el X90 m.toNat)) (LRd.el o87.rn m.toNat (by omega))) page.toNat (by omega))), (show In64 3 from ⟨by decide, by decide⟩)⟩) (by (first | omega | (dsimp only; omega)))) fun ac w N q97 F98 S up o99 d100  => ?_
  clear up d100 o96
  obtain ⟨F101, F104, F107, F110, o102, o105, o108, o111, s103, s106, s109, s112, d113, d114, d115, d116, d117, d118⟩ := sp_Host o99
  refine S.gr 10 .nil [GT.val Y1 q97] fun ac w β S => ?_
  have o119 := ow_Host (x := Y1) (p := q97) o102 o105 o108 o111 d113 d114 d115 d116 d117 d118 
  exact retT_of S (show f_mend h m page need = Y1 by clear S; subst hT1; (first | (rw [mend_n (by assumption) hJ1.symm (enough_n (by omega) (by assumption))]; done) | (rw [mend_w (by assumption) hJ1.symm (enough_y (by omega) (by assumption)) (by assumption) (enough_y (mid_rights (by assumption) hJ1.symm (by assumption)) (by assumption))]; done) | (rw [mend_s (by assumption) hJ1.symm (enough_y (by omega) (by assumption)) (by assumption) (enough_n (mid_rights (by assumption) hJ1.symm (by assumption)) (by assumption))]; done))) rfl o119
 refine S.gr 10 .nil [GT.val (⟨J1.mem, X90, J1.buf, J1.iobuf⟩ : THost) (⟨q19.mem, (q19.mons.1, p86), q19.buf, q19.iobuf⟩ : PHost)] fun ac w β S => ?_
 have o120 := ow_Host (x := (⟨J1.mem, X90, J1.buf, J1.iobuf⟩ : THost)) (p := (⟨q19.mem, (q19.mons.1, p86), q19.buf, q19.iobuf⟩ : PHost)) o51 o87 o57 o60 (Disj.symm (Disj.or (Disj.symm d62) (Disj.symm d83))) d63 d64 (Disj.symm (Disj.symm (Disj.or d65 (Disj.symm d84)))) (Disj.symm (Disj.symm (Disj.or d66 (Disj.symm d85)))) d67 
 exact retT_of S (show f_mend h m page need = (⟨J1.mem, X90, J1.buf, J1.iobuf⟩ : THost) from k1_spec_l22Mend) rfl o120

theorem k0_spec_BothRights {p : Prop} (h : p := by clear S; (unfold f_bothRights; (repeat' split) <;> first | rfl | (exfalso; omega) | (exfalso; simp_all; done) | (exfalso; simp_all; omega) | (simp_all; done))) : p := h
theorem c_spec_BothRights (w0 : World) (a : Int) (b : Int) : Calls Tryz.prog 146 [I a, I b].toArray w0 (fun e w' => e = .returned (I (f_bothRights a b)) ∧ Chg NoB w0 w') := by
 refine Calls.run NoB Tryz.func146 ?_
 intro ac β S
 refine S.gb 12 (.cons (Q_call fun w hw => c_spec_RightsOk w a) .nil) (!(f_within a 0 3)) (fun ac w β h1 S => ?_) (fun ac w β h1 S => ?_)
 ·have h2 := not_t h1
  have g3 := within_f h2
  exact S.gf 13 .nil [I 0] (retI k0_spec_BothRights)
 have h4 := not_f h1
 have g5 := within_t h4
 refine S.gb 6 (.cons (Q_call fun w hw => c_spec_RightsOk w b) .nil) (!(f_within b 0 3)) (fun ac w β h6 S => ?_) (fun ac w β h6 S => ?_)
 ·have h7 := not_t h6
  have g8 := within_f h7
  exact S.gf 7 .nil [I 0] (retI k0_spec_BothRights)
 have h9 := not_f h6
 have g10 := within_t h9
 exact S.gf 12 (.cons (Q_land64 (x := a) (y := b)) .nil) [I (land64 a b)] (retI k0_spec_BothRights)

theorem k0_spec_ComposeSlot {p : Prop} (h : p := by clear S; (unfold f_composeSlot; (repeat' split) <;> first | rfl | (exfalso; omega) | (exfalso; simp_all; done) | (exfalso; simp_all; omega) | (simp_all; done))) : p := h
theorem c_spec_ComposeSlot (w0 : World) (inner : TSlot) (outer : List TSlot) (pouter : LP TSlot) (houter : RD w0 outer pouter) : Calls Tryz.prog 107 [GT.val inner (), slv outer.length pouter.1].toArray w0 (fun e w' => e = .returned (GT.val (f_composeSlot inner outer) ()) ∧ Chg NoB w0 w') := by
 refine Calls.run NoB Tryz.func107 ?_
 intro ac β S
 have hleouter : outer.length ≤ 4194304 := LRd.le houter
 refine S.gd 33 (.cons (Q_call fun w hw => c_spec_SlotAt w outer pouter (rd_of (S.arg houter) hw) inner.page) (.cons (Q_call fun w hw => c_spec_BothRights w inner.rights (f_slotAt outer inner.page).rights) .nil)) (inner.page == (-1)) (fun ac w β h1 g2 S => ?_) (fun ac w β h1 g2 S => ?_)
 ·exact S.gf 18 (.cons (Q_call fun w hw => c_spec_NoSlot w ) .nil) [GT.val (⟨-1, 0⟩ : TSlot) ()] (retV (p := ()) k0_spec_ComposeSlot)
 refine S.gd 5 .nil ((f_slotAt outer inner.page).page == (-1)) (fun ac w β h3 g4 S => ?_) (fun ac w β h3 g4 S => ?_)
 ·exact S.gf 13 (.cons (Q_call fun w hw => c_spec_NoSlot w ) .nil) [GT.val (⟨-1, 0⟩ : TSlot) ()] (retV (p := ()) k0_spec_ComposeSlot)
 refine S.gd 5 .nil ((f_bothRights inner.rights (f_slotAt outer inner.page).rights) == 0) (fun ac w β h5 g6 S => ?_) (fun ac w β h5 g6 S => ?_)
 ·exact S.gf 8 (.cons (Q_call fun w hw => c_spec_NoSlot w ) .nil) [GT.val (⟨-1, 0⟩ : TSlot) ()] (retV (p := ()) k0_spec_ComposeSlot)
 exact S.gf 13 (.cons (Q_sem (s := Instr.build 92 [(0, I (f_slotAt outer inner.page).page), (1, I (f_bothRights inner.rights (f_slotAt outer inner.page).rights))].toArray) (v := .agg [I (f_slotAt outer inner.page).page, I (f_bothRights inner.rights (f_slotAt outer inner.page).rights)].toArray) (fun w => by kernel_rfl)) .nil) [GT.val (⟨(f_slotAt outer inner.page).page, (f_bothRights inner.rights (f_slotAt outer inner.page).rights)⟩ : TSlot) ()] (retV (p := ()) k0_spec_ComposeSlot)

theorem k0_spec_Fill {p : Prop} (h : p := by clear S; (unfold f_fill; (repeat' split) <;> first | rfl | (exfalso; omega) | (exfalso; simp_all; done) | (exfalso; simp_all; omega) | (simp_all; done))) : p := h
theorem c_spec_Fill (w0 : World) (k : TKept) (pk : PKept) (hk : RD w0 k pk) (inner : List TSlot) (pinner : LP TSlot) (hinner : RD w0 inner pinner) (outer : List TSlot) (pouter : LP TSlot) (houter : RD w0 outer pouter) (page : Int) : Calls Tryz.prog 60 [GT.val k pk, slv inner.length pinner.1, slv outer.length pouter.1, I page].toArray w0 (Ret1 NoB w0 (f_fill k inner outer page : TKept)) := by
 refine Calls.run NoB Tryz.func60 ?_
 intro ac β S
 have hlek_known : k.known.length ≤ 4194304 := LRd.le (RKept.known (d := k) hk)
 have hlek_slots : k.slots.length ≤ 4194304 := LRd.le (RKept.slots (d := k) hk)
 have hleinner : inner.length ≤ 4194304 := LRd.le hinner
 have hleouter : outer.length ≤ 4194304 := LRd.le houter
 refine S.go 9 .nil fun ac w β S => S.K1 (r := k) (d := 10) (c_spec_l07Copy w k pk (S.rd (S.arg hk))) fun ac w N q1 F2 S up o3 d4 => ?_
 clear up d4
 obtain ⟨F5, F8, o6, o9, s7, s10, d11⟩ := sp_Kept o3
 refine S.gb 10 (.cons (Q_call fun w hw => c_spec_l07Has w k q1 (rd_of (show GT.rd KK _ _ k q1 from ⟨o6.rn, o9.rn⟩) hw) page) .nil) (decide ((0 ≤ page ∧ page < k.known.length) ∧ page < k.slots.length)) (fun ac w β h12 S => ?_) (fun ac w β h12 S => ?_)
 ·have g13 := of_decide_eq_true h12
  refine S.gd 7 .nil (decide (page < (inner.length : Int))) (fun ac w β h14 g15 S => ?_) (fun ac w β h14 g15 S => ?_)
  ·refine S.go 7 (.cons (qt o6.rn page Tryz.underlying64) .nil) fun ac w β S => S.SF (α := Bool) o6 (t := 4) (k := page.toNat) (j := 0) (off := q1.known.1.off + page.toNat * 1) (v := B true) (y := true) (q := ()) (fun _ _ _ => ⟨NoB, trivial, fun _ h => False.elim h⟩) fun w N F17 q18 S up o16 d19 s20 n21 => ?_
   have d22 := d19 _ (Disj.symm d11) (fun b _ h => False.elim h) o9.sub
   replace o9 := o9.upF (Disj.symm d11) up
   clear up d19 o6 n21
   have l23 : (k.known.set page.toNat true).length = k.known.length := List.length_set
   replace S := S.z (σ' := ⟨[(1, .v (slv inner.length pinner.1)), (2, .v (slv outer.length pouter.1)), (3, .v (I page)), (4, .p 0 0), (8, .p 1 0), (23, .v (pt q1.known.1.b (q1.known.1.off + page.toNat * 1)))], [[slv k.known.length q1.known.1, slv k.slots.length q1.slots.1], Zc TKept]⟩)
   replace S := S.cast (σ' := ⟨[(1, .v (slv inner.length pinner.1)), (2, .v (slv outer.length pouter.1)), (3, .v (I page)), (4, .p 0 0), (8, .p 1 0), (23, .v (pt q1.known.1.b (q1.known.1.off + page.toNat * 1)))], [[slv (k.known.set page.toNat true).length q1.known.1, slv k.slots.length q1.slots.1], Zc TKept]⟩) (by rw [show (k.known.set page.toNat true).length = k.known.length by omega])
   refine S.is fun S => ?_
   refine S.go 2 .nil fun ac w β S => ?_
   refine drw ?_
   refine S.draw0 (f := 11) 10 (by kernel_rfl) (by kernel_rfl) fun w S => ?_
   refine S.hq 0 [0] [] [(24, .p 0 1)] .nil fun ac S => ?_
   refine S.hq 1 [1] [] [(25, .v (slv k.slots.length q1.slots.1))] .nil fun ac S => ?_
   refine S.hq 2 [2] [] [(26, .v (I page))] .nil fun ac S => ?_
   refine S.hq 3 [3] [] [(27, .v (slv inner.length pinner.1))] .nil fun ac S => ?_
   refine S.hq 4 [4] [] [(28, .v (I page))] .nil fun ac S => ?_
   refine S.hq 5 [5] [] [(29, .v (pt pinner.1.b (pinner.1.off + page.toNat * 2)))] (.cons (qt (S.arg hinner) page Tryz.underlying69) .nil) fun ac S => ?_
   refine S.hq 6 [6] [] [(30, .v (GT.val (el inner page.toNat) ()))] (.cons (qs (S.arg hinner) 92 page.toNat) .nil) fun ac S => ?_
   refine S.hq 7 [7] [] [(31, .v (slv outer.length pouter.1))] .nil fun ac S => ?_
   refine WD.one (i := 8) (by kernel_rfl) ?_
   refine S.stepq (i := 8) (keep := [4, 8, 25, 26, 32]) (m := 2) (σ' := ⟨[(4, .p 0 0), (8, .p 1 0), (25, .v (slv k.slots.length q1.slots.1)), (26, .v (I page)), (32, .v (GT.val (f_composeSlot (el inner page.toNat) outer) ()))], [[slv (k.known.set page.toNat true).length q1.known.1, slv k.slots.length q1.slots.1], Zc TKept]⟩) (.cons (Q_call fun w hw => c_spec_ComposeSlot w (el inner page.toNat) outer pouter (rd_of (S.arg houter) hw)) .nil) (by kernel_rfl) fun ac w β S hβ => ?_
   refine WD.stayq S hβ ?_
   clear hβ
   refine S.hq 9 [9] [] [(33, .v (pt q1.slots.1.b (q1.slots.1.off + page.toNat * 2)))] (.cons (qt o9.rn page Tryz.underlying69) .nil) fun ac S => ?_
   refine WD.one (i := 10) (by kernel_rfl) ?_
   have e24 : RSlot (el k.slots page.toNat) := (LRd.el o9.rn page.toNat (by omega))
   refine id (S.sF (α := TSlot) o9 (t := 92) (k := page.toNat) (j := 0) (off := q1.slots.1.off + page.toNat * 2) (v := GT.val (f_composeSlot (el inner page.toNat) outer) ()) (y := (f_composeSlot (el inner page.toNat) outer)) (q := ()) (fun _ _ _ => ⟨NoB, (compose_r (S.arg houter) (el inner page.toNat)), fun _ h => False.elim h⟩) fun w N F26 q27 S up o25 d28 s29 n30 => ?_)
   refine WD.last (by kernel_rfl) ?_
   have d31 := d28 _ (Disj.symm d22) (fun b _ h => False.elim h) o16.sub
   replace o16 := o16.upF (Disj.symm d22) up
   clear up d28 o9 n30
   have l32 : (k.slots.set page.toNat (f_composeSlot (el inner page.toNat) outer)).length = k.slots.length := List.length_set
   replace S := S.z (σ' := ⟨[(4, .p 0 0), (8, .p 1 0), (32, .v (GT.val (f_composeSlot (el inner page.toNat) outer) ())), (33, .v (pt q1.slots.1.b (q1.slots.1.off + page.toNat * 2)))], [[slv (k.known.set page.toNat true).length q1.known.1, slv k.slots.length q1.slots.1], Zc TKept]⟩)
   replace S := S.cast (σ' := ⟨[(4, .p 0 0), (8, .p 1 0), (32, .v (GT.val (f_composeSlot (el inner page.toNat) outer) ())), (33, .v (pt q1.slots.1.b (q1.slots.1.off + page.toNat * 2)))], [[slv (k.known.set page.toNat true).length q1.known.1, slv (k.slots.set page.toNat (f_composeSlot (el inner page.toNat) outer)).length q1.slots.1], Zc TKept]⟩) (by rw [show (k.slots.set page.toNat (f_composeSlot (el inner page.toNat) outer)).length = k.slots.length by omega])
   refine WD.done (by kernel_rfl) ?_ _
   refine S.ex fun S => ?_
   refine S.gr 8 .nil [GT.val (⟨(k.known.set page.toNat true), (k.slots.set page.toNat (f_composeSlot (el inner page.toNat) outer))⟩ : TKept) (⟨(q1.known.1, q18), (q1.slots.1, q27)⟩ : PKept)] fun ac w β S => ?_
   have o33 := ow_Kept (x := (⟨(k.known.set page.toNat true), (k.slots.set page.toNat (f_composeSlot (el inner page.toNat) outer))⟩ : TKept)) (p := (⟨(q1.known.1, q18), (q1.slots.1, q27)⟩ : PKept)) o16 o25 d31 
   exact ret1_of S (show f_fill k inner outer page = (⟨(k.known.set page.toNat true), (k.slots.set page.toNat (f_composeSlot (el inner page.toNat) outer))⟩ : TKept) from k0_spec_Fill) rfl o33
  refine S.gr 10 .nil [GT.val k q1] fun ac w β S => ?_
  have o34 := ow_Kept (x := k) (p := q1) o6 o9 d11 
  exact ret1_of S (show f_fill k inner outer page = k from k0_spec_Fill) rfl o34
 have g35 := of_decide_eq_false h12
 refine S.gr 17 .nil [GT.val k q1] fun ac w β S => ?_
 have o36 := ow_Kept (x := k) (p := q1) o6 o9 d11 
 exact ret1_of S (show f_fill k inner outer page = k from k0_spec_Fill) rfl o36

theorem c_spec_FlushPage (w0 : World) (b : List TEntry) (pb : LP TEntry) (hb : RD w0 b pb) (tag : Int) (htag : In64 tag) (page : Int) (hpage : In64 page) : Calls Tryz.prog 108 [slv b.length pb.1, I tag, I page].toArray w0 (Ret1 NoB w0 (f_flushPage b tag page : List TEntry)) := by
 refine Calls.run NoB Tryz.func108 ?_
 intro ac β S
 have hleb : b.length ≤ 4194304 := LRd.le hb
 have hlotag := htag.lo; have hhitag := htag.hi
 have hlopage := hpage.lo; have hhipage := hpage.hi
 refine S.go 7 .nil fun ac w β S => S.B0 (α := TEntry) (d := 9) fun ac w N q1 F2 S up o3 d4 => ?_
 clear up d4
 refine S.go 10 .nil fun ac w β S => ?_
 refine lp (fun mm ac w => ∃ (k : Nat) (acc : List TEntry) (q5 : _) (F6 : _) (u : _) (N : _) (β : _), mm = b.length - k ∧ (k ≤ b.length) ∧ (acc = f_without (b.take k) (fun e => f_samePg e tag page)) ∧ St Tryz.prog Tryz.f108.ntmps w0 NoB u N β ⟨[(0, .v (slv b.length pb.1)), (1, .v (I tag)), (2, .v (I page)), (7, .v (slv acc.length q5.1)), (8, .v (I (k : Int)))], []⟩ ac w ∧ Ow w0 NoB u N F6 acc q5) _ ⟨0, ([] : List TEntry), q1, F2, _, _, _, rfl, o0, (by rfl), S.z, o3⟩ ?_
 clear S o3
 rintro f8 mm hf9 ac w ⟨k, acc, q5, F6, u, N, β, rfl, hk, hacc, S, o7⟩
 refine S.rs fun S => ?_
 have hlacc : acc.length ≤ k := by rw [hacc]; exact Nat.le_trans (without_len _ _) (List.length_take_le _ _)
 refine S.gd 9 .nil (decide ((k : Int) < (b.length : Int))) (fun ac w β h10 g11 S => ?_) (fun ac w β h10 g11 S => ?_)
 ·refine S.gd 15 (.cons (qn (S.arg hb) k Tryz.underlying29) (.cons (qc (S.arg hb) 3 k 0 (I (el b k).tag)) .nil)) ((el b k).tag != tag) (fun ac w β h12 g13 S => ?_) (fun ac w β h12 g13 S => ?_)
  ·refine S.go 17 (.cons (qn (S.arg hb) k Tryz.underlying29) (.cons (qs (S.arg hb) 87 k) .nil)) fun ac w β S => S.B1 (α := TEntry) (x := (el b k)) (p := ()) (F := NoB) (LRd.el (S.arg hb) k (by omega)) (fun b h => False.elim h) (fun b h => False.elim h) (d := 37) fun ac w N q14 F15 S up o16 d17 => ?_
   have d18 := d17 _ (fun b _ h => False.elim h) o7.sub
   replace o7 := o7.up up
   clear up d17
   refine S.AF (α := TEntry) o7 o16.rn (fun _ _ h => h) (by' := 32) (d := 38) (lx := acc.length) (ly := 1) rfl rfl (show _ ≤ 4194304 by simp only [List.length_append, List.length_cons, List.length_nil]; omega) fun ac w N q19 F20 S up o21 d22 => ?_
   have d23 := d22 _ (Disj.symm d18) o16.sub
   replace o16 := o16.upF (Disj.symm d18) up
   clear up d22
   refine S.ge 9 (.cons (qp (k : Int) 1) .nil) f8 fun ac w β S => hf9.of (b.length - (k + 1)) _ _ (by omega) ⟨k + 1, (acc ++ [(el b k)]), q19, F20, _, _, _, rfl, ?_, ?_, S.z, o21⟩
   ·exact oz
   ·clear S; (first | (rw [without_t (by omega) (samePg_t (by assumption) (by assumption)), hacc]; done) | (rw [without_f (by omega) (samePg_f1 (by assumption)), hacc]; done) | (rw [without_f (by omega) (samePg_f2 (by assumption)), hacc]; done))
  refine S.gd 10 (.cons (qn (S.arg hb) k Tryz.underlying29) (.cons (qc (S.arg hb) 3 k 1 (I (el b k).page)) .nil)) ((el b k).page != page) (fun ac w β h24 g25 S => ?_) (fun ac w β h24 g25 S => ?_)
  ·refine S.go 7 (.cons (qn (S.arg hb) k Tryz.underlying29) (.cons (qs (S.arg hb) 87 k) .nil)) fun ac w β S => S.B1 (α := TEntry) (x := (el b k)) (p := ()) (F := NoB) (LRd.el (S.arg hb) k (by omega)) (fun b h => False.elim h) (fun b h => False.elim h) (d := 37) fun ac w N q26 F27 S up o28 d29 => ?_
   have d30 := d29 _ (fun b _ h => False.elim h) o7.sub
   replace o7 := o7.up up
   clear up d29
   refine S.AF (α := TEntry) o7 o28.rn (fun _ _ h => h) (by' := 32) (d := 38) (lx := acc.length) (ly := 1) rfl rfl (show _ ≤ 4194304 by simp only [List.length_append, List.length_cons, List.length_nil]; omega) fun ac w N q31 F32 S up o33 d34 => ?_
   have d35 := d34 _ (Disj.symm d30) o28.sub
   replace o28 := o28.upF (Disj.symm d30) up
   clear up d34
   refine S.ge 9 (.cons (qp (k : Int) 1) .nil) f8 fun ac w β S => hf9.of (b.length - (k + 1)) _ _ (by omega) ⟨k + 1, (acc ++ [(el b k)]), q31, F32, _, _, _, rfl, ?_, ?_, S.z, o33⟩
   ·exact oz
   ·clear S; (first | (rw [without_t (by omega) (samePg_t (by assumption) (by assumption)), hacc]; done) | (rw [without_f (by omega) (samePg_f1 (by assumption)), hacc]; done) | (rw [without_f (by omega) (samePg_f2 (by assumption)), hacc]; done))
  refine S.ge 9 (.cons (qp (k : Int) 1) .nil) f8 fun ac w β S => hf9.of (b.length - (k + 1)) _ _ (by omega) ⟨k + 1, acc, q5, F6, _, _, _, rfl, ?_, ?_, S.z, o7⟩
  ·exact oz
  ·clear S; (first | (rw [without_t (by omega) (samePg_t (by assumption) (by assumption)), hacc]; done) | (rw [without_f (by omega) (samePg_f1 (by assumption)), hacc]; done) | (rw [without_f (by omega) (samePg_f2 (by assumption)), hacc]; done))
 refine S.gr 13 .nil [slv acc.length q5.1] fun ac w β S => ?_
 exact ret1_of S (show f_flushPage b tag page = acc by clear S; (rw [hacc, take_all (by omega)]; rfl)) rfl o7

theorem c_spec_PutEntry (w0 : World) (b : List TEntry) (pb : LP TEntry) (hb : RD w0 b pb) (e : TEntry) (he : REntry e) (pre0 : b.length ≤ 6) : Calls Tryz.prog 61 [slv b.length pb.1, GT.val e ()].toArray w0 (Ret1 NoB w0 (f_putEntry b e : List TEntry)) := by
 refine Calls.run NoB Tryz.func61 ?_
 intro ac β S
 have hfl : (f_flushPage b e.tag e.page).length ≤ b.length := without_len _ _
 have hfa : (f_flushPage b e.tag e.page ++ [e]).length = (f_flushPage b e.tag e.page).length + 1 := by simp
 have hleb : b.length ≤ 4194304 := LRd.le hb
 refine S.go 7 .nil fun ac w β S => ?_
 refine drw ?_
 let σ1 : Sy := ⟨[(0, .v (slv b.length pb.1)), (3, .p 0 0)], [GT.cells e ()]⟩
 obtain ⟨u0, N0, β0, S⟩ : ∃ u0 N0 β0, St Tryz.prog Tryz.f61.ntmps w0 NoB u0 N0 β0 σ1 ac w := ⟨_, _, _, S.z⟩
 refine wp_region_cut (fun ac w => ∃ q37 F38 u N β, St Tryz.prog Tryz.f61.ntmps w0 NoB u N β (σ1.dl [0, 3] [(5, .v (slv ((f_flushPage b e.tag e.page) ++ [e]).length q37.1))] 0 []) ac w ∧ Ow w0 NoB u N F38 ((f_flushPage b e.tag e.page) ++ [e]) q37) ?_ ?_
 ·refine S.draw0 (f := 10) 10 (by kernel_rfl) (by kernel_rfl) fun w S => ?_
  refine S.hq 0 [] [] [(6, .v (slv b.length pb.1))] .nil fun ac S => ?_
  refine S.hq 1 [] [] [(7, .p 0 0)] .nil fun ac S => ?_
  refine S.hq 2 [] [] [(8, .v (I e.tag))] .nil fun ac S => ?_
  refine S.hq 3 [] [] [(9, .p 0 1)] .nil fun ac S => ?_
  refine S.hq 4 [] [] [(10, .v (I e.page))] .nil fun ac S => ?_
  refine S.hq 6 [] [] [(12, .v (GT.val e ()))] .nil fun ac S => ?_
  refine WD.nameW fun W hW => ?_
  refine WD.castW (l' := mkL 10 [0, 1, 2, 3, 4, 6]) (by kernel_rfl) ?_
  have hK39 ac w q37 F38 u N β (S : St Tryz.prog Tryz.f61.ntmps w0 NoB u N β (σ1.dl [0, 3] [(5, .v (slv ((f_flushPage b e.tag e.page) ++ [e]).length q37.1))] 1 []) ac w) (o36 : Ow w0 NoB u N F38 ((f_flushPage b e.tag e.page) ++ [e]) q37) (hNN : NN N0 u0 N u) (hBB : BB σ1.bx.length β0 β) : W 0 (mkL 10 [0, 1, 2, 3, 4, 5, 6, 7, 8, 9]) ac w := by
   exact od hW ⟨rfl, q37, F38, _, _, _, S.z, o36⟩
  have hK40 ac w q8 F9 q16 F17 u N β (S : St Tryz.prog Tryz.f61.ntmps w0 NoB u N β (σ1.dl [0, 3] [(11, .v (slv (f_flushPage b e.tag e.page).length q8.1)), (13, .v (slv 1 q16.1))] 1 []) ac w) (o7 : Ow w0 NoB u N F9 (f_flushPage b e.tag e.page) q8) (o15 : Ow w0 NoB u N F17 ([e]) q16) (d41 : Disj F9 F17) (hNN : ∀ b, N0 b → N b ∧ u.heap[b]? = u0.heap[b]? ∧ ¬ F9 b) (hBB : BB σ1.bx.length β0 β) : W 2 (mkL 10 [0, 1, 2, 3, 4, 5, 6, 7]) ac w := by
   refine ox1 hW 8 ?_
   refine id (S.appFlat (α := TEntry) o7 o15.rn (fun _ _ h => h) (by' := 32) (d := 14) (lx := (f_flushPage b e.tag e.page).length) (ly := 1) rfl rfl (by kernel_rfl) (show _ ≤ 4194304 by simp only [List.length_append, List.length_cons, List.length_nil]; omega) fun ac w N q42 F43 S up o44 d45 => ?_)
   have hb46 := fun b h => (⟨(up b (hNN b h).1 (hNN b h).2.2).1, (up b (hNN b h).1 (hNN b h).2.2).2.trans (hNN b h).2.1⟩ : _ ∧ _)
   refine WD.sc S hb46 hBB fun hC => ?_
   have d47 := d45 _ (Disj.symm d41) o15.sub
   replace o15 := o15.upF (Disj.symm d41) up
   clear up d45
   exact S.wh hW [9] hC fun _ S => hK39 _ _ q42 F43 _ _ _ S o44 hb46 hBB
  have hK48 ac w q8 F9 u N β (S : St Tryz.prog Tryz.f61.ntmps w0 NoB u N β (σ1.dl [0, 3] [(11, .v (slv (f_flushPage b e.tag e.page).length q8.1)), (12, .v (GT.val e ()))] 1 []) ac w) (o7 : Ow w0 NoB u N F9 (f_flushPage b e.tag e.page) q8) (hNN : ∀ b, N0 b → N b ∧ u.heap[b]? = u0.heap[b]? ∧ ¬ F9 b) (hBB : BB σ1.bx.length β0 β) : W 3 (mkL 10 [0, 1, 2, 3, 4, 5, 6]) ac w := by
   refine ox1 hW 7 ?_
   refine id (S.bs1 (α := TEntry) (x := e) (p := ()) (F := NoB) he (fun b h => False.elim h) (fun b h => False.elim h) (d := 13) (by kernel_rfl) fun ac w N q49 F50 S up o51 d52 => ?_)
   have hb53 := fun b h => (⟨(up b (hNN b h).1).1, (up b (hNN b h).1).2.trans (hNN b h).2.1, (hNN b h).2.2⟩ : _ ∧ _ ∧ _)
   refine WD.sc S (fun b h => ⟨(hb53 b h).1, (hb53 b h).2.1⟩) hBB fun hC => ?_
   have d54 := d52 _ (fun b _ h => False.elim h) o7.sub
   replace o7 := o7.up up
   clear up d52
   exact S.wh hW [] hC fun _ S => hK40 _ _ q8 F9 q49 F50 _ _ _ S o7 o51 d54 hb53 hBB
  have hK55 ac w q16 F17 u N β (S : St Tryz.prog Tryz.f61.ntmps w0 NoB u N β (σ1.dl [0, 3] [(6, .v (slv b.length pb.1)), (8, .v (I e.tag)), (10, .v (I e.page)), (13, .v (slv 1 q16.1))] 1 []) ac w) (o15 : Ow w0 NoB u N F17 ([e]) q16) (hNN : NN N0 u0 N u) (hBB : BB σ1.bx.length β0 β) : W 3 (mkL 10 [0, 1, 2, 3, 4, 6, 7]) ac w := by
   refine ox1 hW 5 ?_
   refine id (S.k1 11 (c_spec_FlushPage w b pb (S.rd (S.arg hb)) e.tag (REntry.tag (d := e) he) e.page (REntry.page (d := e) he)) fun ac w N q56 F57 S up o58 d59 => ?_)
   have hb60 := fun b h => (⟨(up b (hNN b h).1).1, (up b (hNN b h).1).2.trans (hNN b h).2, d59 b (hNN b h).1⟩ : _ ∧ _ ∧ _)
   refine WD.sc S (fun b h => ⟨(hb60 b h).1, (hb60 b h).2.1⟩) hBB fun hC => ?_
   have d61 := Disj.w d59 o15.sub
   replace o15 := o15.up up
   clear up d59
   exact S.wh hW [] hC fun _ S => hK40 _ _ q56 F57 q16 F17 _ _ _ S o58 o15 (Disj.symm d61) hb60 hBB
  have hNN : NN N0 u0 N0 u0 := fun b h => ⟨h, rfl⟩
  have hBB : BB σ1.bx.length β0 β0 := fun _ _ => rfl
  refine ox2 hW 5 7 ?_ ?_
  ·refine id (S.k1 11 (c_spec_FlushPage w b pb (S.rd (S.arg hb)) e.tag (REntry.tag (d := e) he) e.page (REntry.page (d := e) he)) fun ac w N q62 F63 S up o64 d65 => ?_)
   have hb66 := fun b h => (⟨(up b (hNN b h).1).1, (up b (hNN b h).1).2.trans (hNN b h).2, d65 b (hNN b h).1⟩ : _ ∧ _ ∧ _)
   refine WD.sc S (fun b h => ⟨(hb66 b h).1, (hb66 b h).2.1⟩) hBB fun hC => ?_
   clear up d65
   exact S.wh hW [] hC fun _ S => hK48 _ _ q62 F63 _ _ _ S o64 hb66 hBB
  ·refine id (S.bs1 (α := TEntry) (x := e) (p := ()) (F := NoB) he (fun b h => False.elim h) (fun b h => False.elim h) (d := 13) (by kernel_rfl) fun ac w N q67 F68 S up o69 d70 => ?_)
   have hb71 := fun b h => (⟨(up b (hNN b h).1).1, (up b (hNN b h).1).2.trans (hNN b h).2⟩ : _ ∧ _)
   refine WD.sc S hb71 hBB fun hC => ?_
   clear up d70
   exact S.wh hW [] hC fun _ S => hK55 _ _ q67 F68 _ _ _ S o69 hb71 hBB
 clear S
 rintro ac w ⟨q37, F38, u, N, β, S, o36⟩
 refine S.ex fun S => ?_
 refine S.gd 9 .nil (decide ((((f_flushPage b e.tag e.page) ++ [e]).length : Int) > 6)) (fun ac w β h72 g73 S => ?_) (fun ac w β h72 g73 S => ?_)
 ·refine S.go 2 .nil fun ac w β S => S.B0 (α := TEntry) (d := 18) fun ac w N q74 F75 S up o76 d77 => ?_
  have d78 := Disj.w d77 o36.sub
  replace o36 := o36.up up
  clear up d77
  have l79 : ((((f_flushPage b e.tag e.page) ++ [e]).drop ((((f_flushPage b e.tag e.page) ++ [e]).length : Int) - 6).toNat).take (((f_flushPage b e.tag e.page) ++ [e]).length - ((((f_flushPage b e.tag e.page) ++ [e]).length : Int) - 6).toNat)).length = ((f_flushPage b e.tag e.page) ++ [e]).length - ((((f_flushPage b e.tag e.page) ++ [e]).length : Int) - 6).toNat := by first | (simp; done) | (simp; omega)
  refine S.go 5 (.cons (qm (((f_flushPage b e.tag e.page) ++ [e]).length : Int) 6) (.cons (Q_slice (lo := some (I ((((f_flushPage b e.tag e.page) ++ [e]).length : Int) - 6))) o36.rn (l := ((f_flushPage b e.tag e.page) ++ [e]).length) (a := ((((f_flushPage b e.tag e.page) ++ [e]).length : Int) - 6).toNat) (b := ((f_flushPage b e.tag e.page) ++ [e]).length) rfl (.inr (congrArg (fun z => some (I z)) (show ((((f_flushPage b e.tag e.page) ++ [e]).length : Int) - 6) = ((((((f_flushPage b e.tag e.page) ++ [e]).length : Int) - 6).toNat : Nat) : Int) by omega))) (.inl ⟨rfl, rfl⟩) (by omega) (by omega) Tryz.underlying29 (by kernel_rfl)) .nil)) fun ac w β S => S.AF0 (α := TEntry) o76 (show GT.rd KK _ _ ((((f_flushPage b e.tag e.page) ++ [e]).drop ((((f_flushPage b e.tag e.page) ++ [e]).length : Int) - 6).toNat).take (((f_flushPage b e.tag e.page) ++ [e]).length - ((((f_flushPage b e.tag e.page) ++ [e]).length : Int) - 6).toNat)) ((q37.1.sl ((((f_flushPage b e.tag e.page) ++ [e]).length : Int) - 6).toNat 4, fun i => q37.2 (((((f_flushPage b e.tag e.page) ++ [e]).length : Int) - 6).toNat + i)) : LP TEntry) from rd_sl o36.rn (a := ((((f_flushPage b e.tag e.page) ++ [e]).length : Int) - 6).toNat) (b := ((f_flushPage b e.tag e.page) ++ [e]).length) (by omega) (by omega)) (fun _ _ h => h) (by' := 32) (d := 24) (lx := 0) (ly := (((f_flushPage b e.tag e.page) ++ [e]).length - ((((f_flushPage b e.tag e.page) ++ [e]).length : Int) - 6).toNat : Nat)) (by omega) fun ac w N q80 F81 S up o82 d83 => ?_
  have d84 := d83 _ d78 o36.sub
  replace o36 := o36.upF d78 up
  clear up d83
  refine S.gr 10 .nil [slv ((((f_flushPage b e.tag e.page) ++ [e]).drop ((((f_flushPage b e.tag e.page) ++ [e]).length : Int) - 6).toNat).take (((f_flushPage b e.tag e.page) ++ [e]).length - ((((f_flushPage b e.tag e.page) ++ [e]).length : Int) - 6).toNat)).length q80.1] fun ac w β S => ?_
  exact ret1_of S (show f_putEntry b e = ((((f_flushPage b e.tag e.page) ++ [e]).drop ((((f_flushPage b e.tag e.page) ++ [e]).length : Int) - 6).toNat).take (((f_flushPage b e.tag e.page) ++ [e]).length - ((((f_flushPage b e.tag e.page) ++ [e]).length : Int) - 6).toNat)) by clear S; (first | exact put_eq (by omega) | exact put_all (by omega))) rfl o82
 refine S.gr 10 .nil [slv ((f_flushPage b e.tag e.page) ++ [e]).length q37.1] fun ac w β S => ?_
 exact ret1_of S (show f_putEntry b e = ((f_flushPage b e.tag e.page) ++ [e]) by clear S; (first | exact put_eq (by omega) | exact put_all (by omega))) rfl o36

theorem k0_spec_l23Find {p : Prop} (h : p := by clear S; (first | (rw [lkS1 (by assumption)]; done) | (rw [lkS2 (by assumption)]; done) | (rw [lkP (by assumption) (by omega) (by omega) (by omega) (by assumption) hJ3, lkTo_f (by assumption)]; first | done | rfl) | (rw [lkP (by assumption) (by omega) (by omega) (by omega) (by assumption) hJ3, lkTo_k (by assumption) (by assumption)]; first | done | rfl) | (rw [lkP (by assumption) (by omega) (by omega) (by omega) (by assumption) hJ3, lkTo_m (by assumption) (by assumption) (by assumption) (by assumption)]; first | done | rfl))) : p := h
theorem c_spec_l23Find (w0 : World) (h : THost) (ph : PHost) (F : Bl) (hh : GT.own KK F w0 h ph) (hF : ∀ b, F b → b < w0.heap.size) (m : Int) (g : Int) (page : Int) (hpage : In64 page) (need : Int) (io : Bool) (pre0 : io = true) : Calls Tryz.prog 24 [GT.val h ph, slv h.iobuf.length ph.iobuf.1, I m, I g, I page, I need, B io].toArray w0 (RetT3 F F w0 ((f_lookup h m g page need io).1 : THost) ((f_lookup h m g page need io).2.1 : Int) ((f_lookup h m g page need io).2.2 : Bool)) := by
 refine Calls.run F Tryz.func24 ?_
 intro ac β S
 have oh : Ow w0 F w0 (Lt w0.heap.size) F h ph := ⟨hh, hF, fun b hb => .inr hb⟩
 obtain ⟨F1, F4, F7, F10, o2, o5, o8, o11, s3, s6, s9, s12, d13, d14, d15, d16, d17, d18⟩ := sp_Host oh
 have hlio : io = true := by assumption
 subst hlio
 have hlopage := hpage.lo; have hhipage := hpage.hi
 refine S.go 10 .nil fun ac w β S => ?_
 refine S.cq ⟨[(1, .v (slv h.iobuf.length ph.iobuf.1)), (2, .v (I m)), (3, .v (I g)), (4, .v (I page)), (5, .v (I need)), (6, .v (B true)), (7, .p 0 0), (14, .p 1 0), (56, .v (B ((((!(f_hostOk h)) || (!(f_within m 0 ((h.mons.length : Int) - 1)))) || (!(f_within g 0 (((el h.mons m.toNat).guests.length : Int) - 1)))) || ((need != 1) && (need != 2)))))], [[slv h.mem.length ph.mem.1, slv h.mons.length ph.mons.1, slv h.buf.length ph.buf.1, slv h.iobuf.length ph.iobuf.1], Zc THost]⟩ ?_ ?_
 ·clear S; intro S
  refine S.gb 5 (.cons (Q_call fun w hw => c_spec_HostOk w h ph (rd_of (show GT.rd KK _ _ h ph from ⟨o2.rn, o5.rn, o8.rn, o11.rn⟩) hw)) .nil) (!(f_hostOk h)) (fun ac w β h20 S => ?_) (fun ac w β h20 S => ?_)
  ·have h21 := not_t h20
   exact S.gn 30 .nil fun ac w β S => ⟨rfl, _, by rw [h20]; exact S.z⟩
  have h22 := not_f h20
  have g23 := hostOk_t h22
  refine S.gb 9 (.cons (qm (h.mons.length : Int) 1) (.cons (Q_call fun w hw => c_spec_l01In w m 0 ((h.mons.length : Int) - 1)) .nil)) (!(f_within m 0 ((h.mons.length : Int) - 1))) (fun ac w β h24 S => ?_) (fun ac w β h24 S => ?_)
  ·have h25 := not_t h24
   have g26 := within_f h25
   exact S.gn 21 .nil fun ac w β S => ⟨rfl, _, by rw [h20, h24]; exact S.z⟩
  have h27 := not_f h24
  have g28 := within_t h27
  have b29 : (el h.mons m.toNat).guests.length ≤ 4194304 := LRd.le (RMon.guests (d := (el h.mons m.toNat)) (LRd.el o5.rn m.toNat (by omega)))
  refine S.gb 13 (.cons (qt o5.rn m Tryz.underlying28) (.cons (qc o5.rn 70 m.toNat 3 (slv (el h.mons m.toNat).guests.length (ph.mons.2 m.toNat).guests.1)) (.cons (qm ((el h.mons m.toNat).guests.length : Int) 1) (.cons (Q_call fun w hw => c_spec_l01In w g 0 (((el h.mons m.toNat).guests.length : Int) - 1)) .nil)))) (!(f_within g 0 (((el h.mons m.toNat).guests.length : Int) - 1))) (fun ac w β h30 S => ?_) (fun ac w β h30 S => ?_)
  ·have h31 := not_t h30
   have g32 := within_f h31
   exact S.gn 8 .nil fun ac w β S => ⟨rfl, _, by rw [h20, h24, h30]; exact S.z⟩
  have h33 := not_f h30
  have g34 := within_t h33
  refine S.gd 3 .nil (need != 1) (fun ac w β h35 g36 S => ?_) (fun ac w β h35 g36 S => ?_)
  ·exact S.gn 5 .nil fun ac w β S => ⟨rfl, _, by rw [h20, h24, h30, h35]; exact S.z⟩
  exact S.gn 5 .nil fun ac w β S => ⟨rfl, _, by rw [h20, h24, h30, h35]; exact S.z⟩
 clear S; intro ac w β S
 refine S.gb 1 .nil ((((!(f_hostOk h)) || (!(f_within m 0 ((h.mons.length : Int) - 1)))) || (!(f_within g 0 (((el h.mons m.toNat).guests.length : Int) - 1)))) || ((need != 1) && (need != 2))) (fun ac w β h37 S => ?_) (fun ac w β h37 S => ?_)
 ·refine S.gr 10 .nil [GT.val h ph, I (-1), B false] fun ac w β S => ?_
  have o38 := ow_Host (x := h) (p := ph) o2 o5 o8 o11 d13 d14 d15 d16 d17 d18 
  exact retT3_of S (show (f_lookup h m g page need true).1 = h from k0_spec_l23Find) (show (f_lookup h m g page need true).2.1 = (-1) from k0_spec_l23Find) (show (f_lookup h m g page need true).2.2 = false from k0_spec_l23Find) rfl o38 (show In64 (-1) from ⟨by decide, by decide⟩)
 obtain ⟨h39, h40⟩ := or_f h37
 obtain ⟨h41, h42⟩ := or_f h39
 obtain ⟨h43, h44⟩ := or_f h41
 have h45 := not_f h43
 have g46 := hostOk_t h45
 have h47 := not_f h44
 have g48 := within_t h47
 have h49 := not_f h42
 have g50 := within_t h49
 have g51 := ne_or h40
 refine S.gb 32 (.cons (qt o5.rn m Tryz.underlying28) (.cons (qc o5.rn 70 m.toNat 3 (slv (el h.mons m.toNat).guests.length (ph.mons.2 m.toNat).guests.1)) (.cons (qt (RMon.guests (d := (el h.mons m.toNat)) (LRd.el o5.rn m.toNat (by omega))) g Tryz.underlying70) (.cons (qc (RMon.guests (d := (el h.mons m.toNat)) (LRd.el o5.rn m.toNat (by omega))) 69 g.toNat 4 (slv (el (el h.mons m.toNat).guests g.toNat).live.length ((ph.mons.2 m.toNat).guests.2 g.toNat).live.1)) (.cons (Q_call fun w hw => c_spec_WalkInner w (el (el h.mons m.toNat).guests g.toNat).live ((ph.mons.2 m.toNat).guests.2 g.toNat).live (rd_of (RGuest.live (d := (el (el h.mons m.toNat).guests g.toNat)) (LRd.el (RMon.guests (d := (el h.mons m.toNat)) (LRd.el o5.rn m.toNat (by omega))) g.toNat (by omega))) hw) page need) .nil))))) (!(f_walkInner (el (el h.mons m.toNat).guests g.toNat).live page need).2) (fun ac w β h52 S => ?_) (fun ac w β h52 S => ?_)
 ·have h53 := not_t h52
  refine S.gr 10 .nil [GT.val h ph, I (-1), B false] fun ac w β S => ?_
  have o54 := ow_Host (x := h) (p := ph) o2 o5 o8 o11 d13 d14 d15 d16 d17 d18 
  exact retT3_of S (show (f_lookup h m g page need true).1 = h from k0_spec_l23Find) (show (f_lookup h m g page need true).2.1 = (-1) from k0_spec_l23Find) (show (f_lookup h m g page need true).2.2 = false from k0_spec_l23Find) rfl o54 (show In64 (-1) from ⟨by decide, by decide⟩)
 have h55 := not_f h52
 have g56 := walkS h55
 refine S.go 18 (.cons (Q_call fun w hw => c_spec_TagOf w m g) .nil) fun ac w β S => ?_
 refine cutC S (fun ac w => ∃ (J3 : List TMon) (q57 : LP TMon) (F58 : Bl) (u : _) (N : _) (β : _), (J3 = (f_dirtIf h m (f_walkInner (el (el h.mons m.toNat).guests g.toNat).live page need).1 need).mons) ∧ St Tryz.prog Tryz.f24.ntmps w0 F u N β ⟨[(1, .v (slv h.iobuf.length ph.iobuf.1)), (2, .v (I m)), (3, .v (I g)), (4, .v (I page)), (5, .v (I need)), (6, .v (B true)), (7, .p 0 0), (14, .p 1 0), (17, .v (I (f_walkInner (el (el h.mons m.toNat).guests g.toNat).live page need).1)), (19, .v (I (f_tagOf m g)))], [[slv h.mem.length ph.mem.1, slv J3.length q57.1, slv h.buf.length ph.buf.1, slv h.iobuf.length ph.iobuf.1], Zc THost]⟩ ac w ∧ Ow w0 F u N F58 J3 q57 ∧ Ow w0 F u N F1 h.mem ph.mem ∧ Ow w0 F u N F7 h.buf ph.buf ∧ Ow w0 F u N F10 h.iobuf ph.iobuf ∧ Disj F1 F58 ∧ Disj F7 F58 ∧ Disj F10 F58) ?_ ?_
 ·clear S; intro S
  refine S.gd 0 .nil (need == 2) (fun ac w β h61 g62 S => ?_) (fun ac w β h61 g62 S => ?_)
  ·obtain ⟨F63, o64, s65, b66⟩ := foc2_Mon_dirty o5 (k := m.toNat) (show m.toNat < h.mons.length by omega)
   have l67 := LRd.le o64.rn
   have n68 := o64.sub
   refine S.go 10 (.cons (qt o5.rn m Tryz.underlying28) (.cons (qc o5.rn 64 m.toNat 2 (slv (el h.mons m.toNat).dirty.length (ph.mons.2 m.toNat).dirty.1)) (.cons (Q_idx (RMon.dirty (d := (el h.mons m.toNat)) (LRd.el o5.rn m.toNat (by omega))) (l := (el h.mons m.toNat).dirty.length) (k := (f_walkInner (el (el h.mons m.toNat).guests g.toNat).live page need).1.toNat) (i := (f_walkInner (el (el h.mons m.toNat).guests g.toNat).live page need).1) rfl (by omega) (by omega) Tryz.underlying64 (by kernel_rfl)) .nil))) fun ac w β S => S.SF (α := Bool) o64 (t := 4) (k := (f_walkInner (el (el h.mons m.toNat).guests g.toNat).live page need).1.toNat) (j := 0) (off := (ph.mons.2 m.toNat).dirty.1.off + (f_walkInner (el (el h.mons m.toNat).guests g.toNat).live page need).1.toNat * 1) (v := B true) (y := true) (q := ()) (fun _ _ _ => ⟨NoB, trivial, fun _ h => False.elim h⟩) fun w N F70 q71 S up o69 d72 s73 n74 => ?_
   have d75 := d72 _ (Disj.symm (Disj.part (Disj.symm d13) s65)) (fun b _ h => False.elim h) o2.sub
   have d76 := d72 _ (Disj.symm (Disj.part d16 s65)) (fun b _ h => False.elim h) o8.sub
   have d77 := d72 _ (Disj.symm (Disj.part d17 s65)) (fun b _ h => False.elim h) o11.sub
   replace o2 := o2.upF (Disj.symm (Disj.part (Disj.symm d13) s65)) up
   replace o8 := o8.upF (Disj.symm (Disj.part d16 s65)) up
   replace o11 := o11.upF (Disj.symm (Disj.part d17 s65)) up
   clear d72 o64
   obtain ⟨p78, o79, c80⟩ := b66 _ _ _ _ _ NoB up o69 s73 (fun b _ h => False.elim h) (by show [slv _ _] = [slv _ _]; rw [List.length_set]) (fun b h => n74 b (n68 b h))
   clear up o69 n74
   have l81 : (h.mons.set m.toNat ({ el h.mons m.toNat with dirty := ((el h.mons m.toNat).dirty.set (f_walkInner (el (el h.mons m.toNat).guests g.toNat).live page need).1.toNat true) })).length = h.mons.length := List.length_set
   obtain ⟨X82, hX83⟩ : ∃ z, z = h.mons.set m.toNat ({ el h.mons m.toNat with dirty := ((el h.mons m.toNat).dirty.set (f_walkInner (el (el h.mons m.toNat).guests g.toNat).live page need).1.toNat true) }) := ⟨_, rfl⟩
   rw [← hX83] at o79 c80 l81
   obtain ⟨l84, e85⟩ := setm_dirty hX83 (show m.toNat < h.mons.length by omega) List.length_set
   replace S := S.z (σ' := ⟨[(1, .v (slv h.iobuf.length ph.iobuf.1)), (2, .v (I m)), (3, .v (I g)), (4, .v (I page)), (5, .v (I need)), (6, .v (B true)), (7, .p 0 0), (14, .p 1 0), (17, .v (I (f_walkInner (el (el h.mons m.toNat).guests g.toNat).live page need).1)), (19, .v (I (f_tagOf m g))), (89, .v (pt (ph.mons.2 m.toNat).dirty.1.b ((ph.mons.2 m.toNat).dirty.1.off + (f_walkInner (el (el h.mons m.toNat).guests g.toNat).live page need).1.toNat * 1)))], [[slv h.mem.length ph.mem.1, slv h.mons.length ph.mons.1, slv h.buf.length ph.buf.1, slv h.iobuf.length ph.iobuf.1], Zc THost]⟩)
   replace S := S.cast (σ' := ⟨[(1, .v (slv h.iobuf.length ph.iobuf.1)), (2, .v (I m)), (3, .v (I g)), (4, .v (I page)), (5, .v (I need)), (6, .v (B true)), (7, .p 0 0), (14, .p 1 0), (17, .v (I (f_walkInner (el (el h.mons m.toNat).guests g.toNat).live page need).1)), (19, .v (I (f_tagOf m g))), (89, .v (pt (ph.mons.2 m.toNat).dirty.1.b ((ph.mons.2 m.toNat).dirty.1.off + (f_walkInner (el (el h.mons m.toNat).guests g.toNat).live page need).1.toNat * 1)))], [[slv h.mem.length ph.mem.1, slv X82.length ph.mons.1, slv h.buf.length ph.buf.1, slv h.iobuf.length ph.iobuf.1], Zc THost]⟩) (by rw [show X82.length = h.mons.length by omega])
   refine S.is fun S => ?_
   exact S.gn 1 .nil fun ac w β S => ⟨rfl, X82, (ph.mons.1, p78), (Or F4 F70), _, _, _, (by clear S; first | exact dirtIf_yP (by assumption) rfl | exact dirtIf_yP (by assumption) (by assumption) | exact dirtIf_nP (by assumption)), S.z, o79, o2, o8, o11, (Disj.symm (Disj.or (Disj.symm d13) (Disj.symm d75))), (Disj.symm (Disj.or d16 (Disj.symm d76))), (Disj.symm (Disj.or d17 (Disj.symm d77)))⟩
  exact S.gn 2 .nil fun ac w β S => ⟨rfl, h.mons, ph.mons, F4, _, _, _, (by clear S; first | exact dirtIf_yP (by assumption) rfl | exact dirtIf_yP (by assumption) (by assumption) | exact dirtIf_nP (by assumption)), S.z, o5, o2, o8, o11, d13, (Disj.symm d16), (Disj.symm d17)⟩
 clear S o2 o5 o8 o11
 rintro ac w ⟨J3, q57, F58, u, N, β, hJ3, S, o59, o2, o8, o11, d86, d87, d88⟩
 have hr := dirtIf_bdP hJ3 (walkS (by assumption)).1
 refine S.ex fun S => ?_
 have i89 : REntry (f_findEntry h.iobuf (f_tagOf m g) page).1 := (findEntry_r o11.rn (f_tagOf m g) page)
 refine S.go 17 (.cons (Q_call fun w hw => c_spec_FindEntry w h.iobuf ph.iobuf (rd_of o11.rn hw) (f_tagOf m g) page) .nil) fun ac w β S => ?_
 refine S.cq ⟨[(2, .v (I m)), (3, .v (I g)), (4, .v (I page)), (5, .v (I need)), (6, .v (B true)), (7, .p 0 0), (14, .p 1 0), (17, .v (I (f_walkInner (el (el h.mons m.toNat).guests g.toNat).live page need).1)), (19, .v (I (f_tagOf m g))), (20, .p 2 0), (103, .v (B ((f_findEntry h.iobuf (f_tagOf m g) page).2 && (f_enough (f_findEntry h.iobuf (f_tagOf m g) page).1.rights need))))], [[slv h.mem.length ph.mem.1, slv J3.length q57.1, slv h.buf.length ph.buf.1, slv h.iobuf.length ph.iobuf.1], Zc THost, GT.cells (f_findEntry h.iobuf (f_tagOf m g) page).1 ()]⟩ ?_ ?_
 ·clear S; intro S
  refine S.gb 3 .nil (f_findEntry h.iobuf (f_tagOf m g) page).2 (fun ac w β h90 S => ?_) (fun ac w β h90 S => ?_)
  ·exact S.gn 6 (.cons (Q_call fun w hw => c_spec_Enough w (f_findEntry h.iobuf (f_tagOf m g) page).1.rights need) .nil) fun ac w β S => ⟨rfl, _, by rw [h90]; exact S.z⟩
  exact S.gn 6 .nil fun ac w β S => ⟨rfl, _, by rw [h90]; exact S.z⟩
 clear S; intro ac w β S
 refine S.gb 1 .nil ((f_findEntry h.iobuf (f_tagOf m g) page).2 && (f_enough (f_findEntry h.iobuf (f_tagOf m g) page).1.rights need)) (fun ac w β h91 S => ?_) (fun ac w β h91 S => ?_)
 ·obtain ⟨h92, h93⟩ := and_t h91
  have g94 := enough_t h93
  refine S.go 2 .nil fun ac w β S => ?_
  refine drw ?_
  let σ95 : Sy := ⟨[(2, .v (I m)), (3, .v (I g)), (4, .v (I page)), (5, .v (I need)), (6, .v (B true)), (7, .p 0 0), (14, .p 1 0), (17, .v (I (f_walkInner (el (el h.mons m.toNat).guests g.toNat).live page need).1)), (19, .v (I (f_tagOf m g))), (20, .p 2 0), (103, .v (B true))], [[slv h.mem.length ph.mem.1, slv J3.length q57.1, slv h.buf.length ph.buf.1, slv h.iobuf.length ph.iobuf.1], Zc THost, GT.cells (f_findEntry h.iobuf (f_tagOf m g) page).1 ()]⟩
  obtain ⟨u0, N0, β0, S, o2, o8, o11, o59⟩ : ∃ u0 N0 β0, St Tryz.prog Tryz.f24.ntmps w0 F u0 N0 β0 σ95 ac w ∧ Ow w0 F u0 N0 F1 h.mem ph.mem ∧ Ow w0 F u0 N0 F7 h.buf ph.buf ∧ Ow w0 F u0 N0 F10 h.iobuf ph.iobuf ∧ Ow w0 F u0 N0 F58 J3 q57 := ⟨_, _, _, S.z, o2, o8, o11, o59⟩
  refine wp_region_cut (fun ac w => ∃  u N β, St Tryz.prog Tryz.f24.ntmps w0 F u N β (σ95.dl [2, 3, 4, 5, 6, 7, 17, 19, 20, 103] [(15, .v (I (f_findEntry h.iobuf (f_tagOf m g) page).1.host)), (16, .v (B true))] 2 [(1, [slv h.mem.length ph.mem.1, slv J3.length q57.1, slv h.buf.length ph.buf.1, slv h.iobuf.length ph.iobuf.1])]) ac w ∧ Ow w0 F u N F1 h.mem ph.mem ∧ Ow w0 F u N F7 h.buf ph.buf ∧ Ow w0 F u N F10 h.iobuf ph.iobuf ∧ Ow w0 F u N F58 J3 q57) ?_ ?_
  ·refine S.draw0 (f := 6) 3 (by kernel_rfl) (by kernel_rfl) fun w S => ?_
   refine S.hq 0 [0] [] [(104, .v (GT.val (⟨h.mem, J3, h.buf, h.iobuf⟩ : THost) (⟨ph.mem, q57, ph.buf, ph.iobuf⟩ : PHost)))] .nil fun ac S => ?_
   refine WD.nameW fun W hW => ?_
   refine WD.castW (l' := mkL 6 [0]) (by kernel_rfl) ?_
   have hK96 ac w u N β (S : St Tryz.prog Tryz.f24.ntmps w0 F u N β (σ95.dl [2, 3, 4, 5, 6, 7, 17, 19, 20, 103] [(15, .v (I (f_findEntry h.iobuf (f_tagOf m g) page).1.host)), (16, .v (B true))] 3 [(1, [slv h.mem.length ph.mem.1, slv J3.length q57.1, slv h.buf.length ph.buf.1, slv h.iobuf.length ph.iobuf.1])]) ac w) (o2 : Ow w0 F u N F1 h.mem ph.mem) (o8 : Ow w0 F u N F7 h.buf ph.buf) (o11 : Ow w0 F u N F10 h.iobuf ph.iobuf) (o59 : Ow w0 F u N F58 J3 q57) : W 0 (mkL 6 [0, 1, 2, 3, 4, 5]) ac w := by
    exact od hW ⟨rfl, _, _, _, S.z, o2, o8, o11, o59⟩
   have hK97 ac w u N β (S : St Tryz.prog Tryz.f24.ntmps w0 F u N β (σ95.dl [2, 3, 4, 5, 6, 7, 17, 19, 20, 103] [(104, .v (GT.val (⟨h.mem, J3, h.buf, h.iobuf⟩ : THost) (⟨ph.mem, q57, ph.buf, ph.iobuf⟩ : PHost))), (106, .v (I (f_findEntry h.iobuf (f_tagOf m g) page).1.host))] 3 []) ac w) (o2 : Ow w0 F u N F1 h.mem ph.mem) (o8 : Ow w0 F u N F7 h.buf ph.buf) (o11 : Ow w0 F u N F10 h.iobuf ph.iobuf) (o59 : Ow w0 F u N F58 J3 q57) (hNN : NN N0 u0 N u) (hBB : BB σ95.bx.length β0 β) : W 3 (mkL 6 [0, 1, 2]) ac w := by
    exact ox1 hW 3 (S.wl hW [4, 5] .nil fun _ _ _ S => hK96 _ _ _ _ _ S o2 o8 o11 o59)
   have hK98 ac w u N β (S : St Tryz.prog Tryz.f24.ntmps w0 F u N β (σ95.dl [2, 3, 4, 5, 6, 7, 17, 19, 20, 103] [(105, .p 2 2)] 3 [(1, [slv h.mem.length ph.mem.1, slv J3.length q57.1, slv h.buf.length ph.buf.1, slv h.iobuf.length ph.iobuf.1])]) ac w) (o2 : Ow w0 F u N F1 h.mem ph.mem) (o8 : Ow w0 F u N F7 h.buf ph.buf) (o11 : Ow w0 F u N F10 h.iobuf ph.iobuf) (o59 : Ow w0 F u N F58 J3 q57) : W 3 (mkL 6 [0, 1, 3]) ac w := by
    exact ox1 hW 2 (S.wl hW [4, 5] .nil fun _ _ _ S => hK96 _ _ _ _ _ S o2 o8 o11 o59)
   have hK99 ac w u N β (S : St Tryz.prog Tryz.f24.ntmps w0 F u N β (σ95.dl [2, 3, 4, 5, 6, 7, 17, 19, 20, 103] [(104, .v (GT.val (⟨h.mem, J3, h.buf, h.iobuf⟩ : THost) (⟨ph.mem, q57, ph.buf, ph.iobuf⟩ : PHost))), (105, .p 2 2)] 3 []) ac w) (o2 : Ow w0 F u N F1 h.mem ph.mem) (o8 : Ow w0 F u N F7 h.buf ph.buf) (o11 : Ow w0 F u N F10 h.iobuf ph.iobuf) (o59 : Ow w0 F u N F58 J3 q57) (hNN : NN N0 u0 N u) (hBB : BB σ95.bx.length β0 β) : W 4 (mkL 6 [0, 1]) ac w := by
    exact ox2 hW 2 3 (S.wq hW hNN hBB [] .nil fun _ _ _ S hB => hK97 _ _ _ _ _ S o2 o8 o11 o59 hNN hB) (S.wl hW [] .nil fun _ _ _ S => hK98 _ _ _ _ _ S o2 o8 o11 o59)
   rw [hW]
   exact S.wh hW [1] (fun _ => S.rcx) fun _ S => hK99 _ _ _ _ _ S o2 o8 o11 o59 (fun _ h => ⟨h, rfl⟩) (fun _ _ => rfl)
  clear S o2 o8 o11 o59
  rintro ac w ⟨u, N, β, S, o2, o8, o11, o59⟩
  refine S.ex fun S => ?_
  refine S.gr 2 .nil [GT.val (⟨h.mem, J3, h.buf, h.iobuf⟩ : THost) (⟨ph.mem, q57, ph.buf, ph.iobuf⟩ : PHost), I (f_findEntry h.iobuf (f_tagOf m g) page).1.host, B true] fun ac w β S => ?_
  have o100 := ow_Host (x := (⟨h.mem, J3, h.buf, h.iobuf⟩ : THost)) (p := (⟨ph.mem, q57, ph.buf, ph.iobuf⟩ : PHost)) o2 o59 o8 o11 d86 d14 d15 (Disj.symm d87) (Disj.symm d88) d18 
  exact retT3_of S (show (f_lookup h m g page need true).1 = (⟨h.mem, J3, h.buf, h.iobuf⟩ : THost) from k0_spec_l23Find) (show (f_lookup h m g page need true).2.1 = (f_findEntry h.iobuf (f_tagOf m g) page).1.host from k0_spec_l23Find) (show (f_lookup h m g page need true).2.2 = true from k0_spec_l23Find) rfl o100 (REntry.host (d := (f_findEntry h.iobuf (f_tagOf m g) page).1) i89)
 have i101 : RSlot (f_ask (el (el J3 m.toNat).tables g.toNat) page).1 := (ask_r (LRd.el (RMon.tables (d := (el J3 m.toNat)) (LRd.el o59.rn m.toNat (by omega))) g.toNat (by omega)) page)
 refine S.go 26 (.cons (qt o59.rn m Tryz.underlying28) (.cons (qc o59.rn 71 m.toNat 7 (slv (el J3 m.toNat).tables.length (q57.2 m.toNat).tables.1)) (.cons (qt (RMon.tables (d := (el J3 m.toNat)) (LRd.el o59.rn m.toNat (by omega))) g Tryz.underlying71) (.cons (qs (RMon.tables (d := (el J3 m.toNat)) (LRd.el o59.rn m.toNat (by omega))) 96 g.toNat) (.cons (Q_call fun w hw => c_spec_Ask w (el (el J3 m.toNat).tables g.toNat) ((q57.2 m.toNat).tables.2 g.toNat) (rd_of (LRd.el (RMon.tables (d := (el J3 m.toNat)) (LRd.el o59.rn m.toNat (by omega))) g.toNat (by omega)) hw) page) .nil))))) fun ac w β S => ?_
 refine S.cq ⟨[(2, .v (I m)), (3, .v (I g)), (4, .v (I page)), (5, .v (I need)), (6, .v (B true)), (7, .p 0 0), (14, .p 1 0), (17, .v (I (f_walkInner (el (el h.mons m.toNat).guests g.toNat).live page need).1)), (19, .v (I (f_tagOf m g))), (20, .p 2 0), (22, .p 3 0), (134, .v (B (((!(f_ask (el (el J3 m.toNat).tables g.toNat) page).2) || ((f_ask (el (el J3 m.toNat).tables g.toNat) page).1.page == (-1))) || (!(f_enough (f_ask (el (el J3 m.toNat).tables g.toNat) page).1.rights need)))))], [[slv h.mem.length ph.mem.1, slv J3.length q57.1, slv h.buf.length ph.buf.1, slv h.iobuf.length ph.iobuf.1], Zc THost, GT.cells (f_findEntry h.iobuf (f_tagOf m g) page).1 (), GT.cells (f_ask (el (el J3 m.toNat).tables g.toNat) page).1 ()]⟩ ?_ ?_
 ·clear S; intro S
  refine S.gb 4 .nil (!(f_ask (el (el J3 m.toNat).tables g.toNat) page).2) (fun ac w β h102 S => ?_) (fun ac w β h102 S => ?_)
  ·have h103 := not_t h102
   exact S.gn 12 .nil fun ac w β S => ⟨rfl, _, by rw [h102]; exact S.z⟩
  have h104 := not_f h102
  refine S.gd 5 .nil ((f_ask (el (el J3 m.toNat).tables g.toNat) page).1.page == (-1)) (fun ac w β h105 g106 S => ?_) (fun ac w β h105 g106 S => ?_)
  ·exact S.gn 7 .nil fun ac w β S => ⟨rfl, _, by rw [h102, h105]; exact S.z⟩
  exact S.gn 7 (.cons (Q_call fun w hw => c_spec_Enough w (f_ask (el (el J3 m.toNat).tables g.toNat) page).1.rights need) .nil) fun ac w β S => ⟨rfl, _, by rw [h102, h105]; exact S.z⟩
 clear S; intro ac w β S
 refine S.gb 1 .nil (((!(f_ask (el (el J3 m.toNat).tables g.toNat) page).2) || ((f_ask (el (el J3 m.toNat).tables g.toNat) page).1.page == (-1))) || (!(f_enough (f_ask (el (el J3 m.toNat).tables g.toNat) page).1.rights need))) (fun ac w β h107 S => ?_) (fun ac w β h107 S => ?_)
 ·have o108 := ow_Host (x := (⟨h.mem, J3, h.buf, h.iobuf⟩ : THost)) (p := (⟨ph.mem, q57, ph.buf, ph.iobuf⟩ : PHost)) o2 o59 o8 o11 d86 d14 d15 (Disj.symm d87) (Disj.symm d88) d18 
  obtain ⟨Y1, hT1⟩ : ∃ z, z = (f_mend (⟨h.mem, J3, h.buf, h.iobuf⟩ : THost) m (f_walkInner (el (el h.mons m.toNat).guests g.toNat).live page need).1 need) := ⟨_, rfl⟩
  have l113 := mend_bd2 hT1 (dirtIf_bdP hJ3 (walkS (by assumption)).1).1
  try dsimp only at l113
  refine S.go 7 .nil fun ac w β S => S.KTY (d := 139) o108 hT1 (c_spec_l22Mend w (⟨h.mem, J3, h.buf, h.iobuf⟩ : THost) (⟨ph.mem, q57, ph.buf, ph.iobuf⟩ : PHost) (uniB [F1, F58, F7, F10]) (S.ownw o108) (fun b hb => (S.sep b (o108.sub b hb)).1) m (f_walkInner (el (el h.mons m.toNat).guests g.toNat).live page need).1 need (by first | omega | exact (dirtIf_bdP hJ3 (walkS (by assumption)).1).1) (by first | omega | exact (dirtIf_bdP hJ3 (walkS (by assumption)).1).1) (by first | omega | exact (dirtIf_bdP hJ3 (walkS (by assumption)).1).1)) fun ac w N q109 F110 S up o111 d112  => ?_
  clear up d112 o108
  obtain ⟨F114, F117, F120, F123, o115, o118, o121, o124, s116, s119, s122, s125, d126, d127, d128, d129, d130, d131⟩ := sp_Host o111
  refine S.go 4 .nil fun ac w β S => ?_
  refine drw ?_
  refine S.draw0 (f := 36) 35 (by kernel_rfl) (by kernel_rfl) fun w S => ?_
  refine S.hq 0 [0] [] [(140, .p 0 1)] .nil fun ac S => ?_
  refine S.hq 1 [1] [] [(141, .v (slv Y1.mons.length q109.mons.1))] .nil fun ac S => ?_
  refine S.hq 2 [2] [] [(142, .v (I m))] .nil fun ac S => ?_
  refine S.hq 3 [3] [] [(143, .v (pt q109.mons.1.b (q109.mons.1.off + m.toNat * 9)))] (.cons (qt o118.rn m Tryz.underlying28) .nil) fun ac S => ?_
  refine S.hq 4 [4] [] [(144, .v (pt q109.mons.1.b (q109.mons.1.off + m.toNat * 9 + 7)))] .nil fun ac S => ?_
  refine S.hq 5 [5] [] [(145, .v (slv (el Y1.mons m.toNat).tables.length (q109.mons.2 m.toNat).tables.1))] (.cons (qc o118.rn 71 m.toNat 7 (slv (el Y1.mons m.toNat).tables.length (q109.mons.2 m.toNat).tables.1)) .nil) fun ac S => ?_
  refine S.hq 6 [6] [] [(146, .v (I g))] .nil fun ac S => ?_
  refine S.hq 7 [7] [] [(147, .p 0 1)] .nil fun ac S => ?_
  refine S.hq 8 [8] [] [(148, .v (slv Y1.mons.length q109.mons.1))] .nil fun ac S => ?_
  refine S.hq 9 [9] [] [(149, .v (I m))] .nil fun ac S => ?_
  refine S.hq 10 [10] [] [(150, .v (pt q109.mons.1.b (q109.mons.1.off + m.toNat * 9)))] (.cons (qt o118.rn m Tryz.underlying28) .nil) fun ac S => ?_
  refine S.hq 11 [11] [] [(151, .v (pt q109.mons.1.b (q109.mons.1.off + m.toNat * 9 + 7)))] .nil fun ac S => ?_
  refine S.hq 12 [12] [] [(152, .v (slv (el Y1.mons m.toNat).tables.length (q109.mons.2 m.toNat).tables.1))] (.cons (qc o118.rn 71 m.toNat 7 (slv (el Y1.mons m.toNat).tables.length (q109.mons.2 m.toNat).tables.1)) .nil) fun ac S => ?_
  refine S.hq 13 [13] [] [(153, .v (I g))] .nil fun ac S => ?_
  refine S.hq 14 [14] [] [(154, .v (pt (q109.mons.2 m.toNat).tables.1.b ((q109.mons.2 m.toNat).tables.1.off + g.toNat * 2)))] (.cons (qt (RMon.tables (d := (el Y1.mons m.toNat)) (LRd.el o118.rn m.toNat (by omega))) g Tryz.underlying71) .nil) fun ac S => ?_
  refine S.hq 15 [15] [] [(155, .v (GT.val (el (el Y1.mons m.toNat).tables g.toNat) ((q109.mons.2 m.toNat).tables.2 g.toNat)))] (.cons (qs (RMon.tables (d := (el Y1.mons m.toNat)) (LRd.el o118.rn m.toNat (by omega))) 96 g.toNat) .nil) fun ac S => ?_
  refine S.hq 16 [16] [] [(156, .p 0 1)] .nil fun ac S => ?_
  refine S.hq 17 [17] [] [(157, .v (slv Y1.mons.length q109.mons.1))] .nil fun ac S => ?_
  refine S.hq 18 [18] [] [(158, .v (I m))] .nil fun ac S => ?_
  refine S.hq 19 [19] [] [(159, .v (pt q109.mons.1.b (q109.mons.1.off + m.toNat * 9)))] (.cons (qt o118.rn m Tryz.underlying28) .nil) fun ac S => ?_
  refine S.hq 20 [20] [] [(160, .v (pt q109.mons.1.b (q109.mons.1.off + m.toNat * 9 + 3)))] .nil fun ac S => ?_
  refine S.hq 21 [21] [] [(161, .v (slv (el Y1.mons m.toNat).guests.length (q109.mons.2 m.toNat).guests.1))] (.cons (qc o118.rn 70 m.toNat 3 (slv (el Y1.mons m.toNat).guests.length (q109.mons.2 m.toNat).guests.1)) .nil) fun ac S => ?_
  refine S.hq 22 [22] [] [(162, .v (I g))] .nil fun ac S => ?_
  refine S.hq 23 [23] [] [(163, .v (pt (q109.mons.2 m.toNat).guests.1.b ((q109.mons.2 m.toNat).guests.1.off + g.toNat * 15)))] (.cons (qt (RMon.guests (d := (el Y1.mons m.toNat)) (LRd.el o118.rn m.toNat (by omega))) g Tryz.underlying70) .nil) fun ac S => ?_
  refine S.hq 24 [24] [] [(164, .v (pt (q109.mons.2 m.toNat).guests.1.b ((q109.mons.2 m.toNat).guests.1.off + g.toNat * 15 + 4)))] .nil fun ac S => ?_
  refine S.hq 25 [25] [] [(165, .v (slv (el (el Y1.mons m.toNat).guests g.toNat).live.length ((q109.mons.2 m.toNat).guests.2 g.toNat).live.1))] (.cons (qc (RMon.guests (d := (el Y1.mons m.toNat)) (LRd.el o118.rn m.toNat (by omega))) 69 g.toNat 4 (slv (el (el Y1.mons m.toNat).guests g.toNat).live.length ((q109.mons.2 m.toNat).guests.2 g.toNat).live.1)) .nil) fun ac S => ?_
  refine S.hq 26 [26] [] [(166, .p 0 1)] .nil fun ac S => ?_
  refine S.hq 27 [27] [] [(167, .v (slv Y1.mons.length q109.mons.1))] .nil fun ac S => ?_
  refine S.hq 28 [28] [] [(168, .v (I m))] .nil fun ac S => ?_
  refine S.hq 29 [29] [] [(169, .v (pt q109.mons.1.b (q109.mons.1.off + m.toNat * 9)))] (.cons (qt o118.rn m Tryz.underlying28) .nil) fun ac S => ?_
  refine S.hq 30 [30] [] [(170, .v (pt q109.mons.1.b (q109.mons.1.off + m.toNat * 9)))] .nil fun ac S => ?_
  refine S.hq 31 [31] [] [(171, .v (slv (el Y1.mons m.toNat).outer.length (q109.mons.2 m.toNat).outer.1))] (.cons (qc o118.rn 69 m.toNat 0 (slv (el Y1.mons m.toNat).outer.length (q109.mons.2 m.toNat).outer.1)) .nil) fun ac S => ?_
  refine S.hq 32 [32] [] [(172, .v (I page))] .nil fun ac S => ?_
  refine WD.one (i := 33) (by kernel_rfl) ?_
  refine id (S.k1 173 (c_spec_Fill w (el (el Y1.mons m.toNat).tables g.toNat) ((q109.mons.2 m.toNat).tables.2 g.toNat) (S.rd (LRd.el (RMon.tables (d := (el Y1.mons m.toNat)) (LRd.el o118.rn m.toNat (by omega))) g.toNat (by omega))) (el (el Y1.mons m.toNat).guests g.toNat).live ((q109.mons.2 m.toNat).guests.2 g.toNat).live (S.rd (RGuest.live (d := (el (el Y1.mons m.toNat).guests g.toNat)) (LRd.el (RMon.guests (d := (el Y1.mons m.toNat)) (LRd.el o118.rn m.toNat (by omega))) g.toNat (by omega)))) (el Y1.mons m.toNat).outer (q109.mons.2 m.toNat).outer (S.rd (RMon.outer (d := (el Y1.mons m.toNat)) (LRd.el o118.rn m.toNat (by omega)))) page) fun ac w N q132 F133 S up o134 d135 => ?_)
  refine WD.next S up (by kernel_rfl) ?_
  have d136 := Disj.w d135 o115.sub
  have d137 := Disj.w d135 o118.sub
  have d138 := Disj.w d135 o121.sub
  have d139 := Disj.w d135 o124.sub
  replace o115 := o115.up up
  replace o118 := o118.up up
  replace o121 := o121.up up
  replace o124 := o124.up up
  clear up d135
  obtain ⟨F140, F143, o141, o144, s142, s145, d146⟩ := sp_Kept o134
  refine S.hq 34 [34] [] [(173, .v (GT.val (f_fill (el (el Y1.mons m.toNat).tables g.toNat) (el (el Y1.mons m.toNat).guests g.toNat).live (el Y1.mons m.toNat).outer page) q132)), (174, .v (pt (q109.mons.2 m.toNat).tables.1.b ((q109.mons.2 m.toNat).tables.1.off + g.toNat * 2)))] (.cons (qt (RMon.tables (d := (el Y1.mons m.toNat)) (LRd.el o118.rn m.toNat (by omega))) g Tryz.underlying71) .nil) fun ac S => ?_
  refine WD.one (i := 35) (by kernel_rfl) ?_
  obtain ⟨F147, o148, s149, b150⟩ := foc2_Mon_tables o118 (k := m.toNat) (show m.toNat < Y1.mons.length by omega)
  have l151 := LRd.le o148.rn
  have n152 := o148.sub
  have o157 := ow_Kept (x := (f_fill (el (el Y1.mons m.toNat).tables g.toNat) (el (el Y1.mons m.toNat).guests g.toNat).live (el Y1.mons m.toNat).outer page)) (p := q132) o141 o144 d146 
  refine id (S.sV (α := TKept) o148 (t := 96) (k := g.toNat) (off := (q109.mons.2 m.toNat).tables.1.off + g.toNat * 2) o157 (Disj.symm (Disj.or (Disj.symm (Disj.part (Disj.symm (Disj.part (Disj.symm d137) s142)) s149)) (Disj.or (Disj.symm (Disj.part (Disj.symm (Disj.part (Disj.symm d137) s145)) s149)) Disj.nob))) fun w N F154 q155 S up o153 d156 s158 n159 => ?_)
  refine WD.last (by kernel_rfl) ?_
  have d160 := d156 _ (Disj.symm (Disj.part (Disj.symm d126) s149)) (Disj.symm (Disj.or (Disj.part (Disj.symm d136) s142) (Disj.or (Disj.part (Disj.symm d136) s145) Disj.nob))) o115.sub
  have d161 := d156 _ (Disj.symm (Disj.part d129 s149)) (Disj.symm (Disj.or (Disj.part (Disj.symm d138) s142) (Disj.or (Disj.part (Disj.symm d138) s145) Disj.nob))) o121.sub
  have d162 := d156 _ (Disj.symm (Disj.part d130 s149)) (Disj.symm (Disj.or (Disj.part (Disj.symm d139) s142) (Disj.or (Disj.part (Disj.symm d139) s145) Disj.nob))) o124.sub
  replace o115 := o115.upF (Disj.symm (Disj.part (Disj.symm d126) s149)) up
  replace o121 := o121.upF (Disj.symm (Disj.part d129 s149)) up
  replace o124 := o124.upF (Disj.symm (Disj.part d130 s149)) up
  clear d156 o148
  obtain ⟨p163, o164, c165⟩ := b150 _ _ _ _ _ (uniB [F140, F143]) up o153 s158 (Disj.symm (Disj.or (Disj.part (Disj.symm d137) s142) (Disj.or (Disj.part (Disj.symm d137) s145) Disj.nob))) (by show [slv _ _] = [slv _ _]; rw [List.length_set]) (fun b h => n159 b (n152 b h))
  clear up o153 n159
  have l166 : (Y1.mons.set m.toNat ({ el Y1.mons m.toNat with tables := ((el Y1.mons m.toNat).tables.set g.toNat (f_fill (el (el Y1.mons m.toNat).tables g.toNat) (el (el Y1.mons m.toNat).guests g.toNat).live (el Y1.mons m.toNat).outer page)) })).length = Y1.mons.length := List.length_set
  obtain ⟨X167, hX168⟩ : ∃ z, z = Y1.mons.set m.toNat ({ el Y1.mons m.toNat with tables := ((el Y1.mons m.toNat).tables.set g.toNat (f_fill (el (el Y1.mons m.toNat).tables g.toNat) (el (el Y1.mons m.toNat).guests g.toNat).live (el Y1.mons m.toNat).outer page)) }) := ⟨_, rfl⟩
  rw [← hX168] at o164 c165 l166
  obtain ⟨l169, e170⟩ := setm_tables hX168 (show m.toNat < Y1.mons.length by omega) List.length_set
  replace S := S.z (σ' := ⟨[(2, .v (I m)), (3, .v (I g)), (4, .v (I page)), (6, .v (B true)), (7, .p 0 0), (14, .p 1 0), (19, .v (I (f_tagOf m g))), (20, .p 2 0), (22, .p 3 0), (173, .v (GT.val (f_fill (el (el Y1.mons m.toNat).tables g.toNat) (el (el Y1.mons m.toNat).guests g.toNat).live (el Y1.mons m.toNat).outer page) q132)), (174, .v (pt (q109.mons.2 m.toNat).tables.1.b ((q109.mons.2 m.toNat).tables.1.off + g.toNat * 2)))], [[slv Y1.mem.length q109.mem.1, slv Y1.mons.length q109.mons.1, slv Y1.buf.length q109.buf.1, slv Y1.iobuf.length q109.iobuf.1], Zc THost, GT.cells (f_findEntry h.iobuf (f_tagOf m g) page).1 (), GT.cells (f_ask (el (el J3 m.toNat).tables g.toNat) page).1 ()]⟩)
  replace S := S.cast (σ' := ⟨[(2, .v (I m)), (3, .v (I g)), (4, .v (I page)), (6, .v (B true)), (7, .p 0 0), (14, .p 1 0), (19, .v (I (f_tagOf m g))), (20, .p 2 0), (22, .p 3 0), (173, .v (GT.val (f_fill (el (el Y1.mons m.toNat).tables g.toNat) (el (el Y1.mons m.toNat).guests g.toNat).live (el Y1.mons m.toNat).outer page) q132)), (174, .v (pt (q109.mons.2 m.toNat).tables.1.b ((q109.mons.2 m.toNat).tables.1.off + g.toNat * 2)))], [[slv Y1.mem.length q109.mem.1, slv X167.length q109.mons.1, slv Y1.buf.length q109.buf.1, slv Y1.iobuf.length q109.iobuf.1], Zc THost, GT.cells (f_findEntry h.iobuf (f_tagOf m g) page).1 (), GT.cells (f_ask (el (el J3 m.toNat).tables g.toNat) page).1 ()]⟩) (by rw [show X167.length = Y1.mons.length by omega])
  refine WD.done (by kernel_rfl) ?_ _
  refine S.ex fun S => ?_
  have i171 : RSlot (f_ask (el (el X167 m.toNat).tables g.toNat) page).1 := (ask_r (LRd.el (RMon.tables (d := (el X167 m.toNat)) (LRd.el o164.rn m.toNat (by omega))) g.toNat (by omega)) page)
  refine S.go 42 (.cons (qt o164.rn m Tryz.underlying28) (.cons (qc o164.rn 71 m.toNat 7 (slv (el X167 m.toNat).tables.length ((q109.mons.1, p163).2 m.toNat).tables.1)) (.cons (qt (RMon.tables (d := (el X167 m.toNat)) (LRd.el o164.rn m.toNat (by omega))) g Tryz.underlying71) (.cons (qs (RMon.tables (d := (el X167 m.toNat)) (LRd.el o164.rn m.toNat (by omega))) 96 g.toNat) (.cons (Q_call fun w hw => c_spec_Ask w (el (el X167 m.toNat).tables g.toNat) (((q109.mons.1, p163).2 m.toNat).tables.2 g.toNat) (rd_of (LRd.el (RMon.tables (d := (el X167 m.toNat)) (LRd.el o164.rn m.toNat (by omega))) g.toNat (by omega)) hw) page) (.cons (Q_sem (s := Instr.build 87 [(0, I (f_tagOf m g)), (1, I page), (2, I (f_ask (el (el X167 m.toNat).tables g.toNat) page).1.page), (3, I (f_ask (el (el X167 m.toNat).tables g.toNat) page).1.rights)].toArray) (v := .agg [I (f_tagOf m g), I page, I (f_ask (el (el X167 m.toNat).tables g.toNat) page).1.page, I (f_ask (el (el X167 m.toNat).tables g.toNat) page).1.rights].toArray) (fun w => by kernel_rfl)) .nil)))))) fun ac w β S => S.K1 (r := f_putEntry Y1.iobuf (⟨(f_tagOf m g), page, (f_ask (el (el X167 m.toNat).tables g.toNat) page).1.page, (f_ask (el (el X167 m.toNat).tables g.toNat) page).1.rights⟩ : TEntry)) (d := 200) (c_spec_PutEntry w Y1.iobuf q109.iobuf (S.rd o124.rn) (⟨(f_tagOf m g), page, (f_ask (el (el X167 m.toNat).tables g.toNat) page).1.page, (f_ask (el (el X167 m.toNat).tables g.toNat) page).1.rights⟩ : TEntry) (show REntry (⟨(f_tagOf m g), page, (f_ask (el (el X167 m.toNat).tables g.toNat) page).1.page, (f_ask (el (el X167 m.toNat).tables g.toNat) page).1.rights⟩ : TEntry) from ⟨(tagOf_in64 m g), hpage, (RSlot.page (d := (f_ask (el (el X167 m.toNat).tables g.toNat) page).1) i171), (RSlot.rights (d := (f_ask (el (el X167 m.toNat).tables g.toNat) page).1) i171)⟩) (by (first | omega | (dsimp only; omega)))) fun ac w N q172 F173 S up o174 d175 => ?_
  have d176 := Disj.w d175 o115.sub
  have d177 := Disj.w d175 o121.sub
  have d178 := Disj.w d175 o124.sub
  have d179 := Disj.w d175 o164.sub
  replace o115 := o115.up up
  replace o121 := o121.up up
  replace o124 := o124.up up
  replace o164 := o164.up up
  clear up d175
  refine S.go 5 .nil fun ac w β S => ?_
  refine drw ?_
  let σ180 : Sy := ⟨[(7, .p 0 0), (14, .p 1 0), (22, .p 3 0)], [[slv Y1.mem.length q109.mem.1, slv X167.length q109.mons.1, slv Y1.buf.length q109.buf.1, slv (f_putEntry Y1.iobuf (⟨(f_tagOf m g), page, (f_ask (el (el X167 m.toNat).tables g.toNat) page).1.page, (f_ask (el (el X167 m.toNat).tables g.toNat) page).1.rights⟩ : TEntry)).length q172.1], Zc THost, [I (f_tagOf m g), I page, I (f_ask (el (el X167 m.toNat).tables g.toNat) page).1.page, I (f_ask (el (el X167 m.toNat).tables g.toNat) page).1.rights], GT.cells (f_ask (el (el X167 m.toNat).tables g.toNat) page).1 ()]⟩
  obtain ⟨u0, N0, β0, S, o115, o121, o164, o174⟩ : ∃ u0 N0 β0, St Tryz.prog Tryz.f24.ntmps w0 F u0 N0 β0 σ180 ac w ∧ Ow w0 F u0 N0 F114 Y1.mem q109.mem ∧ Ow w0 F u0 N0 F120 Y1.buf q109.buf ∧ Ow w0 F u0 N0 (Or F117 F154) X167 (q109.mons.1, p163) ∧ Ow w0 F u0 N0 F173 (f_putEntry Y1.iobuf (⟨(f_tagOf m g), page, (f_ask (el (el X167 m.toNat).tables g.toNat) page).1.page, (f_ask (el (el X167 m.toNat).tables g.toNat) page).1.rights⟩ : TEntry)) q172 := ⟨_, _, _, S.z, o115, o121, o164, o174⟩
  refine wp_region_cut (fun ac w => ∃  u N β, St Tryz.prog Tryz.f24.ntmps w0 F u N β (σ180.dl [7, 22] [(15, .v (I (f_ask (el (el X167 m.toNat).tables g.toNat) page).1.page)), (16, .v (B true))] 2 [(1, [slv Y1.mem.length q109.mem.1, slv X167.length q109.mons.1, slv Y1.buf.length q109.buf.1, slv (f_putEntry Y1.iobuf (⟨(f_tagOf m g), page, (f_ask (el (el X167 m.toNat).tables g.toNat) page).1.page, (f_ask (el (el X167 m.toNat).tables g.toNat) page).1.rights⟩ : TEntry)).length q172.1])]) ac w ∧ Ow w0 F u N F114 Y1.mem q109.mem ∧ Ow w0 F u N F120 Y1.buf q109.buf ∧ Ow w0 F u N (Or F117 F154) X167 (q109.mons.1, p163) ∧ Ow w0 F u N F173 (f_putEntry Y1.iobuf (⟨(f_tagOf m g), page, (f_ask (el (el X167 m.toNat).tables g.toNat) page).1.page, (f_ask (el (el X167 m.toNat).tables g.toNat) page).1.rights⟩ : TEntry)) q172) ?_ ?_
  ·refine S.draw0 (f := 6) 3 (by kernel_rfl) (by kernel_rfl) fun w S => ?_
   refine S.hq 0 [0] [] [(207, .v (GT.val (⟨Y1.mem, X167, Y1.buf, (f_putEntry Y1.iobuf (⟨(f_tagOf m g), page, (f_ask (el (el X167 m.toNat).tables g.toNat) page).1.page, (f_ask (el (el X167 m.toNat).tables g.toNat) page).1.rights⟩ : TEntry))⟩ : THost) (⟨q109.mem, (q109.mons.1, p163), q109.buf, q172⟩ : PHost)))] .nil fun ac S => ?_
   refine WD.nameW fun W hW => ?_
   refine WD.castW (l' := mkL 6 [0]) (by kernel_rfl) ?_
   have hK181 ac w u N β (S : St Tryz.prog Tryz.f24.ntmps w0 F u N β (σ180.dl [7, 22] [(15, .v (I (f_ask (el (el X167 m.toNat).tables g.toNat) page).1.page)), (16, .v (B true))] 4 [(1, [slv Y1.mem.length q109.mem.1, slv X167.length q109.mons.1, slv Y1.buf.length q109.buf.1, slv (f_putEntry Y1.iobuf (⟨(f_tagOf m g), page, (f_ask (el (el X167 m.toNat).tables g.toNat) page).1.page, (f_ask (el (el X167 m.toNat).tables g.toNat) page).1.rights⟩ : TEntry)).length q172.1])]) ac w) (o115 : Ow w0 F u N F114 Y1.mem q109.mem) (o121 : Ow w0 F u N F120 Y1.buf q109.buf) (o164 : Ow w0 F u N (Or F117 F154) X167 (q109.mons.1, p163)) (o174 : Ow w0 F u N F173 (f_putEntry Y1.iobuf (⟨(f_tagOf m g), page, (f_ask (el (el X167 m.toNat).tables g.toNat) page).1.page, (f_ask (el (el X167 m.toNat).tables g.toNat) page).1.rights⟩ : TEntry)) q172) : W 0 (mkL 6 [0, 1, 2, 3, 4, 5]) ac w := by
    exact od hW ⟨rfl, _, _, _, S.z, o115, o121, o164, o174⟩
   have hK182 ac w u N β (S : St Tryz.prog Tryz.f24.ntmps w0 F u N β (σ180.dl [7, 22] [(207, .v (GT.val (⟨Y1.mem, X167, Y1.buf, (f_putEntry Y1.iobuf (⟨(f_tagOf m g), page, (f_ask (el (el X167 m.toNat).tables g.toNat) page).1.page, (f_ask (el (el X167 m.toNat).tables g.toNat) page).1.rights⟩ : TEntry))⟩ : THost) (⟨q109.mem, (q109.mons.1, p163), q109.buf, q172⟩ : PHost))), (209, .v (I (f_ask (el (el X167 m.toNat).tables g.toNat) page).1.page))] 4 []) ac w) (o115 : Ow w0 F u N F114 Y1.mem q109.mem) (o121 : Ow w0 F u N F120 Y1.buf q109.buf) (o164 : Ow w0 F u N (Or F117 F154) X167 (q109.mons.1, p163)) (o174 : Ow w0 F u N F173 (f_putEntry Y1.iobuf (⟨(f_tagOf m g), page, (f_ask (el (el X167 m.toNat).tables g.toNat) page).1.page, (f_ask (el (el X167 m.toNat).tables g.toNat) page).1.rights⟩ : TEntry)) q172) (hNN : NN N0 u0 N u) (hBB : BB σ180.bx.length β0 β) : W 3 (mkL 6 [0, 1, 2]) ac w := by
    exact ox1 hW 3 (S.wl hW [4, 5] .nil fun _ _ _ S => hK181 _ _ _ _ _ S o115 o121 o164 o174)
   have hK183 ac w u N β (S : St Tryz.prog Tryz.f24.ntmps w0 F u N β (σ180.dl [7, 22] [(208, .p 3 0)] 4 [(1, [slv Y1.mem.length q109.mem.1, slv X167.length q109.mons.1, slv Y1.buf.length q109.buf.1, slv (f_putEntry Y1.iobuf (⟨(f_tagOf m g), page, (f_ask (el (el X167 m.toNat).tables g.toNat) page).1.page, (f_ask (el (el X167 m.toNat).tables g.toNat) page).1.rights⟩ : TEntry)).length q172.1])]) ac w) (o115 : Ow w0 F u N F114 Y1.mem q109.mem) (o121 : Ow w0 F u N F120 Y1.buf q109.buf) (o164 : Ow w0 F u N (Or F117 F154) X167 (q109.mons.1, p163)) (o174 : Ow w0 F u N F173 (f_putEntry Y1.iobuf (⟨(f_tagOf m g), page, (f_ask (el (el X167 m.toNat).tables g.toNat) page).1.page, (f_ask (el (el X167 m.toNat).tables g.toNat) page).1.rights⟩ : TEntry)) q172) : W 3 (mkL 6 [0, 1, 3]) ac w := by
    exact ox1 hW 2 (S.wl hW [4, 5] .nil fun _ _ _ S => hK181 _ _ _ _ _ S o115 o121 o164 o174)
   have hK184 ac w u N β (S : St Tryz.prog Tryz.f24.ntmps w0 F u N β (σ180.dl [7, 22] [(207, .v (GT.val (⟨Y1.mem, X167, Y1.buf, (f_putEntry Y1.iobuf (⟨(f_tagOf m g), page, (f_ask (el (el X167 m.toNat).tables g.toNat) page).1.page, (f_ask (el (el X167 m.toNat).tables g.toNat) page).1.rights⟩ : TEntry))⟩ : THost) (⟨q109.mem, (q109.mons.1, p163), q109.buf, q172⟩ : PHost))), (208, .p 3 0)] 4 []) ac w) (o115 : Ow w0 F u N F114 Y1.mem q109.mem) (o121 : Ow w0 F u N F120 Y1.buf q109.buf) (o164 : Ow w0 F u N (Or F117 F154) X167 (q109.mons.1, p163)) (o174 : Ow w0 F u N F173 (f_putEntry Y1.iobuf (⟨(f_tagOf m g), page, (f_ask (el (el X167 m.toNat).tables g.toNat) page).1.page, (f_ask (el (el X167 m.toNat).tables g.toNat) page).1.rights⟩ : TEntry)) q172) (hNN : NN N0 u0 N u) (hBB : BB σ180.bx.length β0 β) : W 4 (mkL 6 [0, 1]) ac w := by
    exact ox2 hW 2 3 (S.wq hW hNN hBB [] .nil fun _ _ _ S hB => hK182 _ _ _ _ _ S o115 o121 o164 o174 hNN hB) (S.wl hW [] .nil fun _ _ _ S => hK183 _ _ _ _ _ S o115 o121 o164 o174)
   rw [hW]
   exact S.wh hW [1] (fun _ => S.rcx) fun _ S => hK184 _ _ _ _ _ S o115 o121 o164 o174 (fun _ h => ⟨h, rfl⟩) (fun _ _ => rfl)
  clear S o115 o121 o164 o174
  rintro ac w ⟨u, N, β, S, o115, o121, o164, o174⟩
  refine S.ex fun S => ?_
  refine S.gr 2 .nil [GT.val (⟨Y1.mem, X167, Y1.buf, (f_putEntry Y1.iobuf (⟨(f_tagOf m g), page, (f_ask (el (el X167 m.toNat).tables g.toNat) page).1.page, (f_ask (el (el X167 m.toNat).tables g.toNat) page).1.rights⟩ : TEntry))⟩ : THost) (⟨q109.mem, (q109.mons.1, p163), q109.buf, q172⟩ : PHost), I (f_ask (el (el X167 m.toNat).tables g.toNat) page).1.page, B true] fun ac w β S => ?_
  have o185 := ow_Host (x := (⟨Y1.mem, X167, Y1.buf, (f_putEntry Y1.iobuf (⟨(f_tagOf m g), page, (f_ask (el (el X167 m.toNat).tables g.toNat) page).1.page, (f_ask (el (el X167 m.toNat).tables g.toNat) page).1.rights⟩ : TEntry))⟩ : THost)) (p := (⟨q109.mem, (q109.mons.1, p163), q109.buf, q172⟩ : PHost)) o115 o164 o121 o174 (Disj.symm (Disj.or (Disj.symm d126) (Disj.symm d160))) d127 d176 (Disj.symm (Disj.symm (Disj.or d129 (Disj.symm d161)))) d179 d177 
  exact retT3_of S (show (f_lookup h m g page need true).1 = (⟨Y1.mem, X167, Y1.buf, (f_putEntry Y1.iobuf (⟨(f_tagOf m g), page, (f_ask (el (el X167 m.toNat).tables g.toNat) page).1.page, (f_ask (el (el X167 m.toNat).tables g.toNat) page).1.rights⟩ : TEntry))⟩ : THost) from k0_spec_l23Find) (show (f_lookup h m g page need true).2.1 = (f_ask (el (el X167 m.toNat).tables g.toNat) page).1.page from k0_spec_l23Find) (show (f_lookup h m g page need true).2.2 = true from k0_spec_l23Find) rfl o185 (RSlot.page (d := (f_ask (el (el X167 m.toNat).tables g.toNat) page).1) i171)
 obtain ⟨h186, h187⟩ := or_f h107
 obtain ⟨h188, h189⟩ := or_f h186
 have h190 := not_f h188
 have g191 : ¬ ((f_ask (el (el J3 m.toNat).tables g.toNat) page).1.page = (-1)) := ne_of_beq_false h189
 have h192 := not_f h187
 have g193 := enough_t h192
 refine S.go 26 (.cons (Q_sem (s := Instr.build 87 [(0, I (f_tagOf m g)), (1, I page), (2, I (f_ask (el (el J3 m.toNat).tables g.toNat) page).1.page), (3, I (f_ask (el (el J3 m.toNat).tables g.toNat) page).1.rights)].toArray) (v := .agg [I (f_tagOf m g), I page, I (f_ask (el (el J3 m.toNat).tables g.toNat) page).1.page, I (f_ask (el (el J3 m.toNat).tables g.toNat) page).1.rights].toArray) (fun w => by kernel_rfl)) .nil) fun ac w β S => S.K1 (r := f_putEntry h.iobuf (⟨(f_tagOf m g), page, (f_ask (el (el J3 m.toNat).tables g.toNat) page).1.page, (f_ask (el (el J3 m.toNat).tables g.toNat) page).1.rights⟩ : TEntry)) (d := 200) (c_spec_PutEntry w h.iobuf ph.iobuf (S.rd o11.rn) (⟨(f_tagOf m g), page, (f_ask (el (el J3 m.toNat).tables g.toNat) page).1.page, (f_ask (el (el J3 m.toNat).tables g.toNat) page).1.rights⟩ : TEntry) (show REntry (⟨(f_tagOf m g), page, (f_ask (el (el J3 m.toNat).tables g.toNat) page).1.page, (f_ask (el (el J3 m.toNat).tables g.toNat) page).1.rights⟩ : TEntry) from ⟨(tagOf_in64 m g), hpage, (RSlot.page (d := (f_ask (el (el J3 m.toNat).tables g.toNat) page).1) i101), (RSlot.rights (d := (f_ask (el (el J3 m.toNat).tables g.toNat) page).1) i101)⟩) (by (first | omega | (dsimp only; omega)))) fun ac w N q194 F195 S up o196 d197 => ?_
 have d198 := Disj.w d197 o2.sub
 have d199 := Disj.w d197 o8.sub
 have d200 := Disj.w d197 o11.sub
 have d201 := Disj.w d197 o59.sub
 replace o2 := o2.up up
 replace o8 := o8.up up
 replace o11 := o11.up up
 replace o59 := o59.up up
 clear up d197
 refine S.go 5 .nil fun ac w β S => ?_
 refine drw ?_
 let σ202 : Sy := ⟨[(7, .p 0 0), (14, .p 1 0), (22, .p 3 0)], [[slv h.mem.length ph.mem.1, slv J3.length q57.1, slv h.buf.length ph.buf.1, slv (f_putEntry h.iobuf (⟨(f_tagOf m g), page, (f_ask (el (el J3 m.toNat).tables g.toNat) page).1.page, (f_ask (el (el J3 m.toNat).tables g.toNat) page).1.rights⟩ : TEntry)).length q194.1], Zc THost, [I (f_tagOf m g), I page, I (f_ask (el (el J3 m.toNat).tables g.toNat) page).1.page, I (f_ask (el (el J3 m.toNat).tables g.toNat) page).1.rights], GT.cells (f_ask (el (el J3 m.toNat).tables g.toNat) page).1 ()]⟩
 obtain ⟨u0, N0, β0, S, o2, o8, o59, o196⟩ : ∃ u0 N0 β0, St Tryz.prog Tryz.f24.ntmps w0 F u0 N0 β0 σ202 ac w ∧ Ow w0 F u0 N0 F1 h.mem ph.mem ∧ Ow w0 F u0 N0 F7 h.buf ph.buf ∧ Ow w0 F u0 N0 F58 J3 q57 ∧ Ow w0 F u0 N0 F195 (f_putEntry h.iobuf (⟨(f_tagOf m g), page, (f_ask (el (el J3 m.toNat).tables g.toNat) page).1.page, (f_ask (el (el J3 m.toNat).tables g.toNat) page).1.rights⟩ : TEntry)) q194 := ⟨_, _, _, S.z, o2, o8, o59, o196⟩
 refine wp_region_cut (fun ac w => ∃  u N β, St Tryz.prog Tryz.f24.ntmps w0 F u N β (σ202.dl [7, 22] [(15, .v (I (f_ask (el (el J3 m.toNat).tables g.toNat) page).1.page)), (16, .v (B true))] 2 [(1, [slv h.mem.length ph.mem.1, slv J3.length q57.1, slv h.buf.length ph.buf.1, slv (f_putEntry h.iobuf (⟨(f_tagOf m g), page, (f_ask (el (el J3 m.toNat).tables g.toNat) page).1.page, (f_ask (el (el J3 m.toNat).tables g.toNat) page).1.rights⟩ : TEntry)).length q194.1])]) ac w ∧ Ow w0 F u N F1 h.mem ph.mem ∧ Ow w0 F u N F7 h.buf ph.buf ∧ Ow w0 F u N F58 J3 q57 ∧ Ow w0 F u N F195 (f_putEntry h.iobuf (⟨(f_tagOf m g), page, (f_ask (el (el J3 m.toNat).tables g.toNat) page).1.page, (f_ask (el (el J3 m.toNat).tables g.toNat) page).1.rights⟩ : TEntry)) q194) ?_ ?_
 ·refine S.draw0 (f := 6) 3 (by kernel_rfl) (by kernel_rfl) fun w S => ?_
  refine S.hq 0 [0] [] [(207, .v (GT.val (⟨h.mem, J3, h.buf, (f_putEntry h.iobuf (⟨(f_tagOf m g), page, (f_ask (el (el J3 m.toNat).tables g.toNat) page).1.page, (f_ask (el (el J3 m.toNat).tables g.toNat) page).1.rights⟩ : TEntry))⟩ : THost) (⟨ph.mem, q57, ph.buf, q194⟩ : PHost)))] .nil fun ac S => ?_
  refine WD.nameW fun W hW => ?_
  refine WD.castW (l' := mkL 6 [0]) (by kernel_rfl) ?_
  have hK203 ac w u N β (S : St Tryz.prog Tryz.f24.ntmps w0 F u N β (σ202.dl [7, 22] [(15, .v (I (f_ask (el (el J3 m.toNat).tables g.toNat) page).1.page)), (16, .v (B true))] 4 [(1, [slv h.mem.length ph.mem.1, slv J3.length q57.1, slv h.buf.length ph.buf.1, slv (f_putEntry h.iobuf (⟨(f_tagOf m g), page, (f_ask (el (el J3 m.toNat).tables g.toNat) page).1.page, (f_ask (el (el J3 m.toNat).tables g.toNat) page).1.rights⟩ : TEntry)).length q194.1])]) ac w) (o2 : Ow w0 F u N F1 h.mem ph.mem) (o8 : Ow w0 F u N F7 h.buf ph.buf) (o59 : Ow w0 F u N F58 J3 q57) (o196 : Ow w0 F u N F195 (f_putEntry h.iobuf (⟨(f_tagOf m g), page, (f_ask (el (el J3 m.toNat).tables g.toNat) page).1.page, (f_ask (el (el J3 m.toNat).tables g.toNat) page).1.rights⟩ : TEntry)) q194) : W 0 (mkL 6 [0, 1, 2, 3, 4, 5]) ac w := by
   exact od hW ⟨rfl, _, _, _, S.z, o2, o8, o59, o196⟩
  have hK204 ac w u N β (S : St Tryz.prog Tryz.f24.ntmps w0 F u N β (σ202.dl [7, 22] [(207, .v (GT.val (⟨h.mem, J3, h.buf, (f_putEntry h.iobuf (⟨(f_tagOf m g), page, (f_ask (el (el J3 m.toNat).tables g.toNat) page).1.page, (f_ask (el (el J3 m.toNat).tables g.toNat) page).1.rights⟩ : TEntry))⟩ : THost) (⟨ph.mem, q57, ph.buf, q194⟩ : PHost))), (209, .v (I (f_ask (el (el J3 m.toNat).tables g.toNat) page).1.page))] 4 []) ac w) (o2 : Ow w0 F u N F1 h.mem ph.mem) (o8 : Ow w0 F u N F7 h.buf ph.buf) (o59 : Ow w0 F u N F58 J3 q57) (o196 : Ow w0 F u N F195 (f_putEntry h.iobuf (⟨(f_tagOf m g), page, (f_ask (el (el J3 m.toNat).tables g.toNat) page).1.page, (f_ask (el (el J3 m.toNat).tables g.toNat) page).1.rights⟩ : TEntry)) q194) (hNN : NN N0 u0 N u) (hBB : BB σ202.bx.length β0 β) : W 3 (mkL 6 [0, 1, 2]) ac w := by
   exact ox1 hW 3 (S.wl hW [4, 5] .nil fun _ _ _ S => hK203 _ _ _ _ _ S o2 o8 o59 o196)
  have hK205 ac w u N β (S : St Tryz.prog Tryz.f24.ntmps w0 F u N β (σ202.dl [7, 22] [(208, .p 3 0)] 4 [(1, [slv h.mem.length ph.mem.1, slv J3.length q57.1, slv h.buf.length ph.buf.1, slv (f_putEntry h.iobuf (⟨(f_tagOf m g), page, (f_ask (el (el J3 m.toNat).tables g.toNat) page).1.page, (f_ask (el (el J3 m.toNat).tables g.toNat) page).1.rights⟩ : TEntry)).length q194.1])]) ac w) (o2 : Ow w0 F u N F1 h.mem ph.mem) (o8 : Ow w0 F u N F7 h.buf ph.buf) (o59 : Ow w0 F u N F58 J3 q57) (o196 : Ow w0 F u N F195 (f_putEntry h.iobuf (⟨(f_tagOf m g), page, (f_ask (el (el J3 m.toNat).tables g.toNat) page).1.page, (f_ask (el (el J3 m.toNat).tables g.toNat) page).1.rights⟩ : TEntry)) q194) : W 3 (mkL 6 [0, 1, 3]) ac w := by
   exact ox1 hW 2 (S.wl hW [4, 5] .nil fun _ _ _ S => hK203 _ _ _ _ _ S o2 o8 o59 o196)
  have hK206 ac w u N β (S : St Tryz.prog Tryz.f24.ntmps w0 F u N β (σ202.dl [7, 22] [(207, .v (GT.val (⟨h.mem, J3, h.buf, (f_putEntry h.iobuf (⟨(f_tagOf m g), page, (f_ask (el (el J3 m.toNat).tables g.toNat) page).1.page, (f_ask (el (el J3 m.toNat).tables g.toNat) page).1.rights⟩ : TEntry))⟩ : THost) (⟨ph.mem, q57, ph.buf, q194⟩ : PHost))), (208, .p 3 0)] 4 []) ac w) (o2 : Ow w0 F u N F1 h.mem ph.mem) (o8 : Ow w0 F u N F7 h.buf ph.buf) (o59 : Ow w0 F u N F58 J3 q57) (o196 : Ow w0 F u N F195 (f_putEntry h.iobuf (⟨(f_tagOf m g), page, (f_ask (el (el J3 m.toNat).tables g.toNat) page).1.page, (f_ask (el (el J3 m.toNat).tables g.toNat) page).1.rights⟩ : TEntry)) q194) (hNN : NN N0 u0 N u) (hBB : BB σ202.bx.length β0 β) : W 4 (mkL 6 [0, 1]) ac w := by
   exact ox2 hW 2 3 (S.wq hW hNN hBB [] .nil fun _ _ _ S hB => hK204 _ _ _ _ _ S o2 o8 o59 o196 hNN hB) (S.wl hW [] .nil fun _ _ _ S => hK205 _ _ _ _ _ S o2 o8 o59 o196)
  rw [hW]
  exact S.wh hW [1] (fun _ => S.rcx) fun _ S => hK206 _ _ _ _ _ S o2 o8 o59 o196 (fun _ h => ⟨h, rfl⟩) (fun _ _ => rfl)
 clear S o2 o8 o59 o196
 rintro ac w ⟨u, N, β, S, o2, o8, o59, o196⟩
 refine S.ex fun S => ?_
 refine S.gr 2 .nil [GT.val (⟨h.mem, J3, h.buf, (f_putEntry h.iobuf (⟨(f_tagOf m g), page, (f_ask (el (el J3 m.toNat).tables g.toNat) page).1.page, (f_ask (el (el J3 m.toNat).tables g.toNat) page).1.rights⟩ : TEntry))⟩ : THost) (⟨ph.mem, q57, ph.buf, q194⟩ : PHost), I (f_ask (el (el J3 m.toNat).tables g.toNat) page).1.page, B true] fun ac w β S => ?_
 have o207 := ow_Host (x := (⟨h.mem, J3, h.buf, (f_putEntry h.iobuf (⟨(f_tagOf m g), page, (f_ask (el (el J3 m.toNat).tables g.toNat) page).1.page, (f_ask (el (el J3 m.toNat).tables g.toNat) page).1.rights⟩ : TEntry))⟩ : THost)) (p := (⟨ph.mem, q57, ph.buf, q194⟩ : PHost)) o2 o59 o8 o196 d86 d14 d198 (Disj.symm d87) d201 d199 
 exact retT3_of S (show (f_lookup h m g page need true).1 = (⟨h.mem, J3, h.buf, (f_putEntry h.iobuf (⟨(f_tagOf m g), page, (f_ask (el (el J3 m.toNat).tables g.toNat) page).1.page, (f_ask (el (el J3 m.toNat).tables g.toNat) page).1.rights⟩ : TEntry))⟩ : THost) from k0_spec_l23Find) (show (f_lookup h m g page need true).2.1 = (f_ask (el (el J3 m.toNat).tables g.toNat) page).1.page from k0_spec_l23Find) (show (f_lookup h m g page need true).2.2 = true from k0_spec_l23Find) rfl o207 (RSlot.page (d := (f_ask (el (el J3 m.toNat).tables g.toNat) page).1) i101)

theorem k0_spec_AddrCell {p : Prop} (h : p := by clear S; (first | (unfold f_addrCell; rw [if_pos (by omega)]; done) | (unfold f_addrCell; rw [if_pos (by omega)]; first | rfl | (simp; done)) | (unfold f_addrCell; rw [if_neg (by omega)]; done) | (unfold f_addrCell; rw [if_neg (by omega)]; first | rfl | (simp; done)))) : p := h
theorem c_spec_AddrCell (w0 : World) (addr : Int) (haddr : In64 addr) : Calls Tryz.prog 41 [I addr].toArray w0 (fun e w' => e = .returned (I (f_addrCell addr)) ∧ Chg NoB w0 w') := by
 refine Calls.run NoB Tryz.func41 ?_
 intro ac β S
 have hloaddr := haddr.lo; have hhiaddr := haddr.hi
 refine S.gd 12 .nil (decide (addr < 0)) (fun ac w β h1 g2 S => ?_) (fun ac w β h1 g2 S => ?_)
 ·exact S.gf 7 .nil [I (-1)] (retI k0_spec_AddrCell)
 exact S.gf 11 (.cons (Q_rem (x := addr) (y := 4) (by decide)) .nil) [I (Int.tmod addr 4)] (retI k0_spec_AddrCell)

theorem k0_spec_l04Has {p : Prop} (h : p := by clear S; (unfold f_hasCell; (repeat' split) <;> first | rfl | (rw [Bool.eq_iff_iff]; simp [f_within]; omega) | (rw [Bool.eq_iff_iff]; simp_all; omega))) : p := h
theorem c_spec_l04Has (w0 : World) (m : List (List Int)) (pm : LP (List Int)) (hm : RD w0 m pm) (page : Int) (cell : Int) : Calls Tryz.prog 89 [slv m.length pm.1, I page, I cell].toArray w0 (fun e w' => e = .returned (B (f_hasCell m page cell)) ∧ Chg NoB w0 w') := by
 refine Calls.run NoB Tryz.func89 ?_
 intro ac β S
 have hlem : m.length ≤ 4194304 := LRd.le hm
 refine S.gb 13 (.cons (qm (m.length : Int) 1) (.cons (Q_call fun w hw => c_spec_l01In w page 0 ((m.length : Int) - 1)) .nil)) (f_within page 0 ((m.length : Int) - 1)) (fun ac w β h1 S => ?_) (fun ac w β h1 S => ?_)
 ·have g2 := within_t h1
  have b3 : (el m page.toNat).length ≤ 4194304 := LRd.le (LRd.el (S.arg hm) page.toNat (by omega))
  exact S.gf 13 (.cons (qt (S.arg hm) page Tryz.underlying22) (.cons (qx (S.arg hm) 61 page.toNat) (.cons (qm ((el m page.toNat).length : Int) 1) (.cons (Q_call fun w hw => c_spec_l01In w cell 0 (((el m page.toNat).length : Int) - 1)) .nil)))) [B (f_within cell 0 (((el m page.toNat).length : Int) - 1))] (retB k0_spec_l04Has)
 have g4 := within_f h1
 exact S.gf 13 .nil [B false] (retB k0_spec_l04Has)

theorem k0_spec_WithCell {p : Prop} (h : p := by clear S; (unfold f_withCell; (repeat' split) <;> first | rfl | (simp; done) | (exfalso; omega) | (exfalso; simp_all; done) | (exfalso; simp_all; omega))) : p := h
theorem c_spec_WithCell (w0 : World) (m : List (List Int)) (pm : LP (List Int)) (hm : RD w0 m pm) (page : Int) (cell : Int) (v : Int) (hv : In64 v) : Calls Tryz.prog 47 [slv m.length pm.1, I page, I cell, I v].toArray w0 (Ret1 NoB w0 (f_withCell m page cell v : List (List Int))) := by
 refine Calls.run NoB Tryz.func47 ?_
 intro ac β S
 have hlem : m.length ≤ 4194304 := LRd.le hm
 have hlov := hv.lo; have hhiv := hv.hi
 refine S.go 8 .nil fun ac w β S => S.K1 (r := m) (d := 11) (c_spec_l04Copy w m pm (S.rd (S.arg hm))) fun ac w N q1 F2 S up o3 d4 => ?_
 clear up d4
 refine S.gb 11 (.cons (Q_call fun w hw => c_spec_l04Has w m pm (rd_of (S.arg hm) hw) page cell) .nil) (f_hasCell m page cell) (fun ac w β h5 S => ?_) (fun ac w β h5 S => ?_)
 ·have g6 := hasCell_t h5
  refine S.gb 5 (.cons (Q_call fun w hw => c_spec_l01In w v 0 99) .nil) (f_within v 0 99) (fun ac w β h7 S => ?_) (fun ac w β h7 S => ?_)
  ·have g8 := within_t h7
   obtain ⟨F9, o10, s11, b12⟩ := foc2_id o3 (k := page.toNat) (show page.toNat < m.length by omega)
   have l13 := LRd.le o10.rn
   have n14 := o10.sub
   refine S.go 9 (.cons (qt o3.rn page Tryz.underlying22) (.cons (qx o3.rn 61 page.toNat) (.cons (qt (LRd.el o3.rn page.toNat (by omega)) cell Tryz.underlying61) .nil))) fun ac w β S => S.SF (α := Int) o10 (t := 3) (k := cell.toNat) (j := 0) (off := (q1.2 page.toNat).1.off + cell.toNat * 1) (v := I v) (y := v) (q := ()) (fun _ _ _ => ⟨NoB, hv, fun _ h => False.elim h⟩) fun w N F16 q17 S up o15 d18 s19 n20 => ?_
   clear d18 o10
   obtain ⟨p21, o22, c23⟩ := b12 _ _ _ _ _ NoB up o15 s19 (fun b _ h => False.elim h) (by show [slv _ _] = [slv _ _]; rw [List.length_set]) (fun b h => n20 b (n14 b h))
   clear up o15 n20
   have l24 : (m.set page.toNat ((el m page.toNat).set cell.toNat v)).length = m.length := List.length_set
   refine S.gr 9 .nil [slv m.length q1.1] fun ac w β S => ?_
   exact ret1_of S (show f_withCell m page cell v = (m.set page.toNat ((el m page.toNat).set cell.toNat v)) from k0_spec_WithCell) (by rw [show m.length = (m.set page.toNat ((el m page.toNat).set cell.toNat v)).length from (by omega)]; rfl) o22
  have g25 := within_f h7
  refine S.gr 10 .nil [slv m.length q1.1] fun ac w β S => ?_
  exact ret1_of S (show f_withCell m page cell v = m from k0_spec_WithCell) rfl o3
 have g26 := hasCell_f h5
 refine S.gr 15 .nil [slv m.length q1.1] fun ac w β S => ?_
 exact ret1_of S (show f_withCell m page cell v = m from k0_spec_WithCell) rfl o3

theorem k0_spec_HostDma {p : Prop} (h : p := by clear S; (first | (rw [dma_out (.inl (by assumption))]; done) | (rw [dma_out (.inr (.inl (by assumption)))]; done) | (rw [dma_out (.inr (.inr (by assumption)))]; done) | (rw [dma_no rfl (by assumption)]; done) | (rw [dma_no (by assumption) (by assumption)]; done) | (rw [dma_yes rfl (by assumption) (by assumption) (by assumption)]; done) | (rw [dma_yes (by assumption) (by assumption) (by assumption) (by assumption)]; done))) : p := h
theorem c_spec_HostDma (w0 : World) (h : THost) (ph : PHost) (hh : RD w0 h ph) (m : Int) (g : Int) (addr : Int) (haddr : In64 addr) (v : Int) (hv : In64 v) : Calls Tryz.prog 18 [GT.val h ph, I m, I g, I addr, I v].toArray w0 (Ret2 NoB w0 ((f_hostDma h m g addr v).1 : THost) ((f_hostDma h m g addr v).2 : Bool)) := by
 refine Calls.run NoB Tryz.func18 ?_
 intro ac β S
 have hleh_mem : h.mem.length ≤ 4194304 := LRd.le (RHost.mem (d := h) hh)
 have hleh_mons : h.mons.length ≤ 4194304 := LRd.le (RHost.mons (d := h) hh)
 have hleh_buf : h.buf.length ≤ 4194304 := LRd.le (RHost.buf (d := h) hh)
 have hleh_iobuf : h.iobuf.length ≤ 4194304 := LRd.le (RHost.iobuf (d := h) hh)
 have hloaddr := haddr.lo; have hhiaddr := haddr.hi
 have hlov := hv.lo; have hhiv := hv.hi
 refine S.go 10 .nil fun ac w β S => S.K1 (r := h) (d := 15) (c_spec_l21Copy w h ph (S.rd (S.arg hh))) fun ac w N q1 F2 S up o3 d4 => ?_
 clear up d4
 obtain ⟨F5, F8, F11, F14, o6, o9, o12, o15, s7, s10, s13, s16, d17, d18, d19, d20, d21, d22⟩ := sp_Host o3
 refine S.gb 10 (.cons (Q_call fun w hw => c_spec_l01In w addr 0 15) .nil) (!(f_within addr 0 15)) (fun ac w β h23 S => ?_) (fun ac w β h23 S => ?_)
 ·have h24 := not_t h23
  have g25 := within_f h24
  refine S.gr 15 .nil [GT.val h q1, B false] fun ac w β S => ?_
  have o26 := ow_Host (x := h) (p := q1) o6 o9 o12 o15 d17 d18 d19 d20 d21 d22 
  exact ret2_of (p' := ()) S (show (f_hostDma h m g addr v).1 = h from k0_spec_HostDma) (show (f_hostDma h m g addr v).2 = false from k0_spec_HostDma) rfl rfl o26 trivial
 have h27 := not_f h23
 have g28 := within_t h27
 refine S.gb 6 (.cons (Q_call fun w hw => c_spec_l01In w v 0 99) .nil) (!(f_within v 0 99)) (fun ac w β h29 S => ?_) (fun ac w β h29 S => ?_)
 ·have h30 := not_t h29
  have g31 := within_f h30
  refine S.gr 9 .nil [GT.val h q1, B false] fun ac w β S => ?_
  have o32 := ow_Host (x := h) (p := q1) o6 o9 o12 o15 d17 d18 d19 d20 d21 d22 
  exact ret2_of (p' := ()) S (show (f_hostDma h m g addr v).1 = h from k0_spec_HostDma) (show (f_hostDma h m g addr v).2 = false from k0_spec_HostDma) rfl rfl o32 trivial
 have h33 := not_f h29
 have g34 := within_t h33
 refine S.go 4 .nil fun ac w β S => ?_
 refine drw ?_
 let σ59 : Sy := ⟨[(1, .v (I m)), (2, .v (I g)), (3, .v (I addr)), (4, .v (I v)), (5, .p 0 0), (10, .p 1 0), (23, .v (B false))], [[slv h.mem.length q1.mem.1, slv h.mons.length q1.mons.1, slv h.buf.length q1.buf.1, slv h.iobuf.length q1.iobuf.1], Zc THost]⟩
 obtain ⟨u0, N0, β0, S, o6, o9, o12, o15⟩ : ∃ u0 N0 β0, St Tryz.prog Tryz.f18.ntmps w0 NoB u0 N0 β0 σ59 ac w ∧ Ow w0 NoB u0 N0 F5 h.mem q1.mem ∧ Ow w0 NoB u0 N0 F8 h.mons q1.mons ∧ Ow w0 NoB u0 N0 F11 h.buf q1.buf ∧ Ow w0 NoB u0 N0 F14 h.iobuf q1.iobuf := ⟨_, _, _, S.z, o6, o9, o12, o15⟩
 refine wp_region_cut (fun ac w => ∃ q103 F104 q106 F107 q97 F98 q100 F101 u N β, St Tryz.prog Tryz.f18.ntmps w0 NoB u N β (σ59.dl [1, 2, 23] [(12, .v (I (f_lookup h m g (f_addrPage addr) 2 true).2.1)), (13, .v (B (f_lookup h m g (f_addrPage addr) 2 true).2.2))] 2 [(0, [slv (f_lookup h m g (f_addrPage addr) 2 true).1.mem.length q97.1, slv (f_lookup h m g (f_addrPage addr) 2 true).1.mons.length q100.1, slv (f_lookup h m g (f_addrPage addr) 2 true).1.buf.length q103.1, slv (f_lookup h m g (f_addrPage addr) 2 true).1.iobuf.length q106.1])]) ac w ∧ Ow w0 NoB u N F104 (f_lookup h m g (f_addrPage addr) 2 true).1.buf q103 ∧ Ow w0 NoB u N F107 (f_lookup h m g (f_addrPage addr) 2 true).1.iobuf q106 ∧ Ow w0 NoB u N F98 (f_lookup h m g (f_addrPage addr) 2 true).1.mem q97 ∧ Ow w0 NoB u N F101 (f_lookup h m g (f_addrPage addr) 2 true).1.mons q100 ∧ Disj F104 F107 ∧ Disj F104 F98 ∧ Disj F104 F101 ∧ Disj F107 F98 ∧ Disj F107 F101 ∧ Disj F98 F101) ?_ ?_
 ·refine S.draw0 (f := 15) 7 (by kernel_rfl) (by kernel_rfl) fun w S => ?_
  refine S.hq 0 [0] [] [(26, .v (GT.val h q1))] .nil fun ac S => ?_
  refine S.hq 1 [2, 1] [] [(27, .p 0 3)] .nil fun ac S => ?_
  refine S.hq 2 [2] [] [(28, .v (slv h.iobuf.length q1.iobuf.1))] .nil fun ac S => ?_
  refine S.hq 3 [3] [] [(29, .v (I m))] .nil fun ac S => ?_
  refine S.hq 4 [4] [] [(30, .v (I g))] .nil fun ac S => ?_
  refine S.hq 5 [6, 5] [] [(31, .v (I addr))] .nil fun ac S => ?_
  refine WD.nameW fun W hW => ?_
  refine WD.castW (l' := mkL 15 [0, 1, 2, 3, 4, 5]) (by kernel_rfl) ?_
  have hK108 ac w q103 F104 q106 F107 q97 F98 q100 F101 u N β (S : St Tryz.prog Tryz.f18.ntmps w0 NoB u N β (σ59.dl [1, 2, 23] [(12, .v (I (f_lookup h m g (f_addrPage addr) 2 true).2.1)), (13, .v (B (f_lookup h m g (f_addrPage addr) 2 true).2.2))] 2 [(0, [slv (f_lookup h m g (f_addrPage addr) 2 true).1.mem.length q97.1, slv (f_lookup h m g (f_addrPage addr) 2 true).1.mons.length q100.1, slv (f_lookup h m g (f_addrPage addr) 2 true).1.buf.length q103.1, slv (f_lookup h m g (f_addrPage addr) 2 true).1.iobuf.length q106.1])]) ac w) (o102 : Ow w0 NoB u N F104 (f_lookup h m g (f_addrPage addr) 2 true).1.buf q103) (o105 : Ow w0 NoB u N F107 (f_lookup h m g (f_addrPage addr) 2 true).1.iobuf q106) (o96 : Ow w0 NoB u N F98 (f_lookup h m g (f_addrPage addr) 2 true).1.mem q97) (o99 : Ow w0 NoB u N F101 (f_lookup h m g (f_addrPage addr) 2 true).1.mons q100) (d109 : Disj F104 F107) (d110 : Disj F104 F98) (d111 : Disj F104 F101) (d112 : Disj F107 F98) (d113 : Disj F107 F101) (d114 : Disj F98 F101) : W 0 (mkL 15 [0, 1, 2, 3, 4, 5, 6, 7, 8, 9, 10, 11, 12, 13, 14]) ac w := by
   exact od hW ⟨rfl, q103, F104, q106, F107, q97, F98, q100, F101, _, _, _, S.z, o102, o105, o96, o99, d109, d110, d111, d112, d113, d114⟩
  have hK115 ac w q91 F92 q94 F95 q85 F86 q88 F89 u N β (S : St Tryz.prog Tryz.f18.ntmps w0 NoB u N β (σ59.dl [1, 2, 23] [(34, .v (GT.val (f_lookup h m g (f_addrPage addr) 2 true).1 (⟨q85, q88, q91, q94⟩ : PHost))), (35, .v (I (f_lookup h m g (f_addrPage addr) 2 true).2.1)), (36, .v (B (f_lookup h m g (f_addrPage addr) 2 true).2.2))] 2 []) ac w) (o90 : Ow w0 NoB u N F92 (f_lookup h m g (f_addrPage addr) 2 true).1.buf q91) (o93 : Ow w0 NoB u N F95 (f_lookup h m g (f_addrPage addr) 2 true).1.iobuf q94) (o84 : Ow w0 NoB u N F86 (f_lookup h m g (f_addrPage addr) 2 true).1.mem q85) (o87 : Ow w0 NoB u N F89 (f_lookup h m g (f_addrPage addr) 2 true).1.mons q88) (d116 : Disj F92 F95) (d117 : Disj F92 F86) (d118 : Disj F92 F89) (d119 : Disj F95 F86) (d120 : Disj F95 F89) (d121 : Disj F86 F89) : W 3 (mkL 15 [0, 1, 2, 3, 4, 5, 6, 7, 8, 9, 10, 11]) ac w := by
   exact ox1 hW 12 (S.wl hW [13, 14] .nil fun _ _ _ S => hK108 _ _ q91 F92 q94 F95 q85 F86 q88 F89 _ _ _ S o90 o93 o84 o87 d116 d117 d118 d119 d120 d121)
  have hK122 ac w u N β (S : St Tryz.prog Tryz.f18.ntmps w0 NoB u N β (σ59.dl [1, 2, 23] [(26, .v (GT.val h q1)), (28, .v (slv h.iobuf.length q1.iobuf.1)), (29, .v (I m)), (30, .v (I g)), (32, .v (I (f_addrPage addr)))] 2 []) ac w) (o6 : Ow w0 NoB u N F5 h.mem q1.mem) (o9 : Ow w0 NoB u N F8 h.mons q1.mons) (o12 : Ow w0 NoB u N F11 h.buf q1.buf) (o15 : Ow w0 NoB u N F14 h.iobuf q1.iobuf) (hNN : NN N0 u0 N u) (hBB : BB σ59.bx.length β0 β) : W 8 (mkL 15 [0, 1, 2, 3, 4, 5, 6]) ac w := by
   refine ox1 hW 7 ?_
   have o123 := ow_Host (x := h) (p := q1) o6 o9 o12 o15 d17 d18 d19 d20 d21 d22 
   refine id (S.callT3 (d := 33) o123 (rfl : (f_lookup h m g (f_addrPage addr) 2 true).1 = _) (c_spec_l23Find w h q1 (uniB [F5, F8, F11, F14]) (S.ownw o123) (fun b hb => (S.sep b (o123.sub b hb)).1) m g (f_addrPage addr) (addrPage_in64 haddr) 2 true (by rfl)) fun ac w N q124 F125 S up o126 d127 i128 => ?_)
   refine WD.sl fun hC => ?_
   clear up d127 o123
   obtain ⟨F129, F132, F135, F138, o130, o133, o136, o139, s131, s134, s137, s140, d141, d142, d143, d144, d145, d146⟩ := sp_Host o126
   exact S.wh hW [8, 9, 10, 11] hC fun _ S => hK115 _ _ q124.buf F135 q124.iobuf F138 q124.mem F129 q124.mons F132 _ _ _ S o136 o139 o130 o133 d146 (Disj.symm d142) (Disj.symm d144) (Disj.symm d143) (Disj.symm d145) d141
  have hNN : NN N0 u0 N0 u0 := fun b h => ⟨h, rfl⟩
  have hBB : BB σ59.bx.length β0 β0 := fun _ _ => rfl
  exact ox1 hW 6 (S.wq hW hNN hBB [] (.cons (Q_call fun w hw => c_spec_AddrPage w addr haddr) .nil) fun _ _ _ S hB => hK122 _ _ _ _ _ S o6 o9 o12 o15 hNN hB)
 clear S o6 o9 o12 o15
 rintro ac w ⟨q103, F104, q106, F107, q97, F98, q100, F101, u, N, β, S, o102, o105, o96, o99, d147, d148, d149, d150, d151, d152⟩
 refine S.ex fun S => ?_
 refine S.gb 8 .nil (!(f_lookup h m g (f_addrPage addr) 2 true).2.2) (fun ac w β h153 S => ?_) (fun ac w β h153 S => ?_)
 ·have h154 := not_t h153
  refine S.gr 9 .nil [GT.val (f_lookup h m g (f_addrPage addr) 2 true).1 (⟨q97, q100, q103, q106⟩ : PHost), B false] fun ac w β S => ?_
  have o155 := ow_Host (x := (f_lookup h m g (f_addrPage addr) 2 true).1) (p := (⟨q97, q100, q103, q106⟩ : PHost)) o96 o99 o102 o105 d152 (Disj.symm d148) (Disj.symm d150) (Disj.symm d149) (Disj.symm d151) d147 
  exact ret2_of (p' := ()) S (show (f_hostDma h m g addr v).1 = (f_lookup h m g (f_addrPage addr) 2 true).1 from k0_spec_HostDma) (show (f_hostDma h m g addr v).2 = false from k0_spec_HostDma) rfl rfl o155 trivial
 have h156 := not_f h153
 refine S.go 4 .nil fun ac w β S => ?_
 refine drw ?_
 refine S.draw0 (f := 9) 8 (by kernel_rfl) (by kernel_rfl) fun w S => ?_
 refine S.hq 0 [0] [] [(40, .p 0 0)] .nil fun ac S => ?_
 refine S.hq 1 [1] [] [(41, .v (slv (f_lookup h m g (f_addrPage addr) 2 true).1.mem.length q97.1))] .nil fun ac S => ?_
 refine S.hq 2 [2] [] [(42, .v (I (f_lookup h m g (f_addrPage addr) 2 true).2.1))] .nil fun ac S => ?_
 refine S.hq 3 [3] [] [(43, .v (I addr))] .nil fun ac S => ?_
 refine S.hq 5 [5] [] [(45, .v (I v))] .nil fun ac S => ?_
 refine WD.one (i := 4) (by kernel_rfl) ?_
 refine S.stepq (i := 4) (keep := [5, 10, 41, 42, 44, 45]) (m := 2) (σ' := ⟨[(5, .p 0 0), (10, .p 1 0), (41, .v (slv (f_lookup h m g (f_addrPage addr) 2 true).1.mem.length q97.1)), (42, .v (I (f_lookup h m g (f_addrPage addr) 2 true).2.1)), (44, .v (I (f_addrCell addr))), (45, .v (I v))], [[slv (f_lookup h m g (f_addrPage addr) 2 true).1.mem.length q97.1, slv (f_lookup h m g (f_addrPage addr) 2 true).1.mons.length q100.1, slv (f_lookup h m g (f_addrPage addr) 2 true).1.buf.length q103.1, slv (f_lookup h m g (f_addrPage addr) 2 true).1.iobuf.length q106.1], Zc THost]⟩) (.cons (Q_call fun w hw => c_spec_AddrCell w addr haddr) .nil) (by kernel_rfl) fun ac w β S hβ => ?_
 refine WD.stayq S hβ ?_
 clear hβ
 refine WD.one (i := 6) (by kernel_rfl) ?_
 refine id (S.k1 46 (c_spec_WithCell w (f_lookup h m g (f_addrPage addr) 2 true).1.mem q97 (S.rd o96.rn) (f_lookup h m g (f_addrPage addr) 2 true).2.1 (f_addrCell addr) v hv) fun ac w N q157 F158 S up o159 d160 => ?_)
 refine WD.next S up (by kernel_rfl) ?_
 have d161 := Disj.w d160 o96.sub
 have d162 := Disj.w d160 o99.sub
 have d163 := Disj.w d160 o102.sub
 have d164 := Disj.w d160 o105.sub
 replace o96 := o96.up up
 replace o99 := o99.up up
 replace o102 := o102.up up
 replace o105 := o105.up up
 clear up d160
 refine S.hq 7 [7] [] [(46, .v (slv (f_withCell (f_lookup h m g (f_addrPage addr) 2 true).1.mem (f_lookup h m g (f_addrPage addr) 2 true).2.1 (f_addrCell addr) v).length q157.1)), (47, .p 0 0)] .nil fun ac S => ?_
 refine WD.one (i := 8) (by kernel_rfl) ?_
 refine S.stepq (i := 8) (keep := [5, 10]) (m := 2) (σ' := ⟨[(5, .p 0 0), (10, .p 1 0)], [[slv (f_withCell (f_lookup h m g (f_addrPage addr) 2 true).1.mem (f_lookup h m g (f_addrPage addr) 2 true).2.1 (f_addrCell addr) v).length q157.1, slv (f_lookup h m g (f_addrPage addr) 2 true).1.mons.length q100.1, slv (f_lookup h m g (f_addrPage addr) 2 true).1.buf.length q103.1, slv (f_lookup h m g (f_addrPage addr) 2 true).1.iobuf.length q106.1], Zc THost]⟩) .nil (by kernel_rfl) fun ac w β S hβ => ?_
 refine WD.last (by kernel_rfl) ?_
 clear hβ
 refine WD.done (by kernel_rfl) ?_ _
 refine S.ex fun S => ?_
 refine S.gr 9 .nil [GT.val (⟨(f_withCell (f_lookup h m g (f_addrPage addr) 2 true).1.mem (f_lookup h m g (f_addrPage addr) 2 true).2.1 (f_addrCell addr) v), (f_lookup h m g (f_addrPage addr) 2 true).1.mons, (f_lookup h m g (f_addrPage addr) 2 true).1.buf, (f_lookup h m g (f_addrPage addr) 2 true).1.iobuf⟩ : THost) (⟨q157, q100, q103, q106⟩ : PHost), B true] fun ac w β S => ?_
 have o165 := ow_Host (x := (⟨(f_withCell (f_lookup h m g (f_addrPage addr) 2 true).1.mem (f_lookup h m g (f_addrPage addr) 2 true).2.1 (f_addrCell addr) v), (f_lookup h m g (f_addrPage addr) 2 true).1.mons, (f_lookup h m g (f_addrPage addr) 2 true).1.buf, (f_lookup h m g (f_addrPage addr) 2 true).1.iobuf⟩ : THost)) (p := (⟨q157, q100, q103, q106⟩ : PHost)) o159 o99 o102 o105 (Disj.symm d162) (Disj.symm d163) (Disj.symm d164) (Disj.symm d149) (Disj.symm d151) d147 
 exact ret2_of (p' := ()) S (show (f_hostDma h m g addr v).1 = (⟨(f_withCell (f_lookup h m g (f_addrPage addr) 2 true).1.mem (f_lookup h m g (f_addrPage addr) 2 true).2.1 (f_addrCell addr) v), (f_lookup h m g (f_addrPage addr) 2 true).1.mons, (f_lookup h m g (f_addrPage addr) 2 true).1.buf, (f_lookup h m g (f_addrPage addr) 2 true).1.iobuf⟩ : THost) from k0_spec_HostDma) (show (f_hostDma h m g addr v).2 = true from k0_spec_HostDma) rfl rfl o165 trivial

theorem k0_impl_AddrPage {p : Prop} (h : p := by clear S; (first | (unfold f_addrPage; rw [if_pos (by omega)]; done) | (unfold f_addrPage; rw [if_pos (by omega)]; first | rfl | (simp; done)) | (unfold f_addrPage; rw [if_neg (by omega)]; done) | (unfold f_addrPage; rw [if_neg (by omega)]; first | rfl | (simp; done)))) : p := h
theorem c_impl_AddrPage (w0 : World) (addr : Int) (haddr : In64 addr) : Calls Tryz.prog 42 [I addr].toArray w0 (fun e w' => e = .returned (I (f_addrPage addr)) ∧ Chg NoB w0 w') := by
 refine Calls.run NoB Tryz.func42 ?_
 intro ac β S
 have hloaddr := haddr.lo; have hhiaddr := haddr.hi
 refine S.gd 12 .nil (decide (addr < 0)) (fun ac w β h1 g2 S => ?_) (fun ac w β h1 g2 S => ?_)
 ·exact S.gf 7 .nil [I (-1)] (retI k0_impl_AddrPage)
 exact S.gf 11 (.cons (Q_quo (x := addr) (y := 4) (by decide) (tdiv4_in64 haddr (by omega))) .nil) [I (Int.tdiv addr 4)] (retI k0_impl_AddrPage)

theorem c_impl_copyInts (w0 : World) (l : List Int) (pl : LP Int) (hl : RD w0 l pl) : Calls Tryz.prog 130 [slv l.length pl.1].toArray w0 (Ret1 NoB w0 (l : List Int)) := by
 refine Calls.run NoB Tryz.func130 ?_
 intro ac β S
 have hlel : l.length ≤ 4194304 := LRd.le hl
 refine S.go 7 .nil fun ac w β S => S.B0 (α := Int) (d := 3) fun ac w N q1 F2 S up o3 d4 => ?_
 clear up d4
 have b9 : l.length ≤ 4194304 := LRd.le (S.arg hl)
 refine S.go 1 .nil fun ac w β S => S.AF0 (α := Int) o3 (S.arg hl) (fun _ _ h => h) (by' := 8) (d := 5) (lx := 0) (ly := l.length) rfl fun ac w N q5 F6 S up o7 d8 => ?_
 clear up d8
 refine S.gr 4 .nil [slv l.length q5.1] fun ac w β S => ?_
 exact ret1_of S (show l = l by clear S; simp) rfl o7

theorem c_impl_copyMem (w0 : World) (l : List (List Int)) (pl : LP (List Int)) (hl : RD w0 l pl) : Calls Tryz.prog 90 [slv l.length pl.1].toArray w0 (Ret1 NoB w0 (l : List (List Int))) := by
 refine Calls.run NoB Tryz.func90 ?_
 intro ac β S
 have hlel : l.length ≤ 4194304 := LRd.le hl
 refine S.go 7 .nil fun ac w β S => S.B0 (α := List Int) (d := 6) fun ac w N q1 F2 S up o3 d4 => ?_
 clear up d4
 refine S.go 12 .nil fun ac w β S => ?_
 refine lp (fun mm ac w => ∃ (k : Nat) (acc : List (List Int)) (q5 : _) (F6 : _) (u : _) (N : _) (β : _), mm = l.length - k ∧ (k ≤ l.length) ∧ (acc = l.take k) ∧ St Tryz.prog Tryz.f90.ntmps w0 NoB u N β ⟨[(3, .v (slv acc.length q5.1)), (7, .v (slv l.length pl.1)), (8, .v (I (l.length : Int))), (9, .v (I (k : Int)))], []⟩ ac w ∧ Ow w0 NoB u N F6 acc q5) _ ⟨0, ([] : List (List Int)), q1, F2, _, _, _, rfl, o0, (by simp), S.z, o3⟩ ?_
 clear S o3
 rintro f8 mm hf9 ac w ⟨k, acc, q5, F6, u, N, β, rfl, hk, hacc, S, o7⟩
 refine S.rs fun S => ?_
 have hlacc : acc.length = k := by rw [hacc]; simp; omega
 refine S.gd 6 .nil (decide ((k : Int) < (l.length : Int))) (fun ac w β h10 g11 S => ?_) (fun ac w β h10 g11 S => ?_)
 ·refine S.go 15 (.cons (qn (S.arg hl) k Tryz.underlying22) (.cons (qx (S.arg hl) 61 k) .nil)) fun ac w β S => S.K1 (r := (el l k)) (d := 15) (c_impl_copyInts w (el l k) (pl.2 k) (S.rd (LRd.el (S.arg hl) k (by omega)))) fun ac w N q12 F13 S up o14 d15 => ?_
  have d16 := Disj.w d15 o7.sub
  replace o7 := o7.up up
  clear up d15
  refine S.B1 (α := List Int) (x := (el l k)) (p := q12) o14.own o14.sub o14.young (d := 16) fun ac w N q17 F18 S up o19 d20 => ?_
  have d21 := d20 _ d16 o7.sub
  replace o7 := o7.up up
  clear up d20
  refine S.AO (α := List Int) o7 o19 d21 (by' := 24) (d := 17) (lx := acc.length) (ly := 1) rfl rfl (show _ ≤ 4194304 by simp only [List.length_append, List.length_cons, List.length_nil]; omega) fun ac w N q22 F23 S up o24 d25 => ?_
  clear up d25
  refine S.ge 8 (.cons (qp (k : Int) 1) .nil) f8 fun ac w β S => hf9.of (l.length - (k + 1)) _ _ (by omega) ⟨k + 1, (acc ++ [(el l k)]), q22, F23, _, _, _, rfl, ?_, ?_, S.z, o24⟩
  ·exact oz
  ·clear S; (first | (rw [take_el (by omega), hacc]; done) | (rw [take_el (by omega), hacc]; simp; done))
 refine S.gr 13 .nil [slv acc.length q5.1] fun ac w β S => ?_
 exact ret1_of S (show l = acc by clear S; (rw [hacc, take_all (by omega)])) rfl o7

theorem c_impl_copyTable (w0 : World) (l : List TSlot) (pl : LP TSlot) (hl : RD w0 l pl) : Calls Tryz.prog 131 [slv l.length pl.1].toArray w0 (Ret1 NoB w0 (l : List TSlot)) := by
 refine Calls.run NoB Tryz.func131 ?_
 intro ac β S
 have hlel : l.length ≤ 4194304 := LRd.le hl
 refine S.go 7 .nil fun ac w β S => S.B0 (α := TSlot) (d := 3) fun ac w N q1 F2 S up o3 d4 => ?_
 clear up d4
 have b9 : l.length ≤ 4194304 := LRd.le (S.arg hl)
 refine S.go 1 .nil fun ac w β S => S.AF0 (α := TSlot) o3 (S.arg hl) (fun _ _ h => h) (by' := 16) (d := 5) (lx := 0) (ly := l.length) rfl fun ac w N q5 F6 S up o7 d8 => ?_
 clear up d8
 refine S.gr 4 .nil [slv l.length q5.1] fun ac w β S => ?_
 exact ret1_of S (show l = l by clear S; simp) rfl o7

theorem c_impl_copyProg (w0 : World) (l : List TIns) (pl : LP TIns) (hl : RD w0 l pl) : Calls Tryz.prog 189 [slv l.length pl.1].toArray w0 (Ret1 NoB w0 (l : List TIns)) := by
 refine Calls.run NoB Tryz.func189 ?_
 intro ac β S
 have hlel : l.length ≤ 4194304 := LRd.le hl
 refine S.go 7 .nil fun ac w β S => S.B0 (α := TIns) (d := 3) fun ac w N q1 F2 S up o3 d4 => ?_
 clear up d4
 have b9 : l.length ≤ 4194304 := LRd.le (S.arg hl)
 refine S.go 1 .nil fun ac w β S => S.AF0 (α := TIns) o3 (S.arg hl) (fun _ _ h => h) (by' := 16) (d := 5) (lx := 0) (ly := l.length) rfl fun ac w N q5 F6 S up o7 d8 => ?_
 clear up d8
 refine S.gr 4 .nil [slv l.length q5.1] fun ac w β S => ?_
 exact ret1_of S (show l = l by clear S; simp) rfl o7

theorem c_impl_copyGuest (w0 : World) (g : TGuest) (pg : PGuest) (hg : RD w0 g pg) : Calls Tryz.prog 165 [GT.val g pg].toArray w0 (Ret1 NoB w0 (g : TGuest)) := by
 refine Calls.run NoB Tryz.func165 ?_
 intro ac β S
 have hleg_prog : g.prog.length ≤ 4194304 := LRd.le (RGuest.prog (d := g) hg)
 have hleg_written : g.written.length ≤ 4194304 := LRd.le (RGuest.written (d := g) hg)
 have hleg_live : g.live.length ≤ 4194304 := LRd.le (RGuest.live (d := g) hg)
 have hleg_seen : g.seen.length ≤ 4194304 := LRd.le (RGuest.seen (d := g) hg)
 refine S.go 10 .nil fun ac w β S => S.K1 (r := g.prog) (d := 5) (c_impl_copyProg w g.prog pg.prog (S.rd (RGuest.prog (d := g) (S.arg hg)))) fun ac w N q1 F2 S up o3 d4 => ?_
 clear up d4
 refine S.go 8 .nil fun ac w β S => S.K1 (r := g.written) (d := 9) (c_impl_copyTable w g.written pg.written (S.rd (RGuest.written (d := g) (S.arg hg)))) fun ac w N q5 F6 S up o7 d8 => ?_
 have d9 := Disj.w d8 o3.sub
 replace o3 := o3.up up
 clear up d8
 refine S.go 8 .nil fun ac w β S => S.K1 (r := g.live) (d := 13) (c_impl_copyTable w g.live pg.live (S.rd (RGuest.live (d := g) (S.arg hg)))) fun ac w N q10 F11 S up o12 d13 => ?_
 have d14 := Disj.w d13 o3.sub
 have d15 := Disj.w d13 o7.sub
 replace o3 := o3.up up
 replace o7 := o7.up up
 clear up d13
 refine S.go 8 .nil fun ac w β S => S.K1 (r := g.seen) (d := 17) (c_impl_copyInts w g.seen pg.seen (S.rd (RGuest.seen (d := g) (S.arg hg)))) fun ac w N q16 F17 S up o18 d19 => ?_
 have d20 := Disj.w d19 o3.sub
 have d21 := Disj.w d19 o7.sub
 have d22 := Disj.w d19 o12.sub
 replace o3 := o3.up up
 replace o7 := o7.up up
 replace o12 := o12.up up
 clear up d19
 refine S.gr 11 .nil [GT.val (⟨g.prog, g.acc, g.pc, g.written, g.live, g.ctl, g.pend, g.exit, g.halted, g.seen⟩ : TGuest) (⟨q1, q5, q10, q16⟩ : PGuest)] fun ac w β S => ?_
 have o23 := ow_Guest (x := (⟨g.prog, g.acc, g.pc, g.written, g.live, g.ctl, g.pend, g.exit, g.halted, g.seen⟩ : TGuest)) (p := (⟨q1, q5, q10, q16⟩ : PGuest)) o3 o7 o12 o18 d9 d14 d20 d15 d21 d22 (RGuest.acc (d := g) (S.arg hg)) (RGuest.pc (d := g) (S.arg hg)) (RGuest.ctl (d := g) (S.arg hg)) (RGuest.pend (d := g) (S.arg hg)) (RGuest.exit (d := g) (S.arg hg))
 exact ret1_of S (show g = (⟨g.prog, g.acc, g.pc, g.written, g.live, g.ctl, g.pend, g.exit, g.halted, g.seen⟩ : TGuest) by clear S; (first | rfl | simp)) rfl o23

theorem c_impl_copyGuests (w0 : World) (l : List TGuest) (pl : LP TGuest) (hl : RD w0 l pl) : Calls Tryz.prog 132 [slv l.length pl.1].toArray w0 (Ret1 NoB w0 (l : List TGuest)) := by
 refine Calls.run NoB Tryz.func132 ?_
 intro ac β S
 have hlel : l.length ≤ 4194304 := LRd.le hl
 refine S.go 7 .nil fun ac w β S => S.B0 (α := TGuest) (d := 6) fun ac w N q1 F2 S up o3 d4 => ?_
 clear up d4
 refine S.go 12 .nil fun ac w β S => ?_
 refine lp (fun mm ac w => ∃ (k : Nat) (acc : List TGuest) (q5 : _) (F6 : _) (u : _) (N : _) (β : _), mm = l.length - k ∧ (k ≤ l.length) ∧ (acc = l.take k) ∧ St Tryz.prog Tryz.f132.ntmps w0 NoB u N β ⟨[(3, .v (slv acc.length q5.1)), (7, .v (slv l.length pl.1)), (8, .v (I (l.length : Int))), (9, .v (I (k : Int)))], []⟩ ac w ∧ Ow w0 NoB u N F6 acc q5) _ ⟨0, ([] : List TGuest), q1, F2, _, _, _, rfl, o0, (by simp), S.z, o3⟩ ?_
 clear S o3
 rintro f8 mm hf9 ac w ⟨k, acc, q5, F6, u, N, β, rfl, hk, hacc, S, o7⟩
 refine S.rs fun S => ?_
 have hlacc : acc.length = k := by rw [hacc]; simp; omega
 refine S.gd 6 .nil (decide ((k : Int) < (l.length : Int))) (fun ac w β h10 g11 S => ?_) (fun ac w β h10 g11 S => ?_)
 ·refine S.go 16 (.cons (qn (S.arg hl) k Tryz.underlying70) (.cons (qs (S.arg hl) 84 k) .nil)) fun ac w β S => S.K1 (r := (el l k)) (d := 15) (c_impl_copyGuest w (el l k) (pl.2 k) (S.rd (LRd.el (S.arg hl) k (by omega)))) fun ac w N q12 F13 S up o14 d15 => ?_
  have d16 := Disj.w d15 o7.sub
  replace o7 := o7.up up
  clear up d15
  have i20 : In64 (el l k).acc := RGuest.acc (d := (el l k)) o14.rn
  have i21 : In64 (el l k).pc := RGuest.pc (d := (el l k)) o14.rn
  have i28 : RCtl (el l k).ctl := RGuest.ctl (d := (el l k)) o14.rn
  have i29 : In64 (el l k).pend := RGuest.pend (d := (el l k)) o14.rn
  have i30 : RExit (el l k).exit := RGuest.exit (d := (el l k)) o14.rn
  obtain ⟨F17, F22, F25, F31, o18, o23, o26, o32, s19, s24, s27, s33, d34, d35, d36, d37, d38, d39⟩ := sp_Guest o14
  have o44 := ow_Guest (x := (el l k)) (p := q12) o18 o23 o26 o32 d34 d35 d36 d37 d38 d39 i20 i21 i28 i29 i30
  refine S.B1 (α := TGuest) (x := (el l k)) (p := q12) o44.own o44.sub o44.young (d := 16) fun ac w N q40 F41 S up o42 d43 => ?_
  have d45 := d43 _ (Disj.symm (Disj.or (Disj.part (Disj.symm d16) s19) (Disj.or (Disj.part (Disj.symm d16) s24) (Disj.or (Disj.part (Disj.symm d16) s27) (Disj.or (Disj.part (Disj.symm d16) s33) Disj.nob))))) o7.sub
  replace o7 := o7.up up
  clear up d43
  refine S.AO (α := TGuest) o7 o42 d45 (by' := 184) (d := 17) (lx := acc.length) (ly := 1) rfl rfl (show _ ≤ 4194304 by simp only [List.length_append, List.length_cons, List.length_nil]; omega) fun ac w N q46 F47 S up o48 d49 => ?_
  clear up d49
  refine S.ge 8 (.cons (qp (k : Int) 1) .nil) f8 fun ac w β S => hf9.of (l.length - (k + 1)) _ _ (by omega) ⟨k + 1, (acc ++ [(el l k)]), q46, F47, _, _, _, rfl, ?_, ?_, S.z, o48⟩
  ·exact oz
  ·clear S; (first | (rw [take_el (by omega), hacc]; done) | (rw [take_el (by omega), hacc]; simp; done))
 refine S.gr 13 .nil [slv acc.length q5.1] fun ac w β S => ?_
 exact ret1_of S (show l = acc by clear S; (rw [hacc, take_all (by omega)])) rfl o7

theorem c_impl_copyKept (w0 : World) (k : TKept) (pk : PKept) (hk : RD w0 k pk) : Calls Tryz.prog 121 [GT.val k pk].toArray w0 (Ret1 NoB w0 (k : TKept)) := by
 refine Calls.run NoB Tryz.func121 ?_
 intro ac β S
 have hlek_known : k.known.length ≤ 4194304 := LRd.le (RKept.known (d := k) hk)
 have hlek_slots : k.slots.length ≤ 4194304 := LRd.le (RKept.slots (d := k) hk)
 refine S.go 7 .nil fun ac w β S => ?_
 refine drw ?_
 refine S.draw0 (f := 9) 8 (by kernel_rfl) (by kernel_rfl) fun w S => ?_
 refine S.hq 1 [1] [] [(4, .p 0 0)] .nil fun ac S => ?_
 refine S.hq 2 [2] [] [(5, .v (slv k.known.length pk.known.1))] .nil fun ac S => ?_
 refine S.hq 4 [4] [] [(7, .p 0 1)] .nil fun ac S => ?_
 refine S.hq 5 [5] [] [(8, .v (slv k.slots.length pk.slots.1))] .nil fun ac S => ?_
 refine WD.one (i := 0) (by kernel_rfl) ?_
 refine id (S.bs0 (α := Bool) (d := 3) (by kernel_rfl) fun ac w N q1 F2 S up o3 d4 => ?_)
 have hb5 := fun b h => (⟨(up b h).1, (up b h).2, d4 b h⟩ : _ ∧ _ ∧ _)
 refine WD.keep S up (by kernel_rfl) ?_
 clear up d4
 refine WD.one (i := 3) (by kernel_rfl) ?_
 have b10 : k.known.length ≤ 4194304 := LRd.le (RKept.known (d := k) (S.arg hk))
 refine id (S.appFlat0 (α := Bool) o3 (RKept.known (d := k) (S.arg hk)) (fun _ _ h => h) (by' := 1) (d := 6) (lx := 0) (ly := k.known.length) rfl fun ac w N q6 F7 S up o8 d9 => ?_)
 have hb11 := fun b h => (⟨(up b (hb5 b h).1 (hb5 b h).2.2).1, (up b (hb5 b h).1 (hb5 b h).2.2).2.trans (hb5 b h).2.1⟩ : _ ∧ _)
 refine WD.next S hb11 (by kernel_rfl) ?_
 clear up d9
 refine WD.one (i := 6) (by kernel_rfl) ?_
 refine id (S.k1 9 (c_impl_copyTable w k.slots pk.slots (S.rd (RKept.slots (d := k) (S.arg hk)))) fun ac w N q12 F13 S up o14 d15 => ?_)
 refine WD.next S up (by kernel_rfl) ?_
 have d16 := Disj.w d15 o8.sub
 replace o8 := o8.up up
 clear up d15
 refine S.hq 7 [7] [] [(10, .v (GT.val (⟨k.known, k.slots⟩ : TKept) (⟨q6, q12⟩ : PKept)))] (.cons (Q_sem (s := Instr.build 96 [(0, slv k.known.length q6.1), (1, slv k.slots.length q12.1)].toArray) (v := .agg [slv k.known.length q6.1, slv k.slots.length q12.1].toArray) (fun w => by kernel_rfl)) .nil) fun ac S => ?_
 refine WD.one (i := 8) (by kernel_rfl) ?_
 refine S.stepq (i := 8) (keep := [2]) (m := 2) (σ' := ⟨[(2, .p 1 0)], [GT.cells k pk, [slv k.known.length q6.1, slv k.slots.length q12.1]]⟩) .nil (by kernel_rfl) fun ac w β S hβ => ?_
 refine WD.last (by kernel_rfl) ?_
 clear hβ
 refine WD.done (by kernel_rfl) ?_ _
 refine S.ex fun S => ?_
 refine S.gr 2 .nil [GT.val (⟨k.known, k.slots⟩ : TKept) (⟨q6, q12⟩ : PKept)] fun ac w β S => ?_
 have o17 := ow_Kept (x := (⟨k.known, k.slots⟩ : TKept)) (p := (⟨q6, q12⟩ : PKept)) o8 o14 d16 
 exact ret1_of S (show k = (⟨k.known, k.slots⟩ : TKept) by clear S; (first | rfl | simp)) rfl o17

theorem c_impl_copyMon (w0 : World) (m : TMon) (pm : PMon) (hm : RD w0 m pm) : Calls Tryz.prog 91 [GT.val m pm].toArray w0 (Ret1 NoB w0 (m : TMon)) := by
 refine Calls.run NoB Tryz.func91 ?_
 intro ac β S
 have hlem_outer : m.outer.length ≤ 4194304 := LRd.le (RMon.outer (d := m) hm)
 have hlem_out : m.out.length ≤ 4194304 := LRd.le (RMon.out (d := m) hm)
 have hlem_dirty : m.dirty.length ≤ 4194304 := LRd.le (RMon.dirty (d := m) hm)
 have hlem_guests : m.guests.length ≤ 4194304 := LRd.le (RMon.guests (d := m) hm)
 have hlem_outs : m.outs.length ≤ 4194304 := LRd.le (RMon.outs (d := m) hm)
 have hlem_tables : m.tables.length ≤ 4194304 := LRd.le (RMon.tables (d := m) hm)
 refine S.go 10 .nil fun ac w β S => S.K1 (r := m.outer) (d := 8) (c_impl_copyTable w m.outer pm.outer (S.rd (RMon.outer (d := m) (S.arg hm)))) fun ac w N q1 F2 S up o3 d4 => ?_
 clear up d4
 refine S.go 8 .nil fun ac w β S => S.K1 (r := m.out) (d := 12) (c_impl_copyMem w m.out pm.out (S.rd (RMon.out (d := m) (S.arg hm)))) fun ac w N q5 F6 S up o7 d8 => ?_
 have d9 := Disj.w d8 o3.sub
 replace o3 := o3.up up
 clear up d8
 refine S.go 6 .nil fun ac w β S => S.B0 (α := Bool) (d := 14) fun ac w N q10 F11 S up o12 d13 => ?_
 have d14 := Disj.w d13 o3.sub
 have d15 := Disj.w d13 o7.sub
 replace o3 := o3.up up
 replace o7 := o7.up up
 clear up d13
 have b20 : m.dirty.length ≤ 4194304 := LRd.le (RMon.dirty (d := m) (S.arg hm))
 refine S.go 2 .nil fun ac w β S => S.AF0 (α := Bool) o12 (RMon.dirty (d := m) (S.arg hm)) (fun _ _ h => h) (by' := 1) (d := 17) (lx := 0) (ly := m.dirty.length) rfl fun ac w N q16 F17 S up o18 d19 => ?_
 have d21 := d19 _ d14 o3.sub
 have d22 := d19 _ d15 o7.sub
 replace o3 := o3.upF d14 up
 replace o7 := o7.upF d15 up
 clear up d19
 refine S.go 8 .nil fun ac w β S => S.K1 (r := m.guests) (d := 21) (c_impl_copyGuests w m.guests pm.guests (S.rd (RMon.guests (d := m) (S.arg hm)))) fun ac w N q23 F24 S up o25 d26 => ?_
 have d27 := Disj.w d26 o3.sub
 have d28 := Disj.w d26 o7.sub
 have d29 := Disj.w d26 o18.sub
 replace o3 := o3.up up
 replace o7 := o7.up up
 replace o18 := o18.up up
 clear up d26
 refine S.go 8 .nil fun ac w β S => S.K1 (r := m.outs) (d := 25) (c_impl_copyInts w m.outs pm.outs (S.rd (RMon.outs (d := m) (S.arg hm)))) fun ac w N q30 F31 S up o32 d33 => ?_
 have d34 := Disj.w d33 o3.sub
 have d35 := Disj.w d33 o7.sub
 have d36 := Disj.w d33 o18.sub
 have d37 := Disj.w d33 o25.sub
 replace o3 := o3.up up
 replace o7 := o7.up up
 replace o18 := o18.up up
 replace o25 := o25.up up
 clear up d33
 refine S.go 6 .nil fun ac w β S => S.B0 (α := TKept) (d := 27) fun ac w N q38 F39 S up o40 d41 => ?_
 have d42 := Disj.w d41 o3.sub
 have d43 := Disj.w d41 o7.sub
 have d44 := Disj.w d41 o18.sub
 have d45 := Disj.w d41 o25.sub
 have d46 := Disj.w d41 o32.sub
 replace o3 := o3.up up
 replace o7 := o7.up up
 replace o18 := o18.up up
 replace o25 := o25.up up
 replace o32 := o32.up up
 clear up d41
 refine S.go 13 .nil fun ac w β S => ?_
 refine lp (fun mm ac w => ∃ (k : Nat) (acc : List TKept) (q47 : _) (F48 : _) (u : _) (N : _) (β : _), mm = m.tables.length - k ∧ (k ≤ m.tables.length) ∧ (acc = m.tables.take k) ∧ St Tryz.prog Tryz.f91.ntmps w0 NoB u N β ⟨[(1, .p 0 0), (2, .p 1 0), (3, .v (slv acc.length q47.1)), (29, .v (slv m.tables.length pm.tables.1)), (30, .v (I (m.tables.length : Int))), (31, .v (I (k : Int)))], [[slv m.outer.length q1.1, slv m.out.length q5.1, slv m.dirty.length q16.1, slv m.guests.length q23.1, slv m.outs.length q30.1, I m.pend, I m.traps, slv m.tables.length pm.tables.1, I m.owned], Zc TMon]⟩ ac w ∧ Ow w0 NoB u N F48 acc q47 ∧ Ow w0 NoB u N F2 m.outer q1 ∧ Ow w0 NoB u N F6 m.out q5 ∧ Ow w0 NoB u N F17 m.dirty q16 ∧ Ow w0 NoB u N F24 m.guests q23 ∧ Ow w0 NoB u N F31 m.outs q30 ∧ Disj F48 F2 ∧ Disj F48 F6 ∧ Disj F48 F17 ∧ Disj F48 F24 ∧ Disj F48 F31) _ ⟨0, ([] : List TKept), q38, F39, _, _, _, rfl, o0, (by simp), S.z, o40, o3, o7, o18, o25, o32, (Disj.symm d42), (Disj.symm d43), (Disj.symm d44), (Disj.symm d45), (Disj.symm d46)⟩ ?_
 clear S o18 o25 o3 o32 o40 o7
 rintro f55 mm hf56 ac w ⟨k, acc, q47, F48, u, N, β, rfl, hk, hacc, S, o49, o3, o7, o18, o25, o32, d50, d51, d52, d53, d54⟩
 refine S.rs fun S => ?_
 have hlacc : acc.length = k := by rw [hacc]; simp; omega
 refine S.gd 6 .nil (decide ((k : Int) < (m.tables.length : Int))) (fun ac w β h57 g58 S => ?_) (fun ac w β h57 g58 S => ?_)
 ·refine S.go 16 (.cons (qn (RMon.tables (d := m) (S.arg hm)) k Tryz.underlying71) (.cons (qs (RMon.tables (d := m) (S.arg hm)) 96 k) .nil)) fun ac w β S => S.K1 (r := (el m.tables k)) (d := 37) (c_impl_copyKept w (el m.tables k) (pm.tables.2 k) (S.rd (LRd.el (RMon.tables (d := m) (S.arg hm)) k (by omega)))) fun ac w N q59 F60 S up o61 d62 => ?_
  have d63 := Disj.w d62 o49.sub
  have d64 := Disj.w d62 o3.sub
  have d65 := Disj.w d62 o7.sub
  have d66 := Disj.w d62 o18.sub
  have d67 := Disj.w d62 o25.sub
  have d68 := Disj.w d62 o32.sub
  replace o49 := o49.up up
  replace o3 := o3.up up
  replace o7 := o7.up up
  replace o18 := o18.up up
  replace o25 := o25.up up
  replace o32 := o32.up up
  clear up d62
  obtain ⟨F69, F72, o70, o73, s71, s74, d75⟩ := sp_Kept o61
  have o80 := ow_Kept (x := (el m.tables k)) (p := q59) o70 o73 d75 
  refine S.B1 (α := TKept) (x := (el m.tables k)) (p := q59) o80.own o80.sub o80.young (d := 38) fun ac w N q76 F77 S up o78 d79 => ?_
  have d81 := d79 _ (Disj.symm (Disj.or (Disj.part (Disj.symm d63) s71) (Disj.or (Disj.part (Disj.symm d63) s74) Disj.nob))) o49.sub
  have d82 := d79 _ (Disj.symm (Disj.or (Disj.part (Disj.symm d64) s71) (Disj.or (Disj.part (Disj.symm d64) s74) Disj.nob))) o3.sub
  have d83 := d79 _ (Disj.symm (Disj.or (Disj.part (Disj.symm d65) s71) (Disj.or (Disj.part (Disj.symm d65) s74) Disj.nob))) o7.sub
  have d84 := d79 _ (Disj.symm (Disj.or (Disj.part (Disj.symm d66) s71) (Disj.or (Disj.part (Disj.symm d66) s74) Disj.nob))) o18.sub
  have d85 := d79 _ (Disj.symm (Disj.or (Disj.part (Disj.symm d67) s71) (Disj.or (Disj.part (Disj.symm d67) s74) Disj.nob))) o25.sub
  have d86 := d79 _ (Disj.symm (Disj.or (Disj.part (Disj.symm d68) s71) (Disj.or (Disj.part (Disj.symm d68) s74) Disj.nob))) o32.sub
  replace o49 := o49.up up
  replace o3 := o3.up up
  replace o7 := o7.up up
  replace o18 := o18.up up
  replace o25 := o25.up up
  replace o32 := o32.up up
  clear up d79
  refine S.AO (α := TKept) o49 o78 d81 (by' := 48) (d := 39) (lx := acc.length) (ly := 1) rfl rfl (show _ ≤ 4194304 by simp only [List.length_append, List.length_cons, List.length_nil]; omega) fun ac w N q87 F88 S up o89 d90 => ?_
  have d91 := d90 _ (Disj.symm d50) d82 o3.sub
  have d92 := d90 _ (Disj.symm d51) d83 o7.sub
  have d93 := d90 _ (Disj.symm d52) d84 o18.sub
  have d94 := d90 _ (Disj.symm d53) d85 o25.sub
  have d95 := d90 _ (Disj.symm d54) d86 o32.sub
  replace o3 := o3.upF (Disj.symm d50) up
  replace o7 := o7.upF (Disj.symm d51) up
  replace o18 := o18.upF (Disj.symm d52) up
  replace o25 := o25.upF (Disj.symm d53) up
  replace o32 := o32.upF (Disj.symm d54) up
  clear up d90
  refine S.ge 8 (.cons (qp (k : Int) 1) .nil) f55 fun ac w β S => hf56.of (m.tables.length - (k + 1)) _ _ (by omega) ⟨k + 1, (acc ++ [(el m.tables k)]), q87, F88, _, _, _, rfl, ?_, ?_, S.z, o89, o3, o7, o18, o25, o32, (Disj.symm d91), (Disj.symm d92), (Disj.symm d93), (Disj.symm d94), (Disj.symm d95)⟩
  ·exact oz
  ·clear S; (first | (rw [take_el (by omega), hacc]; done) | (rw [take_el (by omega), hacc]; simp; done))
 refine S.gr 20 .nil [GT.val (⟨m.outer, m.out, m.dirty, m.guests, m.outs, m.pend, m.traps, acc, m.owned⟩ : TMon) (⟨q1, q5, q16, q23, q30, q47⟩ : PMon)] fun ac w β S => ?_
 have o96 := ow_Mon (x := (⟨m.outer, m.out, m.dirty, m.guests, m.outs, m.pend, m.traps, acc, m.owned⟩ : TMon)) (p := (⟨q1, q5, q16, q23, q30, q47⟩ : PMon)) o3 o7 o18 o25 o32 o49 d9 d21 d27 d34 (Disj.symm d50) d22 d28 d35 (Disj.symm d51) d29 d36 (Disj.symm d52) d37 (Disj.symm d53) (Disj.symm d54) (RMon.pend (d := m) (S.arg hm)) (RMon.traps (d := m) (S.arg hm)) (RMon.owned (d := m) (S.arg hm))
 exact ret1_of S (show m = (⟨m.outer, m.out, m.dirty, m.guests, m.outs, m.pend, m.traps, acc, m.owned⟩ : TMon) by clear S; (first | rfl | (rw [hacc, take_all (by omega)]; done) | (rw [hacc, take_all (by omega)]; simp; done) | simp)) rfl o96

theorem c_impl_copyHost (w0 : World) (h : THost) (ph : PHost) (hh : RD w0 h ph) : Calls Tryz.prog 44 [GT.val h ph].toArray w0 (Ret1 NoB w0 (h : THost)) := by
 refine Calls.run NoB Tryz.func44 ?_
 intro ac β S
 have hleh_mem : h.mem.length ≤ 4194304 := LRd.le (RHost.mem (d := h) hh)
 have hleh_mons : h.mons.length ≤ 4194304 := LRd.le (RHost.mons (d := h) hh)
 have hleh_buf : h.buf.length ≤ 4194304 := LRd.le (RHost.buf (d := h) hh)
 have hleh_iobuf : h.iobuf.length ≤ 4194304 := LRd.le (RHost.iobuf (d := h) hh)
 refine S.go 7 .nil fun ac w β S => ?_
 refine drw ?_
 let σ1 : Sy := ⟨[(1, .p 0 0), (2, .p 1 0)], [GT.cells h ph, Zc THost]⟩
 obtain ⟨u0, N0, β0, S⟩ : ∃ u0 N0 β0, St Tryz.prog Tryz.f44.ntmps w0 NoB u0 N0 β0 σ1 ac w := ⟨_, _, _, S.z⟩
 refine wp_region_cut (fun ac w => ∃ q234 F235 q237 F238 q231 F232 u N β, St Tryz.prog Tryz.f44.ntmps w0 NoB u N β (σ1.dl [] [(3, .p 2 0)] 3 [(2, [slv h.mem.length q231.1, slv ([] : List TMon).length (GT.pdflt (α := List TMon)).1, slv h.buf.length q234.1, slv h.iobuf.length q237.1])]) ac w ∧ Ow w0 NoB u N F235 h.buf q234 ∧ Ow w0 NoB u N F238 h.iobuf q237 ∧ Ow w0 NoB u N F232 h.mem q231 ∧ Disj F235 F238 ∧ Disj F235 F232 ∧ Disj F238 F232) ?_ ?_
 ·refine S.draw0 (f := 14) 13 (by kernel_rfl) (by kernel_rfl) fun w S => ?_
  refine S.hq 0 [0] [] [(6, .p 0 0)] .nil fun ac S => ?_
  refine S.hq 1 [1] [] [(7, .v (slv h.mem.length ph.mem.1))] .nil fun ac S => ?_
  refine S.hq 4 [4] [] [(10, .p 0 2)] .nil fun ac S => ?_
  refine S.hq 5 [5] [] [(11, .v (slv h.buf.length ph.buf.1))] .nil fun ac S => ?_
  refine S.hq 8 [8] [] [(14, .p 0 3)] .nil fun ac S => ?_
  refine S.hq 9 [9] [] [(15, .v (slv h.iobuf.length ph.iobuf.1))] .nil fun ac S => ?_
  refine WD.nameW fun W hW => ?_
  refine WD.castW (l' := mkL 14 [0, 1, 4, 5, 8, 9]) (by kernel_rfl) ?_
  have hK239 ac w q234 F235 q237 F238 q231 F232 u N β (S : St Tryz.prog Tryz.f44.ntmps w0 NoB u N β (σ1.dl [] [(3, .p 2 0)] 3 [(2, [slv h.mem.length q231.1, slv ([] : List TMon).length (GT.pdflt (α := List TMon)).1, slv h.buf.length q234.1, slv h.iobuf.length q237.1])]) ac w) (o233 : Ow w0 NoB u N F235 h.buf q234) (o236 : Ow w0 NoB u N F238 h.iobuf q237) (o230 : Ow w0 NoB u N F232 h.mem q231) (d240 : Disj F235 F238) (d241 : Disj F235 F232) (d242 : Disj F238 F232) : W 0 (mkL 14 [0, 1, 2, 3, 4, 5, 6, 7, 8, 9, 10, 11, 12, 13]) ac w := by
   exact od hW ⟨rfl, q234, F235, q237, F238, q231, F232, _, _, _, S.z, o233, o236, o230, d240, d241, d242⟩
  have hK243 ac w q217 F218 q220 F221 q214 F215 u N β (S : St Tryz.prog Tryz.f44.ntmps w0 NoB u N β (σ1.dl [] [(3, .p 2 0), (17, .v (GT.val (⟨h.mem, ([] : List TMon), h.buf, h.iobuf⟩ : THost) (⟨q214, (GT.pdflt (α := List TMon)), q217, q220⟩ : PHost)))] 3 [(2, Zc THost)]) ac w) (o216 : Ow w0 NoB u N F218 h.buf q217) (o219 : Ow w0 NoB u N F221 h.iobuf q220) (o213 : Ow w0 NoB u N F215 h.mem q214) (d244 : Disj F218 F221) (d245 : Disj F218 F215) (d246 : Disj F221 F215) (hNN : NN N0 u0 N u) (hBB : BB σ1.bx.length β0 β) : W 1 (mkL 14 [0, 1, 2, 3, 4, 5, 6, 7, 8, 9, 10, 11, 12]) ac w := by
   exact ox1 hW 13 (S.wl hW [] .nil fun _ _ _ S => hK239 _ _ q217 F218 q220 F221 q214 F215 _ _ _ S o216 o219 o213 d244 d245 d246)
  have hK247 ac w q217 F218 q220 F221 q214 F215 u N β (S : St Tryz.prog Tryz.f44.ntmps w0 NoB u N β (σ1.dl [] [(17, .v (GT.val (⟨h.mem, ([] : List TMon), h.buf, h.iobuf⟩ : THost) (⟨q214, (GT.pdflt (α := List TMon)), q217, q220⟩ : PHost)))] 2 []) ac w) (o216 : Ow w0 NoB u N F218 h.buf q217) (o219 : Ow w0 NoB u N F221 h.iobuf q220) (o213 : Ow w0 NoB u N F215 h.mem q214) (d248 : Disj F218 F221) (d249 : Disj F218 F215) (d250 : Disj F221 F215) (hNN : NN N0 u0 N u) (hBB : BB σ1.bx.length β0 β) : W 2 (mkL 14 [0, 1, 2, 3, 4, 5, 6, 7, 8, 9, 10, 11]) ac w := by
   exact ox1 hW 12 (S.wq hW hNN hBB [] .nil fun _ _ _ S hB => hK243 _ _ q217 F218 q220 F221 q214 F215 _ _ _ S o216 o219 o213 d248 d249 d250 hNN hB)
  have hK251 ac w q85 F86 q196 F197 q8 F9 u N β (S : St Tryz.prog Tryz.f44.ntmps w0 NoB u N β (σ1.dl [] [(3, .p 2 0), (8, .v (slv h.mem.length q8.1)), (12, .v (slv h.buf.length q85.1)), (16, .v (slv h.iobuf.length q196.1))] 3 [(2, Zc THost)]) ac w) (o84 : Ow w0 NoB u N F86 h.buf q85) (o195 : Ow w0 NoB u N F197 h.iobuf q196) (o7 : Ow w0 NoB u N F9 h.mem q8) (d252 : Disj F86 F197) (d253 : Disj F86 F9) (d254 : Disj F197 F9) (hNN : NN N0 u0 N u) (hBB : BB σ1.bx.length β0 β) : W 2 (mkL 14 [0, 1, 2, 3, 4, 5, 6, 7, 8, 9, 10, 12]) ac w := by
   exact ox1 hW 11 (S.wq hW hNN hBB [] (.cons (Q_sem (s := Instr.build 31 [(0, slv h.mem.length q8.1), (2, slv h.buf.length q85.1), (3, slv h.iobuf.length q196.1)].toArray) (v := .agg [slv h.mem.length q8.1, slv ([] : List TMon).length (GT.pdflt (α := List TMon)).1, slv h.buf.length q85.1, slv h.iobuf.length q196.1].toArray) (fun w => by kernel_rfl)) .nil) fun _ _ _ S hB => hK243 _ _ q85 F86 q196 F197 q8 F9 _ _ _ S o84 o195 o7 d252 d253 d254 hNN hB)
  have hK255 ac w q85 F86 q196 F197 q8 F9 u N β (S : St Tryz.prog Tryz.f44.ntmps w0 NoB u N β (σ1.dl [] [(8, .v (slv h.mem.length q8.1)), (12, .v (slv h.buf.length q85.1)), (16, .v (slv h.iobuf.length q196.1))] 2 []) ac w) (o84 : Ow w0 NoB u N F86 h.buf q85) (o195 : Ow w0 NoB u N F197 h.iobuf q196) (o7 : Ow w0 NoB u N F9 h.mem q8) (d256 : Disj F86 F197) (d257 : Disj F86 F9) (d258 : Disj F197 F9) (hNN : NN N0 u0 N u) (hBB : BB σ1.bx.length β0 β) : W 3 (mkL 14 [0, 1, 2, 3, 4, 5, 6, 7, 8, 9, 10]) ac w := by
   exact ox2 hW 11 12 (S.wq hW hNN hBB [] (.cons (Q_sem (s := Instr.build 31 [(0, slv h.mem.length q8.1), (2, slv h.buf.length q85.1), (3, slv h.iobuf.length q196.1)].toArray) (v := .agg [slv h.mem.length q8.1, slv ([] : List TMon).length (GT.pdflt (α := List TMon)).1, slv h.buf.length q85.1, slv h.iobuf.length q196.1].toArray) (fun w => by kernel_rfl)) .nil) fun _ _ _ S hB => hK247 _ _ q85 F86 q196 F197 q8 F9 _ _ _ S o84 o195 o7 d256 d257 d258 hNN hB) (S.wq hW hNN hBB [] .nil fun _ _ _ S hB => hK251 _ _ q85 F86 q196 F197 q8 F9 _ _ _ S o84 o195 o7 d256 d257 d258 hNN hB)
  have hK259 ac w q85 F86 q24 F25 q8 F9 u N β (S : St Tryz.prog Tryz.f44.ntmps w0 NoB u N β (σ1.dl [] [(3, .p 2 0), (8, .v (slv h.mem.length q8.1)), (12, .v (slv h.buf.length q85.1)), (13, .v (slv 0 q24.1)), (15, .v (slv h.iobuf.length ph.iobuf.1))] 3 [(2, Zc THost)]) ac w) (o84 : Ow w0 NoB u N F86 h.buf q85) (o23 : Ow w0 NoB u N F25 ([] : List TEntry) q24) (o7 : Ow w0 NoB u N F9 h.mem q8) (d260 : Disj F86 F25) (d261 : Disj F86 F9) (d262 : Disj F25 F9) (hNN : ∀ b, N0 b → N b ∧ u.heap[b]? = u0.heap[b]? ∧ ¬ F25 b) (hBB : BB σ1.bx.length β0 β) : W 3 (mkL 14 [0, 1, 2, 3, 4, 5, 6, 7, 8, 9, 12]) ac w := by
   refine ox1 hW 10 ?_
   have b267 : h.iobuf.length ≤ 4194304 := LRd.le (RHost.iobuf (d := h) (S.arg hh))
   refine id (S.appFlat0 (α := TEntry) o23 (RHost.iobuf (d := h) (S.arg hh)) (fun _ _ h => h) (by' := 32) (d := 16) (lx := 0) (ly := h.iobuf.length) rfl fun ac w N q263 F264 S up o265 d266 => ?_)
   have hb268 := fun b h => (⟨(up b (hNN b h).1 (hNN b h).2.2).1, (up b (hNN b h).1 (hNN b h).2.2).2.trans (hNN b h).2.1⟩ : _ ∧ _)
   refine WD.sc S hb268 hBB fun hC => ?_
   have d269 := d266 _ (Disj.symm d262) o7.sub
   have d270 := d266 _ d260 o84.sub
   replace o7 := o7.upF (Disj.symm d262) up
   replace o84 := o84.upF d260 up
   clear up d266
   exact S.wh hW [] hC fun _ S => hK251 _ _ q85 F86 q263 F264 q8 F9 _ _ _ S o84 o265 o7 d270 d261 (Disj.symm d269) hb268 hBB
  have hK271 ac w q85 F86 q24 F25 q8 F9 u N β (S : St Tryz.prog Tryz.f44.ntmps w0 NoB u N β (σ1.dl [] [(8, .v (slv h.mem.length q8.1)), (12, .v (slv h.buf.length q85.1)), (13, .v (slv 0 q24.1)), (15, .v (slv h.iobuf.length ph.iobuf.1))] 2 []) ac w) (o84 : Ow w0 NoB u N F86 h.buf q85) (o23 : Ow w0 NoB u N F25 ([] : List TEntry) q24) (o7 : Ow w0 NoB u N F9 h.mem q8) (d272 : Disj F86 F25) (d273 : Disj F86 F9) (d274 : Disj F25 F9) (hNN : ∀ b, N0 b → N b ∧ u.heap[b]? = u0.heap[b]? ∧ ¬ F25 b) (hBB : BB σ1.bx.length β0 β) : W 4 (mkL 14 [0, 1, 2, 3, 4, 5, 6, 7, 8, 9]) ac w := by
   refine ox2 hW 10 12 ?_ (S.wq hW (fun b h => ⟨(hNN b h).1, (hNN b h).2.1⟩) hBB [] .nil fun _ _ _ S hB => hK259 _ _ q85 F86 q24 F25 q8 F9 _ _ _ S o84 o23 o7 d272 d273 d274 hNN hB)
   have b279 : h.iobuf.length ≤ 4194304 := LRd.le (RHost.iobuf (d := h) (S.arg hh))
   refine id (S.appFlat0 (α := TEntry) o23 (RHost.iobuf (d := h) (S.arg hh)) (fun _ _ h => h) (by' := 32) (d := 16) (lx := 0) (ly := h.iobuf.length) rfl fun ac w N q275 F276 S up o277 d278 => ?_)
   have hb280 := fun b h => (⟨(up b (hNN b h).1 (hNN b h).2.2).1, (up b (hNN b h).1 (hNN b h).2.2).2.trans (hNN b h).2.1⟩ : _ ∧ _)
   refine WD.sc S hb280 hBB fun hC => ?_
   have d281 := d278 _ (Disj.symm d274) o7.sub
   have d282 := d278 _ d272 o84.sub
   replace o7 := o7.upF (Disj.symm d274) up
   replace o84 := o84.upF d272 up
   clear up d278
   exact S.wh hW [] hC fun _ S => hK255 _ _ q85 F86 q275 F276 q8 F9 _ _ _ S o84 o277 o7 d282 d273 (Disj.symm d281) hb280 hBB
  have hK283 ac w q85 F86 q8 F9 u N β (S : St Tryz.prog Tryz.f44.ntmps w0 NoB u N β (σ1.dl [] [(3, .p 2 0), (8, .v (slv h.mem.length q8.1)), (12, .v (slv h.buf.length q85.1)), (15, .v (slv h.iobuf.length ph.iobuf.1))] 3 [(2, Zc THost)]) ac w) (o84 : Ow w0 NoB u N F86 h.buf q85) (o7 : Ow w0 NoB u N F9 h.mem q8) (d284 : Disj F86 F9) (hNN : NN N0 u0 N u) (hBB : BB σ1.bx.length β0 β) : W 4 (mkL 14 [0, 1, 2, 3, 4, 5, 6, 8, 9, 12]) ac w := by
   refine ox1 hW 7 ?_
   refine id (S.bs0 (α := TEntry) (d := 13) (by kernel_rfl) fun ac w N q285 F286 S up o287 d288 => ?_)
   have hb289 := fun b h => (⟨(up b (hNN b h).1).1, (up b (hNN b h).1).2.trans (hNN b h).2, d288 b (hNN b h).1⟩ : _ ∧ _ ∧ _)
   refine WD.sc S (fun b h => ⟨(hb289 b h).1, (hb289 b h).2.1⟩) hBB fun hC => ?_
   have d290 := Disj.w d288 o7.sub
   have d291 := Disj.w d288 o84.sub
   replace o7 := o7.up up
   replace o84 := o84.up up
   clear up d288
   exact S.wh hW [] hC fun _ S => hK259 _ _ q85 F86 q285 F286 q8 F9 _ _ _ S o84 o287 o7 d291 d284 (Disj.symm d290) hb289 hBB
  have hK292 ac w q24 F25 q8 F9 q16 F17 u N β (S : St Tryz.prog Tryz.f44.ntmps w0 NoB u N β (σ1.dl [] [(3, .p 2 0), (8, .v (slv h.mem.length q8.1)), (9, .v (slv 0 q16.1)), (11, .v (slv h.buf.length ph.buf.1)), (13, .v (slv 0 q24.1)), (15, .v (slv h.iobuf.length ph.iobuf.1))] 3 [(2, Zc THost)]) ac w) (o23 : Ow w0 NoB u N F25 ([] : List TEntry) q24) (o7 : Ow w0 NoB u N F9 h.mem q8) (o15 : Ow w0 NoB u N F17 ([] : List TEntry) q16) (d293 : Disj F25 F9) (d294 : Disj F25 F17) (d295 : Disj F9 F17) (hNN : ∀ b, N0 b → N b ∧ u.heap[b]? = u0.heap[b]? ∧ ¬ F17 b ∧ ¬ F25 b) (hBB : BB σ1.bx.length β0 β) : W 4 (mkL 14 [0, 1, 2, 3, 4, 5, 7, 8, 9, 12]) ac w := by
   refine ox1 hW 6 ?_
   have b300 : h.buf.length ≤ 4194304 := LRd.le (RHost.buf (d := h) (S.arg hh))
   refine id (S.appFlat0 (α := TEntry) o15 (RHost.buf (d := h) (S.arg hh)) (fun _ _ h => h) (by' := 32) (d := 12) (lx := 0) (ly := h.buf.length) rfl fun ac w N q296 F297 S up o298 d299 => ?_)
   have hb301 := fun b h => (⟨(up b (hNN b h).1 (hNN b h).2.2.1).1, (up b (hNN b h).1 (hNN b h).2.2.1).2.trans (hNN b h).2.1, (hNN b h).2.2.2⟩ : _ ∧ _ ∧ _)
   refine WD.sc S (fun b h => ⟨(hb301 b h).1, (hb301 b h).2.1⟩) hBB fun hC => ?_
   have d302 := d299 _ d295 o7.sub
   have d303 := d299 _ d294 o23.sub
   replace o7 := o7.upF d295 up
   replace o23 := o23.upF d294 up
   clear up d299
   exact S.wh hW [] hC fun _ S => hK259 _ _ q296 F297 q24 F25 q8 F9 _ _ _ S o298 o23 o7 (Disj.symm d303) (Disj.symm d302) d293 hb301 hBB
  have hK304 ac w q85 F86 q8 F9 u N β (S : St Tryz.prog Tryz.f44.ntmps w0 NoB u N β (σ1.dl [] [(8, .v (slv h.mem.length q8.1)), (12, .v (slv h.buf.length q85.1)), (15, .v (slv h.iobuf.length ph.iobuf.1))] 2 []) ac w) (o84 : Ow w0 NoB u N F86 h.buf q85) (o7 : Ow w0 NoB u N F9 h.mem q8) (d305 : Disj F86 F9) (hNN : NN N0 u0 N u) (hBB : BB σ1.bx.length β0 β) : W 5 (mkL 14 [0, 1, 2, 3, 4, 5, 6, 8, 9]) ac w := by
   refine ox2 hW 7 12 ?_ (S.wq hW hNN hBB [] .nil fun _ _ _ S hB => hK283 _ _ q85 F86 q8 F9 _ _ _ S o84 o7 d305 hNN hB)
   refine id (S.bs0 (α := TEntry) (d := 13) (by kernel_rfl) fun ac w N q306 F307 S up o308 d309 => ?_)
   have hb310 := fun b h => (⟨(up b (hNN b h).1).1, (up b (hNN b h).1).2.trans (hNN b h).2, d309 b (hNN b h).1⟩ : _ ∧ _ ∧ _)
   refine WD.sc S (fun b h => ⟨(hb310 b h).1, (hb310 b h).2.1⟩) hBB fun hC => ?_
   have d311 := Disj.w d309 o7.sub
   have d312 := Disj.w d309 o84.sub
   replace o7 := o7.up up
   replace o84 := o84.up up
   clear up d309
   exact S.wh hW [] hC fun _ S => hK271 _ _ q85 F86 q306 F307 q8 F9 _ _ _ S o84 o308 o7 d312 d305 (Disj.symm d311) hb310 hBB
  have hK313 ac w q24 F25 q8 F9 q16 F17 u N β (S : St Tryz.prog Tryz.f44.ntmps w0 NoB u N β (σ1.dl [] [(8, .v (slv h.mem.length q8.1)), (9, .v (slv 0 q16.1)), (11, .v (slv h.buf.length ph.buf.1)), (13, .v (slv 0 q24.1)), (15, .v (slv h.iobuf.length ph.iobuf.1))] 2 []) ac w) (o23 : Ow w0 NoB u N F25 ([] : List TEntry) q24) (o7 : Ow w0 NoB u N F9 h.mem q8) (o15 : Ow w0 NoB u N F17 ([] : List TEntry) q16) (d314 : Disj F25 F9) (d315 : Disj F25 F17) (d316 : Disj F9 F17) (hNN : ∀ b, N0 b → N b ∧ u.heap[b]? = u0.heap[b]? ∧ ¬ F17 b ∧ ¬ F25 b) (hBB : BB σ1.bx.length β0 β) : W 5 (mkL 14 [0, 1, 2, 3, 4, 5, 7, 8, 9]) ac w := by
   refine ox2 hW 6 12 ?_ (S.wq hW (fun b h => ⟨(hNN b h).1, (hNN b h).2.1⟩) hBB [] .nil fun _ _ _ S hB => hK292 _ _ q24 F25 q8 F9 q16 F17 _ _ _ S o23 o7 o15 d314 d315 d316 hNN hB)
   have b321 : h.buf.length ≤ 4194304 := LRd.le (RHost.buf (d := h) (S.arg hh))
   refine id (S.appFlat0 (α := TEntry) o15 (RHost.buf (d := h) (S.arg hh)) (fun _ _ h => h) (by' := 32) (d := 12) (lx := 0) (ly := h.buf.length) rfl fun ac w N q317 F318 S up o319 d320 => ?_)
   have hb322 := fun b h => (⟨(up b (hNN b h).1 (hNN b h).2.2.1).1, (up b (hNN b h).1 (hNN b h).2.2.1).2.trans (hNN b h).2.1, (hNN b h).2.2.2⟩ : _ ∧ _ ∧ _)
   refine WD.sc S (fun b h => ⟨(hb322 b h).1, (hb322 b h).2.1⟩) hBB fun hC => ?_
   have d323 := d320 _ d316 o7.sub
   have d324 := d320 _ d315 o23.sub
   replace o7 := o7.upF d316 up
   replace o23 := o23.upF d315 up
   clear up d320
   exact S.wh hW [] hC fun _ S => hK271 _ _ q317 F318 q24 F25 q8 F9 _ _ _ S o319 o23 o7 (Disj.symm d324) (Disj.symm d323) d314 hb322 hBB
  have hK325 ac w q8 F9 q16 F17 u N β (S : St Tryz.prog Tryz.f44.ntmps w0 NoB u N β (σ1.dl [] [(3, .p 2 0), (8, .v (slv h.mem.length q8.1)), (9, .v (slv 0 q16.1)), (11, .v (slv h.buf.length ph.buf.1)), (15, .v (slv h.iobuf.length ph.iobuf.1))] 3 [(2, Zc THost)]) ac w) (o7 : Ow w0 NoB u N F9 h.mem q8) (o15 : Ow w0 NoB u N F17 ([] : List TEntry) q16) (d326 : Disj F9 F17) (hNN : ∀ b, N0 b → N b ∧ u.heap[b]? = u0.heap[b]? ∧ ¬ F17 b) (hBB : BB σ1.bx.length β0 β) : W 5 (mkL 14 [0, 1, 2, 3, 4, 5, 8, 9, 12]) ac w := by
   refine ox2 hW 6 7 ?_ ?_
   ·have b331 : h.buf.length ≤ 4194304 := LRd.le (RHost.buf (d := h) (S.arg hh))
    refine id (S.appFlat0 (α := TEntry) o15 (RHost.buf (d := h) (S.arg hh)) (fun _ _ h => h) (by' := 32) (d := 12) (lx := 0) (ly := h.buf.length) rfl fun ac w N q327 F328 S up o329 d330 => ?_)
    have hb332 := fun b h => (⟨(up b (hNN b h).1 (hNN b h).2.2).1, (up b (hNN b h).1 (hNN b h).2.2).2.trans (hNN b h).2.1⟩ : _ ∧ _)
    refine WD.sc S hb332 hBB fun hC => ?_
    have d333 := d330 _ d326 o7.sub
    replace o7 := o7.upF d326 up
    clear up d330
    exact S.wh hW [] hC fun _ S => hK283 _ _ q327 F328 q8 F9 _ _ _ S o329 o7 (Disj.symm d333) hb332 hBB
   ·refine id (S.bs0 (α := TEntry) (d := 13) (by kernel_rfl) fun ac w N q334 F335 S up o336 d337 => ?_)
    have hb338 := fun b h => (⟨(up b (hNN b h).1).1, (up b (hNN b h).1).2.trans (hNN b h).2.1, (hNN b h).2.2, d337 b (hNN b h).1⟩ : _ ∧ _ ∧ _ ∧ _)
    refine WD.sc S (fun b h => ⟨(hb338 b h).1, (hb338 b h).2.1⟩) hBB fun hC => ?_
    have d339 := Disj.w d337 o7.sub
    have d340 := Disj.w d337 o15.sub
    replace o7 := o7.up up
    replace o15 := o15.up up
    clear up d337
    exact S.wh hW [] hC fun _ S => hK292 _ _ q334 F335 q8 F9 q16 F17 _ _ _ S o336 o7 o15 (Disj.symm d339) (Disj.symm d340) d326 hb338 hBB
  have hK341 ac w q24 F25 q8 F9 u N β (S : St Tryz.prog Tryz.f44.ntmps w0 NoB u N β (σ1.dl [] [(3, .p 2 0), (8, .v (slv h.mem.length q8.1)), (11, .v (slv h.buf.length ph.buf.1)), (13, .v (slv 0 q24.1)), (15, .v (slv h.iobuf.length ph.iobuf.1))] 3 [(2, Zc THost)]) ac w) (o23 : Ow w0 NoB u N F25 ([] : List TEntry) q24) (o7 : Ow w0 NoB u N F9 h.mem q8) (d342 : Disj F25 F9) (hNN : ∀ b, N0 b → N b ∧ u.heap[b]? = u0.heap[b]? ∧ ¬ F25 b) (hBB : BB σ1.bx.length β0 β) : W 5 (mkL 14 [0, 1, 2, 4, 5, 7, 8, 9, 12]) ac w := by
   refine ox1 hW 3 ?_
   refine id (S.bs0 (α := TEntry) (d := 9) (by kernel_rfl) fun ac w N q343 F344 S up o345 d346 => ?_)
   have hb347 := fun b h => (⟨(up b (hNN b h).1).1, (up b (hNN b h).1).2.trans (hNN b h).2.1, d346 b (hNN b h).1, (hNN b h).2.2⟩ : _ ∧ _ ∧ _ ∧ _)
   refine WD.sc S (fun b h => ⟨(hb347 b h).1, (hb347 b h).2.1⟩) hBB fun hC => ?_
   have d348 := Disj.w d346 o7.sub
   have d349 := Disj.w d346 o23.sub
   replace o7 := o7.up up
   replace o23 := o23.up up
   clear up d346
   exact S.wh hW [] hC fun _ S => hK292 _ _ q24 F25 q8 F9 q343 F344 _ _ _ S o23 o7 o345 d342 d349 d348 hb347 hBB
  have hK350 ac w q24 F25 q16 F17 u N β (S : St Tryz.prog Tryz.f44.ntmps w0 NoB u N β (σ1.dl [] [(3, .p 2 0), (7, .v (slv h.mem.length ph.mem.1)), (9, .v (slv 0 q16.1)), (11, .v (slv h.buf.length ph.buf.1)), (13, .v (slv 0 q24.1)), (15, .v (slv h.iobuf.length ph.iobuf.1))] 3 [(2, Zc THost)]) ac w) (o23 : Ow w0 NoB u N F25 ([] : List TEntry) q24) (o15 : Ow w0 NoB u N F17 ([] : List TEntry) q16) (d351 : Disj F25 F17) (hNN : ∀ b, N0 b → N b ∧ u.heap[b]? = u0.heap[b]? ∧ ¬ F17 b ∧ ¬ F25 b) (hBB : BB σ1.bx.length β0 β) : W 5 (mkL 14 [0, 1, 3, 4, 5, 7, 8, 9, 12]) ac w := by
   refine ox1 hW 2 ?_
   refine id (S.k1 8 (c_impl_copyMem w h.mem ph.mem (S.rd (RHost.mem (d := h) (S.arg hh)))) fun ac w N q352 F353 S up o354 d355 => ?_)
   have hb356 := fun b h => (⟨(up b (hNN b h).1).1, (up b (hNN b h).1).2.trans (hNN b h).2.1, (hNN b h).2.2.1, (hNN b h).2.2.2⟩ : _ ∧ _ ∧ _ ∧ _)
   refine WD.sc S (fun b h => ⟨(hb356 b h).1, (hb356 b h).2.1⟩) hBB fun hC => ?_
   have d357 := Disj.w d355 o15.sub
   have d358 := Disj.w d355 o23.sub
   replace o15 := o15.up up
   replace o23 := o23.up up
   clear up d355
   exact S.wh hW [] hC fun _ S => hK292 _ _ q24 F25 q352 F353 q16 F17 _ _ _ S o23 o354 o15 d358 d351 (Disj.symm d357) hb356 hBB
  have hK359 ac w q8 F9 q16 F17 u N β (S : St Tryz.prog Tryz.f44.ntmps w0 NoB u N β (σ1.dl [] [(8, .v (slv h.mem.length q8.1)), (9, .v (slv 0 q16.1)), (11, .v (slv h.buf.length ph.buf.1)), (15, .v (slv h.iobuf.length ph.iobuf.1))] 2 []) ac w) (o7 : Ow w0 NoB u N F9 h.mem q8) (o15 : Ow w0 NoB u N F17 ([] : List TEntry) q16) (d360 : Disj F9 F17) (hNN : ∀ b, N0 b → N b ∧ u.heap[b]? = u0.heap[b]? ∧ ¬ F17 b) (hBB : BB σ1.bx.length β0 β) : W 6 (mkL 14 [0, 1, 2, 3, 4, 5, 8, 9]) ac w := by
   refine ox3 hW 6 7 12 ?_ ?_ (S.wq hW (fun b h => ⟨(hNN b h).1, (hNN b h).2.1⟩) hBB [] .nil fun _ _ _ S hB => hK325 _ _ q8 F9 q16 F17 _ _ _ S o7 o15 d360 hNN hB)
   ·have b365 : h.buf.length ≤ 4194304 := LRd.le (RHost.buf (d := h) (S.arg hh))
    refine id (S.appFlat0 (α := TEntry) o15 (RHost.buf (d := h) (S.arg hh)) (fun _ _ h => h) (by' := 32) (d := 12) (lx := 0) (ly := h.buf.length) rfl fun ac w N q361 F362 S up o363 d364 => ?_)
    have hb366 := fun b h => (⟨(up b (hNN b h).1 (hNN b h).2.2).1, (up b (hNN b h).1 (hNN b h).2.2).2.trans (hNN b h).2.1⟩ : _ ∧ _)
    refine WD.sc S hb366 hBB fun hC => ?_
    have d367 := d364 _ d360 o7.sub
    replace o7 := o7.upF d360 up
    clear up d364
    exact S.wh hW [] hC fun _ S => hK304 _ _ q361 F362 q8 F9 _ _ _ S o363 o7 (Disj.symm d367) hb366 hBB
   ·refine id (S.bs0 (α := TEntry) (d := 13) (by kernel_rfl) fun ac w N q368 F369 S up o370 d371 => ?_)
    have hb372 := fun b h => (⟨(up b (hNN b h).1).1, (up b (hNN b h).1).2.trans (hNN b h).2.1, (hNN b h).2.2, d371 b (hNN b h).1⟩ : _ ∧ _ ∧ _ ∧ _)
    refine WD.sc S (fun b h => ⟨(hb372 b h).1, (hb372 b h).2.1⟩) hBB fun hC => ?_
    have d373 := Disj.w d371 o7.sub
    have d374 := Disj.w d371 o15.sub
    replace o7 := o7.up up
    replace o15 := o15.up up
    clear up d371
    exact S.wh hW [] hC fun _ S => hK313 _ _ q368 F369 q8 F9 q16 F17 _ _ _ S o370 o7 o15 (Disj.symm d373) (Disj.symm d374) d360 hb372 hBB
  have hK375 ac w q24 F25 q8 F9 u N β (S : St Tryz.prog Tryz.f44.ntmps w0 NoB u N β (σ1.dl [] [(8, .v (slv h.mem.length q8.1)), (11, .v (slv h.buf.length ph.buf.1)), (13, .v (slv 0 q24.1)), (15, .v (slv h.iobuf.length ph.iobuf.1))] 2 []) ac w) (o23 : Ow w0 NoB u N F25 ([] : List TEntry) q24) (o7 : Ow w0 NoB u N F9 h.mem q8) (d376 : Disj F25 F9) (hNN : ∀ b, N0 b → N b ∧ u.heap[b]? = u0.heap[b]? ∧ ¬ F25 b) (hBB : BB σ1.bx.length β0 β) : W 6 (mkL 14 [0, 1, 2, 4, 5, 7, 8, 9]) ac w := by
   refine ox2 hW 3 12 ?_ (S.wq hW (fun b h => ⟨(hNN b h).1, (hNN b h).2.1⟩) hBB [] .nil fun _ _ _ S hB => hK341 _ _ q24 F25 q8 F9 _ _ _ S o23 o7 d376 hNN hB)
   refine id (S.bs0 (α := TEntry) (d := 9) (by kernel_rfl) fun ac w N q377 F378 S up o379 d380 => ?_)
   have hb381 := fun b h => (⟨(up b (hNN b h).1).1, (up b (hNN b h).1).2.trans (hNN b h).2.1, d380 b (hNN b h).1, (hNN b h).2.2⟩ : _ ∧ _ ∧ _ ∧ _)
   refine WD.sc S (fun b h => ⟨(hb381 b h).1, (hb381 b h).2.1⟩) hBB fun hC => ?_
   have d382 := Disj.w d380 o7.sub
   have d383 := Disj.w d380 o23.sub
   replace o7 := o7.up up
   replace o23 := o23.up up
   clear up d380
   exact S.wh hW [] hC fun _ S => hK313 _ _ q24 F25 q8 F9 q377 F378 _ _ _ S o23 o7 o379 d376 d383 d382 hb381 hBB
  have hK384 ac w q8 F9 u N β (S : St Tryz.prog Tryz.f44.ntmps w0 NoB u N β (σ1.dl [] [(3, .p 2 0), (8, .v (slv h.mem.length q8.1)), (11, .v (slv h.buf.length ph.buf.1)), (15, .v (slv h.iobuf.length ph.iobuf.1))] 3 [(2, Zc THost)]) ac w) (o7 : Ow w0 NoB u N F9 h.mem q8) (hNN : NN N0 u0 N u) (hBB : BB σ1.bx.length β0 β) : W 6 (mkL 14 [0, 1, 2, 4, 5, 8, 9, 12]) ac w := by
   refine ox2 hW 3 7 ?_ ?_
   ·refine id (S.bs0 (α := TEntry) (d := 9) (by kernel_rfl) fun ac w N q385 F386 S up o387 d388 => ?_)
    have hb389 := fun b h => (⟨(up b (hNN b h).1).1, (up b (hNN b h).1).2.trans (hNN b h).2, d388 b (hNN b h).1⟩ : _ ∧ _ ∧ _)
    refine WD.sc S (fun b h => ⟨(hb389 b h).1, (hb389 b h).2.1⟩) hBB fun hC => ?_
    have d390 := Disj.w d388 o7.sub
    replace o7 := o7.up up
    clear up d388
    exact S.wh hW [] hC fun _ S => hK325 _ _ q8 F9 q385 F386 _ _ _ S o7 o387 d390 hb389 hBB
   ·refine id (S.bs0 (α := TEntry) (d := 13) (by kernel_rfl) fun ac w N q391 F392 S up o393 d394 => ?_)
    have hb395 := fun b h => (⟨(up b (hNN b h).1).1, (up b (hNN b h).1).2.trans (hNN b h).2, d394 b (hNN b h).1⟩ : _ ∧ _ ∧ _)
    refine WD.sc S (fun b h => ⟨(hb395 b h).1, (hb395 b h).2.1⟩) hBB fun hC => ?_
    have d396 := Disj.w d394 o7.sub
    replace o7 := o7.up up
    clear up d394
    exact S.wh hW [] hC fun _ S => hK341 _ _ q391 F392 q8 F9 _ _ _ S o393 o7 (Disj.symm d396) hb395 hBB
  have hK397 ac w q24 F25 q16 F17 u N β (S : St Tryz.prog Tryz.f44.ntmps w0 NoB u N β (σ1.dl [] [(7, .v (slv h.mem.length ph.mem.1)), (9, .v (slv 0 q16.1)), (11, .v (slv h.buf.length ph.buf.1)), (13, .v (slv 0 q24.1)), (15, .v (slv h.iobuf.length ph.iobuf.1))] 2 []) ac w) (o23 : Ow w0 NoB u N F25 ([] : List TEntry) q24) (o15 : Ow w0 NoB u N F17 ([] : List TEntry) q16) (d398 : Disj F25 F17) (hNN : ∀ b, N0 b → N b ∧ u.heap[b]? = u0.heap[b]? ∧ ¬ F17 b ∧ ¬ F25 b) (hBB : BB σ1.bx.length β0 β) : W 6 (mkL 14 [0, 1, 3, 4, 5, 7, 8, 9]) ac w := by
   refine ox2 hW 2 12 ?_ (S.wq hW (fun b h => ⟨(hNN b h).1, (hNN b h).2.1⟩) hBB [] .nil fun _ _ _ S hB => hK350 _ _ q24 F25 q16 F17 _ _ _ S o23 o15 d398 hNN hB)
   refine id (S.k1 8 (c_impl_copyMem w h.mem ph.mem (S.rd (RHost.mem (d := h) (S.arg hh)))) fun ac w N q399 F400 S up o401 d402 => ?_)
   have hb403 := fun b h => (⟨(up b (hNN b h).1).1, (up b (hNN b h).1).2.trans (hNN b h).2.1, (hNN b h).2.2.1, (hNN b h).2.2.2⟩ : _ ∧ _ ∧ _ ∧ _)
   refine WD.sc S (fun b h => ⟨(hb403 b h).1, (hb403 b h).2.1⟩) hBB fun hC => ?_
   have d404 := Disj.w d402 o15.sub
   have d405 := Disj.w d402 o23.sub
   replace o15 := o15.up up
   replace o23 := o23.up up
   clear up d402
   exact S.wh hW [] hC fun _ S => hK313 _ _ q24 F25 q399 F400 q16 F17 _ _ _ S o23 o401 o15 d405 d398 (Disj.symm d404) hb403 hBB
  have hK406 ac w q16 F17 u N β (S : St Tryz.prog Tryz.f44.ntmps w0 NoB u N β (σ1.dl [] [(3, .p 2 0), (7, .v (slv h.mem.length ph.mem.1)), (9, .v (slv 0 q16.1)), (11, .v (slv h.buf.length ph.buf.1)), (15, .v (slv h.iobuf.length ph.iobuf.1))] 3 [(2, Zc THost)]) ac w) (o15 : Ow w0 NoB u N F17 ([] : List TEntry) q16) (hNN : ∀ b, N0 b → N b ∧ u.heap[b]? = u0.heap[b]? ∧ ¬ F17 b) (hBB : BB σ1.bx.length β0 β) : W 6 (mkL 14 [0, 1, 3, 4, 5, 8, 9, 12]) ac w := by
   refine ox2 hW 2 7 ?_ ?_
   ·refine id (S.k1 8 (c_impl_copyMem w h.mem ph.mem (S.rd (RHost.mem (d := h) (S.arg hh)))) fun ac w N q407 F408 S up o409 d410 => ?_)
    have hb411 := fun b h => (⟨(up b (hNN b h).1).1, (up b (hNN b h).1).2.trans (hNN b h).2.1, (hNN b h).2.2⟩ : _ ∧ _ ∧ _)
    refine WD.sc S (fun b h => ⟨(hb411 b h).1, (hb411 b h).2.1⟩) hBB fun hC => ?_
    have d412 := Disj.w d410 o15.sub
    replace o15 := o15.up up
    clear up d410
    exact S.wh hW [] hC fun _ S => hK325 _ _ q407 F408 q16 F17 _ _ _ S o409 o15 (Disj.symm d412) hb411 hBB
   ·refine id (S.bs0 (α := TEntry) (d := 13) (by kernel_rfl) fun ac w N q413 F414 S up o415 d416 => ?_)
    have hb417 := fun b h => (⟨(up b (hNN b h).1).1, (up b (hNN b h).1).2.trans (hNN b h).2.1, (hNN b h).2.2, d416 b (hNN b h).1⟩ : _ ∧ _ ∧ _ ∧ _)
    refine WD.sc S (fun b h => ⟨(hb417 b h).1, (hb417 b h).2.1⟩) hBB fun hC => ?_
    have d418 := Disj.w d416 o15.sub
    replace o15 := o15.up up
    clear up d416
    exact S.wh hW [] hC fun _ S => hK350 _ _ q413 F414 q16 F17 _ _ _ S o415 o15 (Disj.symm d418) hb417 hBB
  have hK419 ac w q24 F25 u N β (S : St Tryz.prog Tryz.f44.ntmps w0 NoB u N β (σ1.dl [] [(3, .p 2 0), (7, .v (slv h.mem.length ph.mem.1)), (11, .v (slv h.buf.length ph.buf.1)), (13, .v (slv 0 q24.1)), (15, .v (slv h.iobuf.length ph.iobuf.1))] 3 [(2, Zc THost)]) ac w) (o23 : Ow w0 NoB u N F25 ([] : List TEntry) q24) (hNN : ∀ b, N0 b → N b ∧ u.heap[b]? = u0.heap[b]? ∧ ¬ F25 b) (hBB : BB σ1.bx.length β0 β) : W 6 (mkL 14 [0, 1, 4, 5, 7, 8, 9, 12]) ac w := by
   refine ox2 hW 2 3 ?_ ?_
   ·refine id (S.k1 8 (c_impl_copyMem w h.mem ph.mem (S.rd (RHost.mem (d := h) (S.arg hh)))) fun ac w N q420 F421 S up o422 d423 => ?_)
    have hb424 := fun b h => (⟨(up b (hNN b h).1).1, (up b (hNN b h).1).2.trans (hNN b h).2.1, (hNN b h).2.2⟩ : _ ∧ _ ∧ _)
    refine WD.sc S (fun b h => ⟨(hb424 b h).1, (hb424 b h).2.1⟩) hBB fun hC => ?_
    have d425 := Disj.w d423 o23.sub
    replace o23 := o23.up up
    clear up d423
    exact S.wh hW [] hC fun _ S => hK341 _ _ q24 F25 q420 F421 _ _ _ S o23 o422 d425 hb424 hBB
   ·refine id (S.bs0 (α := TEntry) (d := 9) (by kernel_rfl) fun ac w N q426 F427 S up o428 d429 => ?_)
    have hb430 := fun b h => (⟨(up b (hNN b h).1).1, (up b (hNN b h).1).2.trans (hNN b h).2.1, d429 b (hNN b h).1, (hNN b h).2.2⟩ : _ ∧ _ ∧ _ ∧ _)
    refine WD.sc S (fun b h => ⟨(hb430 b h).1, (hb430 b h).2.1⟩) hBB fun hC => ?_
    have d431 := Disj.w d429 o23.sub
    replace o23 := o23.up up
    clear up d429
    exact S.wh hW [] hC fun _ S => hK350 _ _ q24 F25 q426 F427 _ _ _ S o23 o428 d431 hb430 hBB
  have hK432 ac w q8 F9 u N β (S : St Tryz.prog Tryz.f44.ntmps w0 NoB u N β (σ1.dl [] [(8, .v (slv h.mem.length q8.1)), (11, .v (slv h.buf.length ph.buf.1)), (15, .v (slv h.iobuf.length ph.iobuf.1))] 2 []) ac w) (o7 : Ow w0 NoB u N F9 h.mem q8) (hNN : NN N0 u0 N u) (hBB : BB σ1.bx.length β0 β) : W 7 (mkL 14 [0, 1, 2, 4, 5, 8, 9]) ac w := by
   refine ox3 hW 3 7 12 ?_ ?_ (S.wq hW hNN hBB [] .nil fun _ _ _ S hB => hK384 _ _ q8 F9 _ _ _ S o7 hNN hB)
   ·refine id (S.bs0 (α := TEntry) (d := 9) (by kernel_rfl) fun ac w N q433 F434 S up o435 d436 => ?_)
    have hb437 := fun b h => (⟨(up b (hNN b h).1).1, (up b (hNN b h).1).2.trans (hNN b h).2, d436 b (hNN b h).1⟩ : _ ∧ _ ∧ _)
    refine WD.sc S (fun b h => ⟨(hb437 b h).1, (hb437 b h).2.1⟩) hBB fun hC => ?_
    have d438 := Disj.w d436 o7.sub
    replace o7 := o7.up up
    clear up d436
    exact S.wh hW [] hC fun _ S => hK359 _ _ q8 F9 q433 F434 _ _ _ S o7 o435 d438 hb437 hBB
   ·refine id (S.bs0 (α := TEntry) (d := 13) (by kernel_rfl) fun ac w N q439 F440 S up o441 d442 => ?_)
    have hb443 := fun b h => (⟨(up b (hNN b h).1).1, (up b (hNN b h).1).2.trans (hNN b h).2, d442 b (hNN b h).1⟩ : _ ∧ _ ∧ _)
    refine WD.sc S (fun b h => ⟨(hb443 b h).1, (hb443 b h).2.1⟩) hBB fun hC => ?_
    have d444 := Disj.w d442 o7.sub
    replace o7 := o7.up up
    clear up d442
    exact S.wh hW [] hC fun _ S => hK375 _ _ q439 F440 q8 F9 _ _ _ S o441 o7 (Disj.symm d444) hb443 hBB
  have hK445 ac w q16 F17 u N β (S : St Tryz.prog Tryz.f44.ntmps w0 NoB u N β (σ1.dl [] [(7, .v (slv h.mem.length ph.mem.1)), (9, .v (slv 0 q16.1)), (11, .v (slv h.buf.length ph.buf.1)), (15, .v (slv h.iobuf.length ph.iobuf.1))] 2 []) ac w) (o15 : Ow w0 NoB u N F17 ([] : List TEntry) q16) (hNN : ∀ b, N0 b → N b ∧ u.heap[b]? = u0.heap[b]? ∧ ¬ F17 b) (hBB : BB σ1.bx.length β0 β) : W 7 (mkL 14 [0, 1, 3, 4, 5, 8, 9]) ac w := by
   refine ox3 hW 2 7 12 ?_ ?_ (S.wq hW (fun b h => ⟨(hNN b h).1, (hNN b h).2.1⟩) hBB [] .nil fun _ _ _ S hB => hK406 _ _ q16 F17 _ _ _ S o15 hNN hB)
   ·refine id (S.k1 8 (c_impl_copyMem w h.mem ph.mem (S.rd (RHost.mem (d := h) (S.arg hh)))) fun ac w N q446 F447 S up o448 d449 => ?_)
    have hb450 := fun b h => (⟨(up b (hNN b h).1).1, (up b (hNN b h).1).2.trans (hNN b h).2.1, (hNN b h).2.2⟩ : _ ∧ _ ∧ _)
    refine WD.sc S (fun b h => ⟨(hb450 b h).1, (hb450 b h).2.1⟩) hBB fun hC => ?_
    have d451 := Disj.w d449 o15.sub
    replace o15 := o15.up up
    clear up d449
    exact S.wh hW [] hC fun _ S => hK359 _ _ q446 F447 q16 F17 _ _ _ S o448 o15 (Disj.symm d451) hb450 hBB
   ·refine id (S.bs0 (α := TEntry) (d := 13) (by kernel_rfl) fun ac w N q452 F453 S up o454 d455 => ?_)
    have hb456 := fun b h => (⟨(up b (hNN b h).1).1, (up b (hNN b h).1).2.trans (hNN b h).2.1, (hNN b h).2.2, d455 b (hNN b h).1⟩ : _ ∧ _ ∧ _ ∧ _)
    refine WD.sc S (fun b h => ⟨(hb456 b h).1, (hb456 b h).2.1⟩) hBB fun hC => ?_
    have d457 := Disj.w d455 o15.sub
    replace o15 := o15.up up
    clear up d455
    exact S.wh hW [] hC fun _ S => hK397 _ _ q452 F453 q16 F17 _ _ _ S o454 o15 (Disj.symm d457) hb456 hBB
  have hK458 ac w q24 F25 u N β (S : St Tryz.prog Tryz.f44.ntmps w0 NoB u N β (σ1.dl [] [(7, .v (slv h.mem.length ph.mem.1)), (11, .v (slv h.buf.length ph.buf.1)), (13, .v (slv 0 q24.1)), (15, .v (slv h.iobuf.length ph.iobuf.1))] 2 []) ac w) (o23 : Ow w0 NoB u N F25 ([] : List TEntry) q24) (hNN : ∀ b, N0 b → N b ∧ u.heap[b]? = u0.heap[b]? ∧ ¬ F25 b) (hBB : BB σ1.bx.length β0 β) : W 7 (mkL 14 [0, 1, 4, 5, 7, 8, 9]) ac w := by
   refine ox3 hW 2 3 12 ?_ ?_ (S.wq hW (fun b h => ⟨(hNN b h).1, (hNN b h).2.1⟩) hBB [] .nil fun _ _ _ S hB => hK419 _ _ q24 F25 _ _ _ S o23 hNN hB)
   ·refine id (S.k1 8 (c_impl_copyMem w h.mem ph.mem (S.rd (RHost.mem (d := h) (S.arg hh)))) fun ac w N q459 F460 S up o461 d462 => ?_)
    have hb463 := fun b h => (⟨(up b (hNN b h).1).1, (up b (hNN b h).1).2.trans (hNN b h).2.1, (hNN b h).2.2⟩ : _ ∧ _ ∧ _)
    refine WD.sc S (fun b h => ⟨(hb463 b h).1, (hb463 b h).2.1⟩) hBB fun hC => ?_
    have d464 := Disj.w d462 o23.sub
    replace o23 := o23.up up
    clear up d462
    exact S.wh hW [] hC fun _ S => hK375 _ _ q24 F25 q459 F460 _ _ _ S o23 o461 d464 hb463 hBB
   ·refine id (S.bs0 (α := TEntry) (d := 9) (by kernel_rfl) fun ac w N q465 F466 S up o467 d468 => ?_)
    have hb469 := fun b h => (⟨(up b (hNN b h).1).1, (up b (hNN b h).1).2.trans (hNN b h).2.1, d468 b (hNN b h).1, (hNN b h).2.2⟩ : _ ∧ _ ∧ _ ∧ _)
    refine WD.sc S (fun b h => ⟨(hb469 b h).1, (hb469 b h).2.1⟩) hBB fun hC => ?_
    have d470 := Disj.w d468 o23.sub
    replace o23 := o23.up up
    clear up d468
    exact S.wh hW [] hC fun _ S => hK397 _ _ q24 F25 q465 F466 _ _ _ S o23 o467 d470 hb469 hBB
  have hK471 ac w u N β (S : St Tryz.prog Tryz.f44.ntmps w0 NoB u N β (σ1.dl [] [(3, .p 2 0), (7, .v (slv h.mem.length ph.mem.1)), (11, .v (slv h.buf.length ph.buf.1)), (15, .v (slv h.iobuf.length ph.iobuf.1))] 3 [(2, Zc THost)]) ac w) (hNN : NN N0 u0 N u) (hBB : BB σ1.bx.length β0 β) : W 7 (mkL 14 [0, 1, 4, 5, 8, 9, 12]) ac w := by
   refine ox3 hW 2 3 7 ?_ ?_ ?_
   ·refine id (S.k1 8 (c_impl_copyMem w h.mem ph.mem (S.rd (RHost.mem (d := h) (S.arg hh)))) fun ac w N q472 F473 S up o474 d475 => ?_)
    have hb476 := fun b h => (⟨(up b (hNN b h).1).1, (up b (hNN b h).1).2.trans (hNN b h).2⟩ : _ ∧ _)
    refine WD.sc S hb476 hBB fun hC => ?_
    clear up d475
    exact S.wh hW [] hC fun _ S => hK384 _ _ q472 F473 _ _ _ S o474 hb476 hBB
   ·refine id (S.bs0 (α := TEntry) (d := 9) (by kernel_rfl) fun ac w N q477 F478 S up o479 d480 => ?_)
    have hb481 := fun b h => (⟨(up b (hNN b h).1).1, (up b (hNN b h).1).2.trans (hNN b h).2, d480 b (hNN b h).1⟩ : _ ∧ _ ∧ _)
    refine WD.sc S (fun b h => ⟨(hb481 b h).1, (hb481 b h).2.1⟩) hBB fun hC => ?_
    clear up d480
    exact S.wh hW [] hC fun _ S => hK406 _ _ q477 F478 _ _ _ S o479 hb481 hBB
   ·refine id (S.bs0 (α := TEntry) (d := 13) (by kernel_rfl) fun ac w N q482 F483 S up o484 d485 => ?_)
    have hb486 := fun b h => (⟨(up b (hNN b h).1).1, (up b (hNN b h).1).2.trans (hNN b h).2, d485 b (hNN b h).1⟩ : _ ∧ _ ∧ _)
    refine WD.sc S (fun b h => ⟨(hb486 b h).1, (hb486 b h).2.1⟩) hBB fun hC => ?_
    clear up d485
    exact S.wh hW [] hC fun _ S => hK419 _ _ q482 F483 _ _ _ S o484 hb486 hBB
  have hNN : NN N0 u0 N0 u0 := fun b h => ⟨h, rfl⟩
  have hBB : BB σ1.bx.length β0 β0 := fun _ _ => rfl
  refine ox4 hW 2 3 7 12 ?_ ?_ ?_ (S.wq hW hNN hBB [] .nil fun _ _ _ S hB => hK471 _ _ _ _ _ S hNN hB)
  ·refine id (S.k1 8 (c_impl_copyMem w h.mem ph.mem (S.rd (RHost.mem (d := h) (S.arg hh)))) fun ac w N q487 F488 S up o489 d490 => ?_)
   have hb491 := fun b h => (⟨(up b (hNN b h).1).1, (up b (hNN b h).1).2.trans (hNN b h).2⟩ : _ ∧ _)
   refine WD.sc S hb491 hBB fun hC => ?_
   clear up d490
   exact S.wh hW [] hC fun _ S => hK432 _ _ q487 F488 _ _ _ S o489 hb491 hBB
  ·refine id (S.bs0 (α := TEntry) (d := 9) (by kernel_rfl) fun ac w N q492 F493 S up o494 d495 => ?_)
   have hb496 := fun b h => (⟨(up b (hNN b h).1).1, (up b (hNN b h).1).2.trans (hNN b h).2, d495 b (hNN b h).1⟩ : _ ∧ _ ∧ _)
   refine WD.sc S (fun b h => ⟨(hb496 b h).1, (hb496 b h).2.1⟩) hBB fun hC => ?_
   clear up d495
   exact S.wh hW [] hC fun _ S => hK445 _ _ q492 F493 _ _ _ S o494 hb496 hBB
  ·refine id (S.bs0 (α := TEntry) (d := 13) (by kernel_rfl) fun ac w N q497 F498 S up o499 d500 => ?_)
   have hb501 := fun b h => (⟨(up b (hNN b h).1).1, (up b (hNN b h).1).2.trans (hNN b h).2, d500 b (hNN b h).1⟩ : _ ∧ _ ∧ _)
   refine WD.sc S (fun b h => ⟨(hb501 b h).1, (hb501 b h).2.1⟩) hBB fun hC => ?_
   clear up d500
   exact S.wh hW [] hC fun _ S => hK458 _ _ q497 F498 _ _ _ S o499 hb501 hBB
 clear S
 rintro ac w ⟨q234, F235, q237, F238, q231, F232, u, N, β, S, o233, o236, o230, d502, d503, d504⟩
 refine S.ex fun S => ?_
 refine S.go 11 .nil fun ac w β S => ?_
 have o508 := S.nilOw (α := TMon)
 refine lp (fun mm ac w => ∃ (i : Nat) (acc : List TMon) (q505 : _) (F506 : _) (u : _) (N : _) (β : _), mm = h.mons.length - i ∧ (i ≤ h.mons.length) ∧ (acc = h.mons.take i) ∧ St Tryz.prog Tryz.f44.ntmps w0 NoB u N β ⟨[(2, .p 1 0), (3, .p 2 0), (19, .v (slv h.mons.length ph.mons.1)), (20, .v (I (h.mons.length : Int))), (21, .v (I (i : Int)))], [GT.cells h ph, Zc THost, [slv h.mem.length q231.1, slv acc.length q505.1, slv h.buf.length q234.1, slv h.iobuf.length q237.1]]⟩ ac w ∧ Ow w0 NoB u N F506 acc q505 ∧ Ow w0 NoB u N F232 h.mem q231 ∧ Ow w0 NoB u N F235 h.buf q234 ∧ Ow w0 NoB u N F238 h.iobuf q237 ∧ Disj F506 F232 ∧ Disj F506 F235 ∧ Disj F506 F238) _ ⟨0, ([] : List TMon), (GT.pdflt (α := List TMon)), NoB, _, _, _, rfl, o0, (by rfl), S.z, o508, o230, o233, o236, (Disj.symm (fun b _ h => False.elim h)), (Disj.symm (fun b _ h => False.elim h)), (Disj.symm (fun b _ h => False.elim h))⟩ ?_
 clear S o230 o233 o236 o508
 rintro f512 mm hf513 ac w ⟨i, acc, q505, F506, u, N, β, rfl, hi, hacc, S, o507, o230, o233, o236, d509, d510, d511⟩
 refine S.rs fun S => ?_
 have hlacc : acc.length = i := by rw [hacc]; simp; omega
 refine S.gd 6 .nil (decide ((i : Int) < (h.mons.length : Int))) (fun ac w β h514 g515 S => ?_) (fun ac w β h514 g515 S => ?_)
 ·refine S.go 13 (.cons (qn (RHost.mons (d := h) (S.arg hh)) i Tryz.underlying28) (.cons (qs (RHost.mons (d := h) (S.arg hh)) 73 i) .nil)) fun ac w β S => ?_
  refine drw ?_
  refine S.draw0 (f := 8) 5 (by kernel_rfl) (by kernel_rfl) fun w S => ?_
  refine S.hq 0 [1, 0] [] [(25, .p 2 1)] .nil fun ac S => ?_
  refine S.hq 1 [1] [] [(26, .v (slv acc.length q505.1))] .nil fun ac S => ?_
  refine S.hq 2 [3, 2] [] [(27, .v (GT.val (el h.mons i) (ph.mons.2 i)))] .nil fun ac S => ?_
  refine WD.one (i := 3) (by kernel_rfl) ?_
  refine id (S.k1 28 (c_impl_copyMon w (el h.mons i) (ph.mons.2 i) (S.rd (LRd.el (RHost.mons (d := h) (S.arg hh)) i (by omega)))) fun ac w N q516 F517 S up o518 d519 => ?_)
  refine WD.next S up (by kernel_rfl) ?_
  have d520 := Disj.w d519 o507.sub
  have d521 := Disj.w d519 o230.sub
  have d522 := Disj.w d519 o233.sub
  have d523 := Disj.w d519 o236.sub
  replace o507 := o507.up up
  replace o230 := o230.up up
  replace o233 := o233.up up
  replace o236 := o236.up up
  clear up d519
  have i539 : In64 (el h.mons i).pend := RMon.pend (d := (el h.mons i)) o518.rn
  have i540 : In64 (el h.mons i).traps := RMon.traps (d := (el h.mons i)) o518.rn
  have i544 : In64 (el h.mons i).owned := RMon.owned (d := (el h.mons i)) o518.rn
  obtain ⟨F524, F527, F530, F533, F536, F541, o525, o528, o531, o534, o537, o542, s526, s529, s532, s535, s538, s543, d545, d546, d547, d548, d549, d550, d551, d552, d553, d554, d555, d556, d557, d558, d559⟩ := sp_Mon o518
  refine WD.one (i := 4) (by kernel_rfl) ?_
  have o564 := ow_Mon (x := (el h.mons i)) (p := q516) o525 o528 o531 o534 o537 o542 d545 d546 d547 d548 d549 d550 d551 d552 d553 d554 d555 d556 d557 d558 d559 i539 i540 i544
  refine id (S.bs1 (α := TMon) (x := (el h.mons i)) (p := q516) o564.own o564.sub o564.young (d := 29) (by kernel_rfl) fun ac w N q560 F561 S up o562 d563 => ?_)
  refine WD.next S up (by kernel_rfl) ?_
  have d565 := d563 _ (Disj.symm (Disj.or (Disj.part (Disj.symm d520) s526) (Disj.or (Disj.part (Disj.symm d520) s529) (Disj.or (Disj.part (Disj.symm d520) s532) (Disj.or (Disj.part (Disj.symm d520) s535) (Disj.or (Disj.part (Disj.symm d520) s538) (Disj.or (Disj.part (Disj.symm d520) s543) Disj.nob))))))) o507.sub
  have d566 := d563 _ (Disj.symm (Disj.or (Disj.part (Disj.symm d521) s526) (Disj.or (Disj.part (Disj.symm d521) s529) (Disj.or (Disj.part (Disj.symm d521) s532) (Disj.or (Disj.part (Disj.symm d521) s535) (Disj.or (Disj.part (Disj.symm d521) s538) (Disj.or (Disj.part (Disj.symm d521) s543) Disj.nob))))))) o230.sub
  have d567 := d563 _ (Disj.symm (Disj.or (Disj.part (Disj.symm d522) s526) (Disj.or (Disj.part (Disj.symm d522) s529) (Disj.or (Disj.part (Disj.symm d522) s532) (Disj.or (Disj.part (Disj.symm d522) s535) (Disj.or (Disj.part (Disj.symm d522) s538) (Disj.or (Disj.part (Disj.symm d522) s543) Disj.nob))))))) o233.sub
  have d568 := d563 _ (Disj.symm (Disj.or (Disj.part (Disj.symm d523) s526) (Disj.or (Disj.part (Disj.symm d523) s529) (Disj.or (Disj.part (Disj.symm d523) s532) (Disj.or (Disj.part (Disj.symm d523) s535) (Disj.or (Disj.part (Disj.symm d523) s538) (Disj.or (Disj.part (Disj.symm d523) s543) Disj.nob))))))) o236.sub
  replace o507 := o507.up up
  replace o230 := o230.up up
  replace o233 := o233.up up
  replace o236 := o236.up up
  clear up d563
  refine WD.one (i := 5) (by kernel_rfl) ?_
  refine id (S.appOwn (α := TMon) o507 o562 d565 (by' := 168) (d := 30) (lx := acc.length) (ly := 1) rfl rfl (by kernel_rfl) (show _ ≤ 4194304 by simp only [List.length_append, List.length_cons, List.length_nil]; omega) fun ac w N q569 F570 S up o571 d572 => ?_)
  refine WD.last (by kernel_rfl) ?_
  have d573 := d572 _ (Disj.symm d509) d566 o230.sub
  have d574 := d572 _ (Disj.symm d510) d567 o233.sub
  have d575 := d572 _ (Disj.symm d511) d568 o236.sub
  replace o230 := o230.upF (Disj.symm d509) up
  replace o233 := o233.upF (Disj.symm d510) up
  replace o236 := o236.upF (Disj.symm d511) up
  clear up d572
  refine WD.one (i := 6) (by kernel_rfl) ?_
  refine S.stepq (i := 6) (keep := [2, 3, 19, 20, 21, 30, 31]) (m := 4) (σ' := ⟨[(2, .p 1 0), (3, .p 2 0), (19, .v (slv h.mons.length ph.mons.1)), (20, .v (I (h.mons.length : Int))), (21, .v (I (i : Int))), (30, .v (slv (acc ++ [(el h.mons i)]).length q569.1)), (31, .p 2 1)], [GT.cells h ph, Zc THost, [slv h.mem.length q231.1, slv acc.length q505.1, slv h.buf.length q234.1, slv h.iobuf.length q237.1], GT.cells (el h.mons i) (ph.mons.2 i)]⟩) .nil (by kernel_rfl) fun ac w β S hβ => ?_
  refine WD.last (by kernel_rfl) ?_
  clear hβ
  refine WD.one (i := 7) (by kernel_rfl) ?_
  refine S.stepq (i := 7) (keep := [2, 3, 19, 20, 21]) (m := 4) (σ' := ⟨[(2, .p 1 0), (3, .p 2 0), (19, .v (slv h.mons.length ph.mons.1)), (20, .v (I (h.mons.length : Int))), (21, .v (I (i : Int)))], [GT.cells h ph, Zc THost, [slv h.mem.length q231.1, slv (acc ++ [(el h.mons i)]).length q569.1, slv h.buf.length q234.1, slv h.iobuf.length q237.1], GT.cells (el h.mons i) (ph.mons.2 i)]⟩) .nil (by kernel_rfl) fun ac w β S hβ => ?_
  refine WD.last (by kernel_rfl) ?_
  clear hβ
  refine WD.done (by kernel_rfl) ?_ _
  refine S.ex fun S => ?_
  refine S.ge 6 (.cons (qp (i : Int) 1) .nil) f512 fun ac w β S => hf513.of (h.mons.length - (i + 1)) _ _ (by omega) ⟨i + 1, (acc ++ [(el h.mons i)]), q569, F570, _, _, _, rfl, ?_, ?_, S.z, o571, o230, o233, o236, (Disj.symm d573), (Disj.symm d574), (Disj.symm d575)⟩
  ·exact oz
  ·clear S; (first | (rw [take_el (by omega), hacc]; done) | (rw [take_el (by omega), hacc]; simp; done))
 refine S.gr 13 .nil [GT.val (⟨h.mem, acc, h.buf, h.iobuf⟩ : THost) (⟨q231, q505, q234, q237⟩ : PHost)] fun ac w β S => ?_
 have o576 := ow_Host (x := (⟨h.mem, acc, h.buf, h.iobuf⟩ : THost)) (p := (⟨q231, q505, q234, q237⟩ : PHost)) o230 o507 o233 o236 (Disj.symm d509) (Disj.symm d503) (Disj.symm d504) d510 d511 d502 
 exact ret1_of S (show h = (⟨h.mem, acc, h.buf, h.iobuf⟩ : THost) by clear S; (rw [hacc, take_all (by omega)]; first | done | rfl | (simp; done))) rfl o576

theorem c_impl_has (w0 : World) (k : Int) (length : Int) (pre0 : -9223372036854775808 < length) : Calls Tryz.prog 67 [I k, I length].toArray w0 (fun e w' => e = .returned (B (f_within k 0 (length - 1))) ∧ Chg NoB w0 w') := by
 refine Calls.run NoB Tryz.func67 ?_
 intro ac β S
 refine S.gd 10 .nil (decide (k ≥ 0)) (fun ac w β h1 g2 S => ?_) (fun ac w β h1 g2 S => ?_)
 ·exact S.gf 8 .nil [B (decide (k < length))] (retB (by clear S; (rw [Bool.eq_iff_iff]; simp [f_within]; omega)))
 exact S.gf 8 .nil [B false] (retB (by clear S; (rw [Bool.eq_iff_iff]; simp [f_within]; omega)))

theorem k0_impl_MonAt {p : Prop} (h : p := by clear S; (first | (unfold f_monAt; rw [if_pos (by omega)]) | (unfold f_monAt; rw [if_neg (by omega)]))) : p := h
theorem c_impl_MonAt (w0 : World) (h : THost) (ph : PHost) (hh : RD w0 h ph) (m : Int) : Calls Tryz.prog 65 [GT.val h ph, I m].toArray w0 (Ret2 NoB w0 ((f_monAt h m).1 : TMon) ((f_monAt h m).2 : Bool)) := by
 refine Calls.run NoB Tryz.func65 ?_
 intro ac β S
 have hleh_mem : h.mem.length ≤ 4194304 := LRd.le (RHost.mem (d := h) hh)
 have hleh_mons : h.mons.length ≤ 4194304 := LRd.le (RHost.mons (d := h) hh)
 have hleh_buf : h.buf.length ≤ 4194304 := LRd.le (RHost.buf (d := h) hh)
 have hleh_iobuf : h.iobuf.length ≤ 4194304 := LRd.le (RHost.iobuf (d := h) hh)
 refine S.gb 18 (.cons (Q_call fun w hw => c_impl_has w m (h.mons.length : Int) (by omega)) .nil) (!(f_within m 0 ((h.mons.length : Int) - 1))) (fun ac w β h1 S => ?_) (fun ac w β h1 S => ?_)
 ·have h2 := not_t h1
  have g3 := within_f h2
  refine S.gr 9 (.cons (Q_sem (s := Instr.build 73 [].toArray) (v := .agg [slv ([] : List TSlot).length (GT.pdflt (α := List TSlot)).1, slv ([] : List (List Int)).length (GT.pdflt (α := List (List Int))).1, slv ([] : List Bool).length (GT.pdflt (α := List Bool)).1, slv ([] : List TGuest).length (GT.pdflt (α := List TGuest)).1, slv ([] : List Int).length (GT.pdflt (α := List Int)).1, I 0, I 0, slv ([] : List TKept).length (GT.pdflt (α := List TKept)).1, I 0].toArray) (fun w => by kernel_rfl)) .nil) [GT.val (⟨([] : List TSlot), ([] : List (List Int)), ([] : List Bool), ([] : List TGuest), ([] : List Int), 0, 0, ([] : List TKept), 0⟩ : TMon) (⟨(GT.pdflt (α := List TSlot)), (GT.pdflt (α := List (List Int))), (GT.pdflt (α := List Bool)), (GT.pdflt (α := List TGuest)), (GT.pdflt (α := List Int)), (GT.pdflt (α := List TKept))⟩ : PMon), B false] fun ac w β S => ?_
  have o4 := S.nilOw (α := TSlot)
  have o5 := S.nilOw (α := List Int)
  have o6 := S.nilOw (α := Bool)
  have o7 := S.nilOw (α := TGuest)
  have o8 := S.nilOw (α := Int)
  have o9 := S.nilOw (α := TKept)
  have o10 := ow_Mon (x := (⟨([] : List TSlot), ([] : List (List Int)), ([] : List Bool), ([] : List TGuest), ([] : List Int), 0, 0, ([] : List TKept), 0⟩ : TMon)) (p := (⟨(GT.pdflt (α := List TSlot)), (GT.pdflt (α := List (List Int))), (GT.pdflt (α := List Bool)), (GT.pdflt (α := List TGuest)), (GT.pdflt (α := List Int)), (GT.pdflt (α := List TKept))⟩ : PMon)) o4 o5 o6 o7 o8 o9 (fun b _ h => False.elim h) (fun b _ h => False.elim h) (fun b _ h => False.elim h) (fun b _ h => False.elim h) (fun b _ h => False.elim h) (fun b _ h => False.elim h) (fun b _ h => False.elim h) (fun b _ h => False.elim h) (fun b _ h => False.elim h) (fun b _ h => False.elim h) (fun b _ h => False.elim h) (fun b _ h => False.elim h) (fun b _ h => False.elim h) (fun b _ h => False.elim h) (fun b _ h => False.elim h) (show In64 0 from ⟨by decide, by decide⟩) (show In64 0 from ⟨by decide, by decide⟩) (show In64 0 from ⟨by decide, by decide⟩)
  exact ret2_of (p' := ()) S (show (f_monAt h m).1 = (⟨([] : List TSlot), ([] : List (List Int)), ([] : List Bool), ([] : List TGuest), ([] : List Int), 0, 0, ([] : List TKept), 0⟩ : TMon) from k0_impl_MonAt) (show (f_monAt h m).2 = false from k0_impl_MonAt) rfl rfl o10 trivial
 have h11 := not_f h1
 have g12 := within_t h11
 refine S.go 10 (.cons (qt (RHost.mons (d := h) (S.arg hh)) m Tryz.underlying28) (.cons (qs (RHost.mons (d := h) (S.arg hh)) 73 m.toNat) .nil)) fun ac w β S => S.K1 (r := (el h.mons m.toNat)) (d := 18) (c_impl_copyMon w (el h.mons m.toNat) (ph.mons.2 m.toNat) (S.rd (LRd.el (RHost.mons (d := h) (S.arg hh)) m.toNat (by omega)))) fun ac w N q13 F14 S up o15 d16 => ?_
 clear up d16
 have i32 : In64 (el h.mons m.toNat).pend := RMon.pend (d := (el h.mons m.toNat)) o15.rn
 have i33 : In64 (el h.mons m.toNat).traps := RMon.traps (d := (el h.mons m.toNat)) o15.rn
 have i37 : In64 (el h.mons m.toNat).owned := RMon.owned (d := (el h.mons m.toNat)) o15.rn
 obtain ⟨F17, F20, F23, F26, F29, F34, o18, o21, o24, o27, o30, o35, s19, s22, s25, s28, s31, s36, d38, d39, d40, d41, d42, d43, d44, d45, d46, d47, d48, d49, d50, d51, d52⟩ := sp_Mon o15
 refine S.gr 5 .nil [GT.val (el h.mons m.toNat) q13, B true] fun ac w β S => ?_
 have o53 := ow_Mon (x := (el h.mons m.toNat)) (p := q13) o18 o21 o24 o27 o30 o35 d38 d39 d40 d41 d42 d43 d44 d45 d46 d47 d48 d49 d50 d51 d52 i32 i33 i37
 exact ret2_of (p' := ()) S (show (f_monAt h m).1 = (el h.mons m.toNat) from k0_impl_MonAt) (show (f_monAt h m).2 = true from k0_impl_MonAt) rfl rfl o53 trivial

theorem k0_impl_within {p : Prop} (h : p := by clear S; first | rfl | (simp [f_within, *]; done) | (simp [f_within, *]; omega) | (simp_all [f_within]; done) | (simp_all [f_within]; omega)) : p := h
theorem c_impl_within (w0 : World) (n : Int) (a : Int) (b : Int) : Calls Tryz.prog 43 [I n, I a, I b].toArray w0 (fun e w' => e = .returned (B (f_within n a b)) ∧ Chg NoB w0 w') := by
 refine Calls.run NoB Tryz.func43 ?_
 intro ac β S
 refine S.gd 11 .nil (decide (n ≥ a)) (fun ac w β h1 g2 S => ?_) (fun ac w β h1 g2 S => ?_)
 ·exact S.gf 8 .nil [B (decide (n ≤ b))] (retB k0_impl_within)
 exact S.gf 8 .nil [B false] (retB k0_impl_within)

theorem c_impl_PageOk (w0 : World) (cells : List Int) (pcells : LP Int) (hcells : RD w0 cells pcells) : Calls Tryz.prog 150 [slv cells.length pcells.1].toArray w0 (fun e w' => e = .returned (B (f_pageOk cells)) ∧ Chg NoB w0 w') := by
 refine Calls.run NoB Tryz.func150 ?_
 intro ac β S
 have hlecells : cells.length ≤ 4194304 := LRd.le hcells
 refine S.go 14 .nil fun ac w β S => ?_
 refine lp (fun mm ac w => ∃ (k : Nat)  (u : _) (N : _) (β : _), mm = cells.length - k ∧ (k ≤ cells.length) ∧ ((cells.take k).all (fun v => f_within v 0 99) = true) ∧ St Tryz.prog Tryz.f150.ntmps w0 NoB u N β ⟨[(0, .v (slv cells.length pcells.1)), (5, .v (slv cells.length pcells.1)), (6, .v (I (cells.length : Int))), (7, .v (I (k : Int)))], []⟩ ac w) _ ⟨0, _, _, _, rfl, o0, (by simp), S.z⟩ ?_
 clear S
 rintro f1 mm hf2 ac w ⟨k, u, N, β, rfl, hk, he, S⟩
 refine S.rs fun S => ?_
 refine S.gd 6 .nil (decide ((k : Int) < (cells.length : Int))) (fun ac w β h3 g4 S => ?_) (fun ac w β h3 g4 S => ?_)
 ·refine S.gb 19 (.cons (qn (S.arg hcells) k Tryz.underlying61) (.cons (qx (S.arg hcells) 3 k) (.cons (Q_call fun w hw => c_impl_within w (el cells k) 0 99) .nil))) (!(f_within (el cells k) 0 99)) (fun ac w β h5 S => ?_) (fun ac w β h5 S => ?_)
  ·have h6 := not_t h5
   have g7 := within_f h6
   exact S.gf 7 .nil [B false] (retB (by clear S; (first | (unfold f_pageOk; rw [all_bad (k := k) (by omega) (by first | assumption | simp_all)]; simp; done) | (unfold f_pageOk; rw [all_end (by omega) he]; simp; done) | (unfold f_pageOk; rw [all_end (by omega) he]; simp [*]; done) | (unfold f_pageOk; rw [all_end (by omega) he]; simp; omega))))
  have h8 := not_f h5
  have g9 := within_t h8
  refine S.ge 8 (.cons (qp (k : Int) 1) .nil) f1 fun ac w β S => hf2.of (cells.length - (k + 1)) _ _ (by omega) ⟨k + 1, _, _, _, rfl, ?_, ?_, S.z⟩
  ·exact oz
  ·clear S; exact all_step (by omega) he (by first | assumption | (simp only [f_slotOk, f_within] at *; simp_all; done) | (simp_all; done) | (simp_all; omega))
 exact S.gf 15 .nil [B ((cells.length : Int) == 4)] (retB (by clear S; (first | (unfold f_pageOk; rw [all_end (by omega) he]; simp; done) | (unfold f_pageOk; rw [all_end (by omega) he]; simp [*]; done) | (unfold f_pageOk; rw [all_end (by omega) he]; simp; omega) | (unfold f_pageOk; rw [all_bad (k := k) (by omega) (by first | assumption | simp_all)]; simp; done))))

theorem c_impl_MemOk (w0 : World) (m : List (List Int)) (pm : LP (List Int)) (hm : RD w0 m pm) (pages : Int) : Calls Tryz.prog 113 [slv m.length pm.1, I pages].toArray w0 (fun e w' => e = .returned (B (f_memOk m pages)) ∧ Chg NoB w0 w') := by
 refine Calls.run NoB Tryz.func113 ?_
 intro ac β S
 have hlem : m.length ≤ 4194304 := LRd.le hm
 refine S.go 14 .nil fun ac w β S => ?_
 refine lp (fun mm ac w => ∃ (k : Nat)  (u : _) (N : _) (β : _), mm = m.length - k ∧ (k ≤ m.length) ∧ ((m.take k).all f_pageOk = true) ∧ St Tryz.prog Tryz.f113.ntmps w0 NoB u N β ⟨[(0, .v (slv m.length pm.1)), (1, .v (I pages)), (7, .v (slv m.length pm.1)), (8, .v (I (m.length : Int))), (9, .v (I (k : Int)))], []⟩ ac w) _ ⟨0, _, _, _, rfl, o0, (by simp), S.z⟩ ?_
 clear S
 rintro f1 mm hf2 ac w ⟨k, u, N, β, rfl, hk, he, S⟩
 refine S.rs fun S => ?_
 refine S.gd 6 .nil (decide ((k : Int) < (m.length : Int))) (fun ac w β h3 g4 S => ?_) (fun ac w β h3 g4 S => ?_)
 ·refine S.gb 19 (.cons (qn (S.arg hm) k Tryz.underlying22) (.cons (qx (S.arg hm) 61 k) (.cons (Q_call fun w hw => c_impl_PageOk w (el m k) (pm.2 k) (rd_of (LRd.el (S.arg hm) k (by omega)) hw)) .nil))) (!(f_pageOk (el m k))) (fun ac w β h5 S => ?_) (fun ac w β h5 S => ?_)
  ·have h6 := not_t h5
   exact S.gf 7 .nil [B false] (retB (by clear S; (first | (unfold f_memOk; rw [all_bad (k := k) (by omega) (by first | assumption | simp_all)]; simp; done) | (unfold f_memOk; rw [all_end (by omega) he]; simp; done) | (unfold f_memOk; rw [all_end (by omega) he]; simp [*]; done) | (unfold f_memOk; rw [all_end (by omega) he]; simp; omega))))
  have h7 := not_f h5
  refine S.ge 8 (.cons (qp (k : Int) 1) .nil) f1 fun ac w β S => hf2.of (m.length - (k + 1)) _ _ (by omega) ⟨k + 1, _, _, _, rfl, ?_, ?_, S.z⟩
  ·exact oz
  ·clear S; exact all_step (by omega) he (by first | assumption | (simp only [f_slotOk, f_within] at *; simp_all; done) | (simp_all; done) | (simp_all; omega))
 exact S.gf 16 .nil [B ((m.length : Int) == pages)] (retB (by clear S; (first | (unfold f_memOk; rw [all_end (by omega) he]; simp; done) | (unfold f_memOk; rw [all_end (by omega) he]; simp [*]; done) | (unfold f_memOk; rw [all_end (by omega) he]; simp; omega) | (unfold f_memOk; rw [all_bad (k := k) (by omega) (by first | assumption | simp_all)]; simp; done))))

theorem k0_impl_BufferOk {p : Prop} (h : p := by clear S; (first | (unfold f_bufferOk; rw [show b.length = i by omega, he]; first | rfl | (simp [*]; done) | (simp; omega) | (rw [Bool.eq_iff_iff]; simp; omega)) | (unfold f_bufferOk; rw [rng_bad (k := i) (by omega) (rng_bad (k := k) (by omega) (by simp_all <;> fail))]; rfl))) : p := h
theorem c_impl_BufferOk (w0 : World) (b : List TEntry) (pb : LP TEntry) (hb : RD w0 b pb) : Calls Tryz.prog 114 [slv b.length pb.1].toArray w0 (fun e w' => e = .returned (B (f_bufferOk b)) ∧ Chg NoB w0 w') := by
 refine Calls.run NoB Tryz.func114 ?_
 intro ac β S
 have hleb : b.length ≤ 4194304 := LRd.le hb
 refine S.go 14 .nil fun ac w β S => ?_
 refine lp (fun mm ac w => ∃ (i : Nat)  (u : _) (N : _) (β : _), mm = b.length - i ∧ (i ≤ b.length) ∧ ((List.range i).all (fun i => (List.range i).all fun k => !(decide ((el b i).tag = (el b k).tag) && decide ((el b i).page = (el b k).page))) = true) ∧ St Tryz.prog Tryz.f114.ntmps w0 NoB u N β ⟨[(0, .v (slv b.length pb.1)), (7, .v (slv b.length pb.1)), (8, .v (I (b.length : Int))), (9, .v (I (i : Int)))], []⟩ ac w) _ ⟨0, _, _, _, rfl, o0, (by rfl), S.z⟩ ?_
 clear S
 rintro f1 mm hf2 ac w ⟨i, u, N, β, rfl, hi, he, S⟩
 refine S.rs fun S => ?_
 refine S.gd 6 .nil (decide ((i : Int) < (b.length : Int))) (fun ac w β h3 g4 S => ?_) (fun ac w β h3 g4 S => ?_)
 ·have l5 : (b.take i).length = i - 0 := by first | (simp; done) | (simp; omega)
  refine S.go 25 (.cons (qn (S.arg hb) i Tryz.underlying29) (.cons (qs (S.arg hb) 87 i) (.cons (Q_slice (S.arg hb) (l := b.length) (a := 0) (b := i) rfl (.inl ⟨rfl, rfl⟩) (.inr rfl) (by omega) (by omega) Tryz.underlying29 (by kernel_rfl)) .nil))) fun ac w β S => ?_
  refine lp (fun mm ac w => ∃ (k : Nat)  (u : _) (N : _) (β : _), mm = i - k ∧ (k ≤ i) ∧ ((List.range k).all (fun k => !(decide ((el b i).tag = (el b k).tag) && decide ((el b i).page = (el b k).page))) = true) ∧ St Tryz.prog Tryz.f114.ntmps w0 NoB u N β ⟨[(0, .v (slv b.length pb.1)), (4, .p 0 0), (7, .v (slv b.length pb.1)), (8, .v (I (b.length : Int))), (9, .v (I (i : Int))), (16, .v (slv i (pb.1.sl 0 4))), (17, .v (I (i : Int))), (18, .v (I (k : Int)))], [GT.cells (el b i) ()]⟩ ac w) _ ⟨0, _, _, _, rfl, o0, (by rfl), S.z⟩ ?_
  clear S
  rintro f6 mm hf7 ac w ⟨k, u, N, β, rfl, hk, he2, S⟩
  refine S.rs fun S => ?_
  have eltk : k < i → el (b.take i) k = el b k := fun h => el_take h
  refine S.gd 6 .nil (decide ((k : Int) < (i : Int))) (fun ac w β h8 g9 S => ?_) (fun ac w β h8 g9 S => ?_)
  ·refine S.gd 21 (.cons (Q_idx (show GT.rd KK _ _ (b.take i) ((pb.1.sl 0 4, fun i => pb.2 (0 + i)) : LP TEntry) from rd_sl (S.arg hb) (a := 0) (b := i) (by omega) (by omega)) (l := i) (k := k) (i := (k : Int)) (by omega) rfl (by omega) Tryz.underlying29 (by kernel_rfl)) (.cons (qs (show GT.rd KK _ _ (b.take i) ((pb.1.sl 0 4, fun i => pb.2 (0 + i)) : LP TEntry) from rd_sl (S.arg hb) (a := 0) (b := i) (by omega) (by omega)) 87 k) .nil)) ((el b i).tag == (el (b.take i) k).tag) (fun ac w β h10 g11 S => ?_) (fun ac w β h10 g11 S => ?_)
   ·refine S.gd 8 .nil ((el b i).page == (el (b.take i) k).page) (fun ac w β h12 g13 S => ?_) (fun ac w β h12 g13 S => ?_)
    ·exact S.gf 7 .nil [B false] (retB k0_impl_BufferOk)
    refine S.ge 8 (.cons (qp (k : Int) 1) .nil) f6 fun ac w β S => hf7.of (i - (k + 1)) _ _ (by omega) ⟨k + 1, _, _, _, rfl, ?_, ?_, S.z⟩
    ·exact oz
    ·clear S; (refine rng_step he2 ?_; simp_all)
   refine S.ge 16 (.cons (qp (k : Int) 1) .nil) f6 fun ac w β S => hf7.of (i - (k + 1)) _ _ (by omega) ⟨k + 1, _, _, _, rfl, ?_, ?_, S.z⟩
   ·exact oz
   ·clear S; (refine rng_step he2 ?_; simp_all)
  refine S.ge 11 (.cons (qp (i : Int) 1) .nil) f1 fun ac w β S => hf2.of (b.length - (i + 1)) _ _ (by omega) ⟨i + 1, _, _, _, rfl, ?_, ?_, S.z⟩
  ·exact oz
  ·clear S; (refine rng_step he ?_); (have e : k = i := (by omega)); rw [e] at he2; exact he2
 exact S.gf 15 .nil [B (decide ((b.length : Int) ≤ 6))] (retB k0_impl_BufferOk)

theorem c_impl_NoSlot (w0 : World)  : Calls Tryz.prog 118 [].toArray w0 (fun e w' => e = .returned (GT.val (⟨-1, 0⟩ : TSlot) ()) ∧ Chg NoB w0 w') := by
 refine Calls.run NoB Tryz.func118 ?_
 intro ac β S
 exact S.gf 12 (.cons (Q_sem (s := Instr.build 92 [(0, I (-1))].toArray) (v := .agg [I (-1), I 0].toArray) (fun w => by kernel_rfl)) .nil) [GT.val (⟨(-1), 0⟩ : TSlot) ()] (retV (p := ()) (by clear S; first | rfl | (simp [id, *]; done) | (simp [id, *]; omega) | (simp_all [id]; done) | (simp_all [id]; omega)))

theorem k0_impl_SlotOk {p : Prop} (h : p := by clear S; first | rfl | (simp [f_slotOk, *]; done) | (simp [f_slotOk, *]; omega) | (simp_all [f_slotOk]; done) | (simp_all [f_slotOk]; omega)) : p := h
theorem c_impl_SlotOk (w0 : World) (s : TSlot) (pages : Int) (pre0 : 0 ≤ pages) (pre1 : pages ≤ 1000) : Calls Tryz.prog 177 [GT.val s (), I pages].toArray w0 (fun e w' => e = .returned (B (f_slotOk s pages)) ∧ Chg NoB w0 w') := by
 refine Calls.run NoB Tryz.func177 ?_
 intro ac β S
 refine S.go 7 .nil fun ac w β S => ?_
 refine drw ?_
 rcases Bool.eq_false_or_eq_true (decide (s = (⟨-1, 0⟩ : TSlot))) with h1 | h1
 ·refine S.drawnO [(3, true)] (keep := [4]) (m := 0) (σ' := ⟨[(4, .v (B true))], []⟩) (.cons (Q_call fun w hw => c_impl_NoSlot w ) (.cons (Eq_eq_Slot (t := 92) s (⟨-1, 0⟩ : TSlot) (by kernel_rfl)) .nil)) rfl (by kernel_rfl) (by kernel_rfl) (.cons h1 .nil) fun ac w S => ?_
  refine S.ex fun S => ?_
  exact S.gf 2 .nil [B true] (retB k0_impl_SlotOk)
 ·rcases Bool.eq_false_or_eq_true (decide (pages > 0)) with h2 | h2
  ·have g3 := of_decide_eq_true h2
   rcases Bool.eq_false_or_eq_true (f_within s.page 0 (pages - 1)) with h4 | h4
   ·have g5 := within_t h4
    refine S.drawnO [(3, false), (6, true), (13, true)] (keep := [4]) (m := 0) (σ' := ⟨[(4, .v (B (f_within s.rights 1 3)))], []⟩) (.cons (Q_call fun w hw => c_impl_NoSlot w ) (.cons (Eq_eq_Slot (t := 92) s (⟨-1, 0⟩ : TSlot) (by kernel_rfl)) (.cons (qm pages 1) (.cons (Q_call fun w hw => c_impl_within w s.page 0 (pages - 1)) (.cons (Q_call fun w hw => c_impl_within w s.rights 1 3) .nil))))) rfl (by kernel_rfl) (by kernel_rfl) (.cons h1 (.cons h2 (.cons h4 .nil))) fun ac w S => ?_
    refine S.ex fun S => ?_
    exact S.gf 2 .nil [B (f_within s.rights 1 3)] (retB k0_impl_SlotOk)
   ·have g6 := within_f h4
    refine S.drawnO [(3, false), (6, true), (13, false)] (keep := [4]) (m := 0) (σ' := ⟨[(4, .v (B false))], []⟩) (.cons (Q_call fun w hw => c_impl_NoSlot w ) (.cons (Eq_eq_Slot (t := 92) s (⟨-1, 0⟩ : TSlot) (by kernel_rfl)) (.cons (qm pages 1) (.cons (Q_call fun w hw => c_impl_within w s.page 0 (pages - 1)) .nil)))) rfl (by kernel_rfl) (by kernel_rfl) (.cons h1 (.cons h2 (.cons h4 .nil))) fun ac w S => ?_
    refine S.ex fun S => ?_
    exact S.gf 2 .nil [B false] (retB k0_impl_SlotOk)
  ·have g7 := of_decide_eq_false h2
   refine S.drawnO [(3, false), (6, false)] (keep := [4]) (m := 0) (σ' := ⟨[(4, .v (B false))], []⟩) (.cons (Q_call fun w hw => c_impl_NoSlot w ) (.cons (Eq_eq_Slot (t := 92) s (⟨-1, 0⟩ : TSlot) (by kernel_rfl)) .nil)) rfl (by kernel_rfl) (by kernel_rfl) (.cons h1 (.cons h2 .nil)) fun ac w S => ?_
   refine S.ex fun S => ?_
   exact S.gf 2 .nil [B false] (retB k0_impl_SlotOk)

theorem c_impl_TableOk (w0 : World) (t : List TSlot) (pt : LP TSlot) (ht : RD w0 t pt) (size : Int) (pages : Int) (pre0 : 0 ≤ pages) (pre1 : pages ≤ 1000) : Calls Tryz.prog 151 [slv t.length pt.1, I size, I pages].toArray w0 (fun e w' => e = .returned (B (f_tableOk t size pages)) ∧ Chg NoB w0 w') := by
 refine Calls.run NoB Tryz.func151 ?_
 intro ac β S
 have hlet : t.length ≤ 4194304 := LRd.le ht
 refine S.go 14 .nil fun ac w β S => ?_
 refine lp (fun mm ac w => ∃ (k : Nat)  (u : _) (N : _) (β : _), mm = t.length - k ∧ (k ≤ t.length) ∧ ((t.take k).all (fun s => f_slotOk s pages) = true) ∧ St Tryz.prog Tryz.f151.ntmps w0 NoB u N β ⟨[(0, .v (slv t.length pt.1)), (1, .v (I size)), (2, .v (I pages)), (9, .v (slv t.length pt.1)), (10, .v (I (t.length : Int))), (11, .v (I (k : Int)))], []⟩ ac w) _ ⟨0, _, _, _, rfl, o0, (by simp), S.z⟩ ?_
 clear S
 rintro f1 mm hf2 ac w ⟨k, u, N, β, rfl, hk, he, S⟩
 refine S.rs fun S => ?_
 refine S.gd 6 .nil (decide ((k : Int) < (t.length : Int))) (fun ac w β h3 g4 S => ?_) (fun ac w β h3 g4 S => ?_)
 ·refine S.gb 21 (.cons (qn (S.arg ht) k Tryz.underlying69) (.cons (qs (S.arg ht) 92 k) (.cons (Q_call fun w hw => c_impl_SlotOk w (el t k) pages (by omega) (by omega)) .nil))) (!(f_slotOk (el t k) pages)) (fun ac w β h5 S => ?_) (fun ac w β h5 S => ?_)
  ·have h6 := not_t h5
   exact S.gf 7 .nil [B false] (retB (by clear S; (first | (unfold f_tableOk; rw [all_bad (k := k) (by omega) (by first | assumption | simp_all)]; simp; done) | (unfold f_tableOk; rw [all_end (by omega) he]; simp; done) | (unfold f_tableOk; rw [all_end (by omega) he]; simp [*]; done) | (unfold f_tableOk; rw [all_end (by omega) he]; simp; omega))))
  have h7 := not_f h5
  refine S.ge 8 (.cons (qp (k : Int) 1) .nil) f1 fun ac w β S => hf2.of (t.length - (k + 1)) _ _ (by omega) ⟨k + 1, _, _, _, rfl, ?_, ?_, S.z⟩
  ·exact oz
  ·clear S; exact all_step (by omega) he (by first | assumption | (simp only [f_slotOk, f_within] at *; simp_all; done) | (simp_all; done) | (simp_all; omega))
 exact S.gf 16 .nil [B ((t.length : Int) == size)] (retB (by clear S; (first | (unfold f_tableOk; rw [all_end (by omega) he]; simp; done) | (unfold f_tableOk; rw [all_end (by omega) he]; simp [*]; done) | (unfold f_tableOk; rw [all_end (by omega) he]; simp; omega) | (unfold f_tableOk; rw [all_bad (k := k) (by omega) (by first | assumption | simp_all)]; simp; done))))

theorem c_impl_PendOk (w0 : World) (p : Int) : Calls Tryz.prog 152 [I p].toArray w0 (fun e w' => e = .returned (B (f_within p 0 255)) ∧ Chg NoB w0 w') := by
 refine Calls.run NoB Tryz.func152 ?_
 intro ac β S
 exact S.gf 13 (.cons (Q_call fun w hw => c_impl_within w p 0 255) .nil) [B (f_within p 0 255)] (retB (by clear S; first | rfl | (simp [f_within, *]; done) | (simp [f_within, *]; omega) | (simp_all [f_within]; done) | (simp_all [f_within]; omega)))

end Go.Proofs.YtomgmpbipaldaaaGreat
