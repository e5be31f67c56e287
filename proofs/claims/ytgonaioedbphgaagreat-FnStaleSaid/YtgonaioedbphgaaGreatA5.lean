/- The walks: what each function that the laws reach computes (part 2). -/
import Derived.Test.YtgonaioedbphgaaGreatA4
import Derived.Test.YtgonaioedbphgaaGreatProg
import Derived.KernelRfl
namespace Go.Proofs.YtgonaioedbphgaaGreat
open Go
set_option linter.unusedVariables false
set_option linter.unusedSimpArgs false
set_option maxRecDepth 100000
set_option maxHeartbeats 2000000

theorem k0_impl_MonAt {p : Prop} (h : p := by clear S; (first | (unfold f_monAt; rw [if_pos (by omega)]) | (unfold f_monAt; rw [if_neg (by omega)]))) : p := h
theorem c_impl_MonAt (w0 : World) (h : THost) (ph : PHost) (hh : RD w0 h ph) (m : Int) : Calls Tryz.prog 74 [GT.val h ph, I m].toArray w0 (Ret2 NoB w0 ((f_monAt h m).1 : TMon) ((f_monAt h m).2 : Bool)) := by
 refine Calls.run NoB Tryz.func74 ?_
 intro ac β S
 have hleh_mem : h.mem.length ≤ 4194304 := LRd.le (RHost.mem (d := h) hh)
 have hleh_mons : h.mons.length ≤ 4194304 := LRd.le (RHost.mons (d := h) hh)
 have hleh_buf : h.buf.length ≤ 4194304 := LRd.le (RHost.buf (d := h) hh)
 have hleh_iobuf : h.iobuf.length ≤ 4194304 := LRd.le (RHost.iobuf (d := h) hh)
 refine S.gb 18 (.cons (Q_call fun w hw => c_impl_has w m (h.mons.length : Int) (by omega)) .nil) (!(f_within m 0 ((h.mons.length : Int) - 1))) (fun ac w β h1 S => ?_) (fun ac w β h1 S => ?_)
 ·have h2 := not_t h1
  have g3 := within_f h2
  refine S.gr 9 (.cons (Q_sem (s := Instr.build 99 [].toArray) (v := .agg [slv ([] : List TSlot).length (GT.pdflt (α := List TSlot)).1, slv ([] : List (List Int)).length (GT.pdflt (α := List (List Int))).1, slv ([] : List Bool).length (GT.pdflt (α := List Bool)).1, slv ([] : List TGuest).length (GT.pdflt (α := List TGuest)).1, slv ([] : List Int).length (GT.pdflt (α := List Int)).1, I 0, I 0, slv ([] : List TKept).length (GT.pdflt (α := List TKept)).1, I 0].toArray) (fun w => by kernel_rfl)) .nil) [GT.val (⟨([] : List TSlot), ([] : List (List Int)), ([] : List Bool), ([] : List TGuest), ([] : List Int), 0, 0, ([] : List TKept), 0⟩ : TMon) (⟨(GT.pdflt (α := List TSlot)), (GT.pdflt (α := List (List Int))), (GT.pdflt (α := List Bool)), (GT.pdflt (α := List TGuest)), (GT.pdflt (α := List Int)), (GT.pdflt (α := List TKept))⟩ : PMon), B false] fun ac w β S => ?_
  have o4 := S.nilOw (α := TSlot)
  have o5 := S.nilOw (α := List Int)
  have o6 := S.nilOw (α := Bool)
  have o7 := S.nilOw (α := TGuest)
  have o8 := S.nilOw (α := Int)
  have o9 := S.nilOw (α := TKept)
  have o10 := ow_Mon (x := (⟨([] : List TSlot), ([] : List (List Int)), ([] : List Bool), ([] : List TGuest), ([] : List Int), 0, 0, ([] : List TKept), 0⟩ : TMon)) (p := (⟨(GT.pdflt (α := List TSlot)), (GT.pdflt (α := List (List Int))), (GT.pdflt (α := List Bool)), (GT.pdflt (α := List TGuest)), (GT.pdflt (α := List Int)), (GT.pdflt (α := List TKept))⟩ : PMon)) o4 o5 o6 o7 o8 o9 (fun b _ h => False.elim h) (fun b _ h => False.elim h) (fun b _ h => False.elim h) (fun b _ h => False.elim h) (fun b _ h => False.elim h) (fun b _ h => False.elim h) (fun b _ h => False.elim h) (fun b _ h => False.elim h) (fun b _ h => False.elim h) (fun b _ h => False.elim h) (fun b _ h => False.elim h) (fun b _ h => False.elim h) (fun b _ h => False.elim h) (fun b _ h => False.elim h) (fun b _ h => False.elim h) (show In64 0 from ⟨by decide, by decide⟩) (show In64 0 from ⟨by decide, by decide⟩) (show In64 0 from ⟨by decide, by decide⟩)
  exact ret2_of (p' := ()) S (show (f_monAt h m).1 = (⟨([] : List TSlot), ([] : List (List Int)), ([] : List Bool), ([] : List TGuest), ([] : List Int), 0, 0, ([] : List TKept), 0⟩ : TMon) from k0_impl_MonAt) (show (f_monAt h m).2 = false from k0_impl_MonAt) rfl rfl o10 trivial
 have h11 := not_f h1
 have g12 := within_t h11
 refine S.go 10 (.cons (qt (RHost.mons (d := h) (S.arg hh)) m Tryz.underlying57) (.cons (qs (RHost.mons (d := h) (S.arg hh)) 99 m.toNat) .nil)) fun ac w β S => S.K1 (r := (el h.mons m.toNat)) (d := 18) (c_impl_copyMon w (el h.mons m.toNat) (ph.mons.2 m.toNat) (S.rd (LRd.el (RHost.mons (d := h) (S.arg hh)) m.toNat (by omega)))) fun ac w N q13 F14 S up o15 d16 => ?_
 clear up d16
 refine S.gr 5 .nil [GT.val (el h.mons m.toNat) q13, B true] fun ac w β S => ?_
 exact ret2_of (p' := ()) S (show (f_monAt h m).1 = (el h.mons m.toNat) from k0_impl_MonAt) (show (f_monAt h m).2 = true from k0_impl_MonAt) rfl rfl o15 trivial

theorem k0_impl_PageAt {p : Prop} (h : p := by clear S; (first | (unfold f_pageAt; rw [if_pos (by omega)]; done) | (unfold f_pageAt; rw [if_pos (by omega)]; first | rfl | (simp; done)) | (unfold f_pageAt; rw [if_neg (by omega)]; done) | (unfold f_pageAt; rw [if_neg (by omega)]; first | rfl | (simp; done)))) : p := h
theorem c_impl_PageAt (w0 : World) (m : List (List Int)) (pm : LP (List Int)) (hm : RD w0 m pm) (page : Int) : Calls Tryz.prog 191 [slv m.length pm.1, I page].toArray w0 (Ret1 NoB w0 (f_pageAt m page : List Int)) := by
 refine Calls.run NoB Tryz.func191 ?_
 intro ac β S
 have hlem : m.length ≤ 4194304 := LRd.le hm
 refine S.gb 15 (.cons (Q_call fun w hw => c_impl_has w page (m.length : Int) (by omega)) .nil) (!(f_within page 0 ((m.length : Int) - 1))) (fun ac w β h1 S => ?_) (fun ac w β h1 S => ?_)
 ·have h2 := not_t h1
  have g3 := within_f h2
  refine S.go 3 .nil fun ac w β S => S.Mk (α := Int) (m := 4) (by' := 8) (d := 10) (by omega) (show 4 ≤ 4194304 by omega) fun ac w N q4 F5 S up o6 d7 => ?_
  clear up d7
  refine S.gr 4 .nil [slv 4 q4.1] fun ac w β S => ?_
  exact ret1_of S (show f_pageAt m page = (List.replicate 4 (GT.dflt : Int)) from k0_impl_PageAt) (by rw [show 4 = (List.replicate 4 (GT.dflt : Int)).length from (by simp)]; rfl) o6
 have h8 := not_f h1
 have g9 := within_t h8
 refine S.go 9 (.cons (qt (S.arg hm) page Tryz.underlying24) (.cons (qx (S.arg hm) 26 page.toNat) .nil)) fun ac w β S => S.K1 (r := (el m page.toNat)) (d := 15) (c_impl_copyInts w (el m page.toNat) (pm.2 page.toNat) (S.rd (LRd.el (S.arg hm) page.toNat (by omega)))) fun ac w N q10 F11 S up o12 d13 => ?_
 clear up d13
 refine S.gr 4 .nil [slv (el m page.toNat).length q10.1] fun ac w β S => ?_
 exact ret1_of S (show f_pageAt m page = (el m page.toNat) from k0_impl_PageAt) rfl o12

theorem k0_impl_PageOf {p : Prop} (h : p := by clear S; (unfold f_pageOf; (repeat' split) <;> first | rfl | (exfalso; omega) | (exfalso; simp_all; done) | (exfalso; simp_all; omega))) : p := h
theorem c_impl_PageOf (w0 : World) (h : THost) (ph : PHost) (hh : RD w0 h ph) (m : Int) (page : Int) : Calls Tryz.prog 156 [GT.val h ph, I m, I page].toArray w0 (Ret1 NoB w0 (f_pageOf h m page : List Int)) := by
 refine Calls.run NoB Tryz.func156 ?_
 intro ac β S
 have hleh_mem : h.mem.length ≤ 4194304 := LRd.le (RHost.mem (d := h) hh)
 have hleh_mons : h.mons.length ≤ 4194304 := LRd.le (RHost.mons (d := h) hh)
 have hleh_buf : h.buf.length ≤ 4194304 := LRd.le (RHost.buf (d := h) hh)
 have hleh_iobuf : h.iobuf.length ≤ 4194304 := LRd.le (RHost.iobuf (d := h) hh)
 refine S.gb 16 (.cons (Q_call fun w hw => c_impl_has w m (h.mons.length : Int) (by omega)) .nil) (!(f_within m 0 ((h.mons.length : Int) - 1))) (fun ac w β h1 S => ?_) (fun ac w β h1 S => ?_)
 ·have h2 := not_t h1
  have g3 := within_f h2
  refine S.go 9 .nil fun ac w β S => S.Mk (α := Int) (m := 4) (by' := 8) (d := 20) (by omega) (show 4 ≤ 4194304 by omega) fun ac w N q4 F5 S up o6 d7 => ?_
  clear up d7
  refine S.gr 4 .nil [slv 4 q4.1] fun ac w β S => ?_
  exact ret1_of S (show f_pageOf h m page = (List.replicate 4 (GT.dflt : Int)) from k0_impl_PageOf) (by rw [show 4 = (List.replicate 4 (GT.dflt : Int)).length from (by simp)]; rfl) o6
 have h8 := not_f h1
 have g9 := within_t h8
 refine S.gb 6 (.cons (Q_call fun w hw => c_impl_has w page 8 (by omega)) .nil) (!(f_within page 0 (8 - 1))) (fun ac w β h10 S => ?_) (fun ac w β h10 S => ?_)
 ·have h11 := not_t h10
  have g12 := within_f h11
  refine S.go 3 .nil fun ac w β S => S.Mk (α := Int) (m := 4) (by' := 8) (d := 20) (by omega) (show 4 ≤ 4194304 by omega) fun ac w N q13 F14 S up o15 d16 => ?_
  clear up d16
  refine S.gr 4 .nil [slv 4 q13.1] fun ac w β S => ?_
  exact ret1_of S (show f_pageOf h m page = (List.replicate 4 (GT.dflt : Int)) from k0_impl_PageOf) (by rw [show 4 = (List.replicate 4 (GT.dflt : Int)).length from (by simp)]; rfl) o15
 have h17 := not_f h10
 have g18 := within_t h17
 refine S.gd 32 (.cons (qt (RHost.mons (d := h) (S.arg hh)) m Tryz.underlying57) (.cons (qs (RHost.mons (d := h) (S.arg hh)) 99 m.toNat) (.cons (Q_call fun w hw => c_impl_SlotAt w (el h.mons m.toNat).outer (ph.mons.2 m.toNat).outer (rd_of (RMon.outer (d := (el h.mons m.toNat)) (LRd.el (RHost.mons (d := h) (S.arg hh)) m.toNat (by omega))) hw) page) .nil))) ((f_slotAt (el h.mons m.toNat).outer page).page != (-1)) (fun ac w β h19 g20 S => ?_) (fun ac w β h19 g20 S => ?_)
 ·refine S.go 7 .nil fun ac w β S => S.K1 (r := f_pageAt h.mem (f_slotAt (el h.mons m.toNat).outer page).page) (d := 37) (c_impl_PageAt w h.mem ph.mem (S.rd (RHost.mem (d := h) (S.arg hh))) (f_slotAt (el h.mons m.toNat).outer page).page) fun ac w N q21 F22 S up o23 d24 => ?_
  clear up d24
  refine S.gr 4 .nil [slv (f_pageAt h.mem (f_slotAt (el h.mons m.toNat).outer page).page).length q21.1] fun ac w β S => ?_
  exact ret1_of S (show f_pageOf h m page = (f_pageAt h.mem (f_slotAt (el h.mons m.toNat).outer page).page) from k0_impl_PageOf) rfl o23
 refine S.go 8 .nil fun ac w β S => S.K1 (r := f_pageAt (el h.mons m.toNat).out page) (d := 41) (c_impl_PageAt w (el h.mons m.toNat).out (ph.mons.2 m.toNat).out (S.rd (RMon.out (d := (el h.mons m.toNat)) (LRd.el (RHost.mons (d := h) (S.arg hh)) m.toNat (by omega)))) page) fun ac w N q25 F26 S up o27 d28 => ?_
 clear up d28
 refine S.gr 4 .nil [slv (f_pageAt (el h.mons m.toNat).out page).length q25.1] fun ac w β S => ?_
 exact ret1_of S (show f_pageOf h m page = (f_pageAt (el h.mons m.toNat).out page) from k0_impl_PageOf) rfl o27

theorem k0_impl_SeenAs {p : Prop} (h : p := by clear S; (first | (unfold f_seenAs; rw [if_neg (monAt_f (by assumption))]; done) | (unfold f_seenAs; rw [if_pos (monAt_t (by assumption)), monAt_1 (monAt_t (by assumption)), hacc, show i = 8 by omega]))) : p := h
theorem c_impl_SeenAs (w0 : World) (h : THost) (ph : PHost) (hh : RD w0 h ph) (m : Int) : Calls Tryz.prog 89 [GT.val h ph, I m].toArray w0 (Ret1 NoB w0 (f_seenAs h m : TBare)) := by
 refine Calls.run NoB Tryz.func89 ?_
 intro ac β S
 have hleh_mem : h.mem.length ≤ 4194304 := LRd.le (RHost.mem (d := h) hh)
 have hleh_mons : h.mons.length ≤ 4194304 := LRd.le (RHost.mons (d := h) hh)
 have hleh_buf : h.buf.length ≤ 4194304 := LRd.le (RHost.buf (d := h) hh)
 have hleh_iobuf : h.iobuf.length ≤ 4194304 := LRd.le (RHost.iobuf (d := h) hh)
 refine S.go 10 .nil fun ac w β S => S.K2 (r := (f_monAt h m).1) (r' := (f_monAt h m).2) (d := 12) (c_impl_MonAt w h ph (S.rd (S.arg hh)) m) fun ac w N q1 q2 F3 F4 S up o5 o6 d7 d8 d9 => ?_
 clear up d7
 clear d8
 have i25 : In64 (f_monAt h m).1.pend := RMon.pend (d := (f_monAt h m).1) o5.rn
 obtain ⟨F10, F13, F16, F19, F22, F27, o11, o14, o17, o20, o23, o28, _, _, _, _, _, _, _, _, _, _, _, _, _, _, _, _, _, _, d43, _, _⟩ := sp_Mon o5
 refine S.gb 15 .nil (!(f_monAt h m).2) (fun ac w β h46 S => ?_) (fun ac w β h46 S => ?_)
 ·have h47 := not_t h46
  refine S.gr 8 (.cons (Q_sem (s := Instr.build 28 [].toArray) (v := .agg [slv ([] : List (List Int)).length (GT.pdflt (α := List (List Int))).1, slv ([] : List TGuest).length (GT.pdflt (α := List TGuest)).1, slv ([] : List Int).length (GT.pdflt (α := List Int)).1, I 0].toArray) (fun w => by kernel_rfl)) .nil) [GT.val (⟨([] : List (List Int)), ([] : List TGuest), ([] : List Int), 0⟩ : TBare) (⟨(GT.pdflt (α := List (List Int))), (GT.pdflt (α := List TGuest)), (GT.pdflt (α := List Int))⟩ : PBare)] fun ac w β S => ?_
  have o48 := S.nilOw (α := List Int)
  have o49 := S.nilOw (α := TGuest)
  have o50 := S.nilOw (α := Int)
  have o51 := ow_Bare (x := (⟨([] : List (List Int)), ([] : List TGuest), ([] : List Int), 0⟩ : TBare)) (p := (⟨(GT.pdflt (α := List (List Int))), (GT.pdflt (α := List TGuest)), (GT.pdflt (α := List Int))⟩ : PBare)) o48 o49 o50 (fun b _ h => False.elim h) (fun b _ h => False.elim h) (fun b _ h => False.elim h) (show In64 0 from ⟨by decide, by decide⟩)
  exact ret1_of S (show f_seenAs h m = (⟨([] : List (List Int)), ([] : List TGuest), ([] : List Int), 0⟩ : TBare) from k0_impl_SeenAs) rfl o51
 have h52 := not_f h46
 have g53 := monAt_tt h52
 refine S.go 23 (.cons (Q_sem (s := Instr.build 28 [(1, slv (f_monAt h m).1.guests.length q1.guests.1), (2, slv (f_monAt h m).1.outs.length q1.outs.1), (3, I (f_monAt h m).1.pend)].toArray) (v := .agg [slv ([] : List (List Int)).length (GT.pdflt (α := List (List Int))).1, slv (f_monAt h m).1.guests.length q1.guests.1, slv (f_monAt h m).1.outs.length q1.outs.1, I (f_monAt h m).1.pend].toArray) (fun w => by kernel_rfl)) .nil) fun ac w β S => ?_
 have o57 := S.nilOw (α := List Int)
 refine lp (fun mm ac w => ∃ (i : Nat) (acc : List (List Int)) (q54 : _) (F55 : _) (u : _) (N : _) (β : _), mm = 8 - i ∧ (i ≤ 8) ∧ (acc = (List.range i).map (fun (j : Nat) => f_pageOf h m (j : Int))) ∧ St Tryz.prog Tryz.f89.ntmps w0 NoB u N β ⟨[(1, .v (I m)), (2, .p 0 0), (4, .p 1 0), (7, .p 3 0), (8, .v (I (i : Int)))], [GT.cells h ph, Zc TBare, [slv (f_monAt h m).1.outer.length q1.outer.1, slv (f_monAt h m).1.out.length q1.out.1, slv (f_monAt h m).1.dirty.length q1.dirty.1, slv (f_monAt h m).1.guests.length q1.guests.1, slv (f_monAt h m).1.outs.length q1.outs.1, I (f_monAt h m).1.pend, I (f_monAt h m).1.traps, slv (f_monAt h m).1.tables.length q1.tables.1, I (f_monAt h m).1.owned], [slv acc.length q54.1, slv (f_monAt h m).1.guests.length q1.guests.1, slv (f_monAt h m).1.outs.length q1.outs.1, I (f_monAt h m).1.pend]]⟩ ac w ∧ Ow w0 NoB u N F55 acc q54 ∧ Ow w0 NoB u N F10 (f_monAt h m).1.outer q1.outer ∧ Ow w0 NoB u N F13 (f_monAt h m).1.out q1.out ∧ Ow w0 NoB u N F16 (f_monAt h m).1.dirty q1.dirty ∧ Ow w0 NoB u N F19 (f_monAt h m).1.guests q1.guests ∧ Ow w0 NoB u N F22 (f_monAt h m).1.outs q1.outs ∧ Ow w0 NoB u N F27 (f_monAt h m).1.tables q1.tables ∧ Disj F55 F10 ∧ Disj F55 F13 ∧ Disj F55 F16 ∧ Disj F55 F19 ∧ Disj F55 F22 ∧ Disj F55 F27) _ ⟨0, ([] : List (List Int)), (GT.pdflt (α := List (List Int))), NoB, _, _, _, rfl, o0, (by rfl), S.z, o57, o11, o14, o17, o20, o23, o28, (Disj.symm (fun b _ h => False.elim h)), (Disj.symm (fun b _ h => False.elim h)), (Disj.symm (fun b _ h => False.elim h)), (Disj.symm (fun b _ h => False.elim h)), (Disj.symm (fun b _ h => False.elim h)), (Disj.symm (fun b _ h => False.elim h))⟩ ?_
 clear S o11 o14 o17 o20 o23 o28 o57 o6
 rintro f64 mm hf65 ac w ⟨i, acc, q54, F55, u, N, β, rfl, hi, hacc, S, o56, o11, o14, o17, o20, o23, o28, d58, d59, d60, d61, d62, d63⟩
 refine S.rs fun S => ?_
 have hlacc : acc.length = i := by rw [hacc]; simp
 refine S.gd 7 .nil (decide ((i : Int) < 8)) (fun ac w β h66 g67 S => ?_) (fun ac w β h66 g67 S => ?_)
 ·refine S.go 5 .nil fun ac w β S => ?_
  refine drw ?_
  refine S.draw0 (f := 10) 7 (by kernel_rfl) (by kernel_rfl) fun w S => ?_
  refine S.hq 0 [1, 0] [] [(29, .p 3 0)] .nil fun ac S => ?_
  refine S.hq 1 [1] [] [(30, .v (slv acc.length q54.1))] .nil fun ac S => ?_
  refine S.hq 2 [5, 2] [] [(31, .v (GT.val h ph))] .nil fun ac S => ?_
  refine S.hq 3 [5, 3] [] [(32, .v (I m))] .nil fun ac S => ?_
  refine S.hq 4 [5, 4] [] [(33, .v (I (i : Int)))] .nil fun ac S => ?_
  refine WD.one (i := 5) (by kernel_rfl) ?_
  refine id (S.k1 34 (c_impl_PageOf w h ph (S.rd (S.arg hh)) m (i : Int)) fun ac w N q68 F69 S up o70 d71 => ?_)
  refine WD.next S up (by kernel_rfl) ?_
  have d72 := Disj.w d71 o56.sub
  have d73 := Disj.w d71 o11.sub
  have d74 := Disj.w d71 o14.sub
  have d75 := Disj.w d71 o17.sub
  have d76 := Disj.w d71 o20.sub
  have d77 := Disj.w d71 o23.sub
  have d78 := Disj.w d71 o28.sub
  replace o56 := o56.up up
  replace o11 := o11.up up
  replace o14 := o14.up up
  replace o17 := o17.up up
  replace o20 := o20.up up
  replace o23 := o23.up up
  replace o28 := o28.up up
  clear up d71
  refine WD.one (i := 6) (by kernel_rfl) ?_
  refine id (S.bs1 (α := List Int) (x := (f_pageOf h m (i : Int))) (p := q68) o70.own o70.sub o70.young (d := 35) (by kernel_rfl) fun ac w N q79 F80 S up o81 d82 => ?_)
  refine WD.next S up (by kernel_rfl) ?_
  have d83 := d82 _ d72 o56.sub
  have d84 := d82 _ d73 o11.sub
  have d85 := d82 _ d74 o14.sub
  have d86 := d82 _ d75 o17.sub
  have d87 := d82 _ d76 o20.sub
  have d88 := d82 _ d77 o23.sub
  have d89 := d82 _ d78 o28.sub
  replace o56 := o56.up up
  replace o11 := o11.up up
  replace o14 := o14.up up
  replace o17 := o17.up up
  replace o20 := o20.up up
  replace o23 := o23.up up
  replace o28 := o28.up up
  clear up d82
  refine WD.one (i := 7) (by kernel_rfl) ?_
  refine id (S.appOwn (α := List Int) o56 o81 d83 (by' := 24) (d := 36) (lx := acc.length) (ly := 1) rfl rfl (by kernel_rfl) (show _ ≤ 4194304 by simp only [List.length_append, List.length_cons, List.length_nil]; omega) fun ac w N q90 F91 S up o92 d93 => ?_)
  refine WD.last (by kernel_rfl) ?_
  have d94 := d93 _ (Disj.symm d58) d84 o11.sub
  have d95 := d93 _ (Disj.symm d59) d85 o14.sub
  have d96 := d93 _ (Disj.symm d60) d86 o17.sub
  have d97 := d93 _ (Disj.symm d61) d87 o20.sub
  have d98 := d93 _ (Disj.symm d62) d88 o23.sub
  have d99 := d93 _ (Disj.symm d63) d89 o28.sub
  replace o11 := o11.upF (Disj.symm d58) up
  replace o14 := o14.upF (Disj.symm d59) up
  replace o17 := o17.upF (Disj.symm d60) up
  replace o20 := o20.upF (Disj.symm d61) up
  replace o23 := o23.upF (Disj.symm d62) up
  replace o28 := o28.upF (Disj.symm d63) up
  clear up d93
  refine S.sl 8 [] [(37, .p 3 0)] 4 [] .nil fun ac w β S => ?_
  refine S.sl 9 [] [] 4 [(3, [slv (acc ++ [(f_pageOf h m (i : Int))]).length q90.1, slv (f_monAt h m).1.guests.length q1.guests.1, slv (f_monAt h m).1.outs.length q1.outs.1, I (f_monAt h m).1.pend])] .nil fun ac w β S => ?_
  refine WD.done (by kernel_rfl) ?_ _
  refine S.ex fun S => ?_
  refine S.ge 7 (.cons (qp (i : Int) 1) .nil) f64 fun ac w β S => hf65.of (8 - (i + 1)) _ _ (by omega) ⟨i + 1, (acc ++ [(f_pageOf h m (i : Int))]), q90, F91, _, _, _, rfl, ?_, ?_, S.z, o92, o11, o14, o17, o20, o23, o28, (Disj.symm d94), (Disj.symm d95), (Disj.symm d96), (Disj.symm d97), (Disj.symm d98), (Disj.symm d99)⟩
  ·exact oz
  ·clear S; (rw [rmap_step, ← hacc])
 refine S.gr 13 .nil [GT.val (⟨acc, (f_monAt h m).1.guests, (f_monAt h m).1.outs, (f_monAt h m).1.pend⟩ : TBare) (⟨q54, q1.guests, q1.outs⟩ : PBare)] fun ac w β S => ?_
 have o100 := ow_Bare (x := (⟨acc, (f_monAt h m).1.guests, (f_monAt h m).1.outs, (f_monAt h m).1.pend⟩ : TBare)) (p := (⟨q54, q1.guests, q1.outs⟩ : PBare)) o56 o20 o23 d61 d62 d43 i25
 exact ret1_of S (show f_seenAs h m = (⟨acc, (f_monAt h m).1.guests, (f_monAt h m).1.outs, (f_monAt h m).1.pend⟩ : TBare) from k0_impl_SeenAs) rfl o100

theorem k0_impl_reflected_impl_HostSet_1 {p : Prop} (h : p := by clear S; (first | (unfold f_reflected; rw [if_neg (by rintro ⟨⟨h1, h2, h3⟩, h4⟩; first | omega | simp_all)]; done) | (unfold f_reflected; rw [if_pos ⟨⟨by assumption, by omega, by omega⟩, by assumption⟩]; unfold f_back; rw [← back_two (by omega)]; done) | (unfold f_reflected; rw [if_pos ⟨⟨by assumption, by omega, by omega⟩, by assumption⟩]; done))) : p := h
theorem c_impl_reflected_impl_HostSet_1 (w0 : World) (h : THost) (ph : PHost) (hh : RD w0 h ph) (m : Int) (g : Int) (qg : LP Int) (hg : RD w0 [g] qg) (page : Int) (qpage : LP Int) (hpage : RD w0 [page] qpage) (s : TSlot) (qs : LP TSlot) (hs : RD w0 [s] qs) : Calls Tryz.prog 57 [GT.val h ph, I m, .func (.func 58) #[] #[pt qg.1.b (qg.1.off + 0 * 1), pt qpage.1.b (qpage.1.off + 0 * 1), pt qs.1.b (qs.1.off + 0 * 2)]].toArray w0 (Ret2 NoB w0 ((f_reflected h m (f_bareSet (f_seenAs h m) g page s)).1 : THost) ((f_reflected h m (f_bareSet (f_seenAs h m) g page s)).2 : Bool)) := by
 refine Calls.run NoB Tryz.func57 ?_
 intro ac β S
 have hleh_mem : h.mem.length ≤ 4194304 := LRd.le (RHost.mem (d := h) hh)
 have hleh_mons : h.mons.length ≤ 4194304 := LRd.le (RHost.mons (d := h) hh)
 have hleh_buf : h.buf.length ≤ 4194304 := LRd.le (RHost.buf (d := h) hh)
 have hleh_iobuf : h.iobuf.length ≤ 4194304 := LRd.le (RHost.iobuf (d := h) hh)
 refine S.go 10 .nil fun ac w β S => S.K1 (r := h) (d := 12) (c_impl_copyHost w h ph (S.rd (S.arg hh))) fun ac w N q1 F2 S up o3 d4 => ?_
 clear up d4
 obtain ⟨F5, F8, F11, F14, o6, o9, o12, o15, _, _, _, _, d17, d18, d19, d20, d21, d22⟩ := sp_Host o3
 refine S.gb 11 (.cons (Q_call fun w hw => c_impl_HostOk w h ph (rd_of (S.arg hh) hw)) .nil) (!(f_hostOk h)) (fun ac w β h23 S => ?_) (fun ac w β h23 S => ?_)
 ·have h24 := not_t h23
  refine S.gr 18 .nil [GT.val h q1, B false] fun ac w β S => ?_
  have o25 := ow_Host (x := h) (p := q1) o6 o9 o12 o15 d17 d18 d19 d20 d21 d22 
  exact ret2_of (p' := ()) S (show (f_reflected h m (f_bareSet (f_seenAs h m) g page s)).1 = h from k0_impl_reflected_impl_HostSet_1) (show (f_reflected h m (f_bareSet (f_seenAs h m) g page s)).2 = false from k0_impl_reflected_impl_HostSet_1) rfl rfl o25 trivial
 have h26 := not_f h23
 have g27 := hostOk_t h26
 refine S.gb 9 (.cons (Q_call fun w hw => c_impl_has w m (h.mons.length : Int) (by omega)) .nil) (!(f_within m 0 ((h.mons.length : Int) - 1))) (fun ac w β h28 S => ?_) (fun ac w β h28 S => ?_)
 ·have h29 := not_t h28
  have g30 := within_f h29
  refine S.gr 9 .nil [GT.val h q1, B false] fun ac w β S => ?_
  have o31 := ow_Host (x := h) (p := q1) o6 o9 o12 o15 d17 d18 d19 d20 d21 d22 
  exact ret2_of (p' := ()) S (show (f_reflected h m (f_bareSet (f_seenAs h m) g page s)).1 = h from k0_impl_reflected_impl_HostSet_1) (show (f_reflected h m (f_bareSet (f_seenAs h m) g page s)).2 = false from k0_impl_reflected_impl_HostSet_1) rfl rfl o31 trivial
 have h32 := not_f h28
 have g33 := within_t h32
 refine S.go 8 .nil fun ac w β S => S.K1 (r := f_seenAs h m) (d := 29) (c_impl_SeenAs w h ph (S.rd (S.arg hh)) m) fun ac w N q34 F35 S up o36 d37 => ?_
 replace o6 := o6.up up
 replace o9 := o9.up up
 replace o12 := o12.up up
 replace o15 := o15.up up
 clear up d37
 refine S.K2 (r := (f_bareSet (f_seenAs h m) g page s).1) (r' := (f_bareSet (f_seenAs h m) g page s).2) (d := 30) (c_impl_HostSet_1 w (f_seenAs h m) q34 (S.rd o36.rn) g qg (S.rd (S.arg hg)) page qpage (S.rd (S.arg hpage)) s qs (S.rd (S.arg hs))) fun ac w N q42 q43 F44 F45 S up o46 o47 d48 d49 d50 => ?_
 have d57 := Disj.w d48 o9.sub
 replace o6 := o6.up up
 replace o9 := o9.up up
 replace o12 := o12.up up
 replace o15 := o15.up up
 clear up d48
 clear d49
 refine S.gb 14 .nil (f_bareSet (f_seenAs h m) g page s).2 (fun ac w β h61 S => ?_) (fun ac w β h61 S => ?_)
 ·refine S.lt 10 h61 fun S => ?_
  refine S.go 2 .nil fun ac w β S => ?_
  refine drw ?_
  refine S.draw0 (f := 9) 8 (by kernel_rfl) (by kernel_rfl) fun w S => ?_
  refine S.hq 0 [0] [] [(34, .p 2 1)] .nil fun ac S => ?_
  refine S.hq 1 [1] [] [(35, .v (slv h.mons.length q1.mons.1))] .nil fun ac S => ?_
  refine S.hq 2 [2] [] [(36, .v (I m))] .nil fun ac S => ?_
  refine S.hq 3 [3] [] [(37, .p 3 1)] .nil fun ac S => ?_
  refine S.hq 4 [4] [] [(38, .v (slv (f_bareSet (f_seenAs h m) g page s).1.guests.length q42.guests.1))] .nil fun ac S => ?_
  refine WD.one (i := 5) (by kernel_rfl) ?_
  refine id (S.k1 39 (c_impl_copyGuests w (f_bareSet (f_seenAs h m) g page s).1.guests q42.guests (S.rd (RBare.guests (d := (f_bareSet (f_seenAs h m) g page s).1) o46.rn))) fun ac w N q62 F63 S up o64 d65 => ?_)
  refine WD.next S up (by kernel_rfl) ?_
  have d66 := Disj.w d65 o6.sub
  have d67 := Disj.w d65 o9.sub
  have d68 := Disj.w d65 o12.sub
  have d69 := Disj.w d65 o15.sub
  replace o6 := o6.up up
  replace o9 := o9.up up
  replace o12 := o12.up up
  replace o15 := o15.up up
  replace o46 := o46.up up
  clear up d65
  refine S.hq 6 [7, 6] [] [(40, .v (pt q1.mons.1.b (q1.mons.1.off + m.toNat * 9)))] (.cons (qt o9.rn m Tryz.underlying57) .nil) fun ac S => ?_
  refine S.hq 7 [7] [] [(41, .v (pt q1.mons.1.b (q1.mons.1.off + m.toNat * 9 + 3)))] .nil fun ac S => ?_
  refine WD.one (i := 8) (by kernel_rfl) ?_
  refine id (S.sE (α := TMon) o9 (t := 25) (k := m.toNat) (j := 3) (off := q1.mons.1.off + m.toNat * 9 + 3) (v := slv (f_bareSet (f_seenAs h m) g page s).1.guests.length q62.1) (y := ({ el h.mons m.toNat with guests := (f_bareSet (f_seenAs h m) g page s).1.guests } : TMon)) (q := ({ q1.mons.2 m.toNat with guests := q62 } : PMon)) (fun G g_ gF => ⟨_, owl_Mon_guests g_ o64.own (fun b h h2 => d67 b (gF b h) h2), fun _ h => h⟩) d67 o64.sub o64.young fun w N F72 q73 S up o71 d74 s75 n76 => ?_)
  refine WD.last (by kernel_rfl) ?_
  have d77 := d74 _ d17 d66 o6.sub
  have d78 := d74 _ (Disj.symm d20) d68 o12.sub
  have d79 := d74 _ (Disj.symm d21) d69 o15.sub
  replace o6 := o6.upF d17 up
  replace o12 := o12.upF (Disj.symm d20) up
  replace o15 := o15.upF (Disj.symm d21) up
  replace o46 := o46.upF (Disj.symm d57) up
  clear up d74 o9 n76
  have l81 : (h.mons.set m.toNat ({ el h.mons m.toNat with guests := (f_bareSet (f_seenAs h m) g page s).1.guests })).length = h.mons.length := List.length_set
  replace S := S.z (σ' := ⟨[(1, .v (I m)), (6, .p 1 0), (8, .p 2 0), (9, .p 3 0), (10, .v (B true)), (39, .v (slv (f_bareSet (f_seenAs h m) g page s).1.guests.length q62.1)), (41, .v (pt q1.mons.1.b (q1.mons.1.off + m.toNat * 9 + 3)))], [GT.cells h ph, Zc THost, [slv h.mem.length q1.mem.1, slv h.mons.length q1.mons.1, slv h.buf.length q1.buf.1, slv h.iobuf.length q1.iobuf.1], GT.cells (f_bareSet (f_seenAs h m) g page s).1 q42]⟩)
  replace S := S.cast (σ' := ⟨[(1, .v (I m)), (6, .p 1 0), (8, .p 2 0), (9, .p 3 0), (10, .v (B true)), (39, .v (slv (f_bareSet (f_seenAs h m) g page s).1.guests.length q62.1)), (41, .v (pt q1.mons.1.b (q1.mons.1.off + m.toNat * 9 + 3)))], [GT.cells h ph, Zc THost, [slv h.mem.length q1.mem.1, slv (h.mons.set m.toNat ({ el h.mons m.toNat with guests := (f_bareSet (f_seenAs h m) g page s).1.guests })).length q1.mons.1, slv h.buf.length q1.buf.1, slv h.iobuf.length q1.iobuf.1], GT.cells (f_bareSet (f_seenAs h m) g page s).1 q42]⟩) (by rw [show (h.mons.set m.toNat ({ el h.mons m.toNat with guests := (f_bareSet (f_seenAs h m) g page s).1.guests })).length = h.mons.length by omega])
  refine WD.done (by kernel_rfl) ?_ _
  refine S.ex fun S => ?_
  refine S.go 9 (.cons (qt o71.rn m Tryz.underlying57) .nil) fun ac w β S => S.SF (α := TMon) o71 (t := 3) (k := m.toNat) (j := 5) (off := q1.mons.1.off + m.toNat * 9 + 5) (v := I (f_bareSet (f_seenAs h m) g page s).1.pend) (y := ({ el (h.mons.set m.toNat ({ el h.mons m.toNat with guests := (f_bareSet (f_seenAs h m) g page s).1.guests })) m.toNat with pend := (f_bareSet (f_seenAs h m) g page s).1.pend } : TMon)) (q := ((q1.mons.1, q73).2 m.toNat)) (fun G g_ _ => ⟨G, ows_Mon_pend g_ (RBare.pend (d := (f_bareSet (f_seenAs h m) g page s).1) o46.rn), fun _ h => .inl h⟩) fun w N F83 q84 S up o82 d85 s86 n87 => ?_
  have d88 := d85 _ d77 (fun b _ h => False.elim h) o6.sub
  have d89 := d85 _ d78 (fun b _ h => False.elim h) o12.sub
  have d90 := d85 _ d79 (fun b _ h => False.elim h) o15.sub
  replace o6 := o6.upF d77 up
  replace o12 := o12.upF d78 up
  replace o15 := o15.upF d79 up
  clear up d85 o71 n87
  have l92 : ((h.mons.set m.toNat ({ el h.mons m.toNat with guests := (f_bareSet (f_seenAs h m) g page s).1.guests })).set m.toNat ({ el (h.mons.set m.toNat ({ el h.mons m.toNat with guests := (f_bareSet (f_seenAs h m) g page s).1.guests })) m.toNat with pend := (f_bareSet (f_seenAs h m) g page s).1.pend })).length = (h.mons.set m.toNat ({ el h.mons m.toNat with guests := (f_bareSet (f_seenAs h m) g page s).1.guests })).length := List.length_set
  replace S := S.z (σ' := ⟨[(6, .p 1 0), (8, .p 2 0), (10, .v (B true)), (46, .v (I (f_bareSet (f_seenAs h m) g page s).1.pend)), (48, .v (pt q1.mons.1.b (q1.mons.1.off + m.toNat * 9 + 5)))], [GT.cells h ph, Zc THost, [slv h.mem.length q1.mem.1, slv (h.mons.set m.toNat ({ el h.mons m.toNat with guests := (f_bareSet (f_seenAs h m) g page s).1.guests })).length q1.mons.1, slv h.buf.length q1.buf.1, slv h.iobuf.length q1.iobuf.1], GT.cells (f_bareSet (f_seenAs h m) g page s).1 q42]⟩)
  replace S := S.cast (σ' := ⟨[(6, .p 1 0), (8, .p 2 0), (10, .v (B true)), (46, .v (I (f_bareSet (f_seenAs h m) g page s).1.pend)), (48, .v (pt q1.mons.1.b (q1.mons.1.off + m.toNat * 9 + 5)))], [GT.cells h ph, Zc THost, [slv h.mem.length q1.mem.1, slv ((h.mons.set m.toNat ({ el h.mons m.toNat with guests := (f_bareSet (f_seenAs h m) g page s).1.guests })).set m.toNat ({ el (h.mons.set m.toNat ({ el h.mons m.toNat with guests := (f_bareSet (f_seenAs h m) g page s).1.guests })) m.toNat with pend := (f_bareSet (f_seenAs h m) g page s).1.pend })).length q1.mons.1, slv h.buf.length q1.buf.1, slv h.iobuf.length q1.iobuf.1], GT.cells (f_bareSet (f_seenAs h m) g page s).1 q42]⟩) (by rw [show ((h.mons.set m.toNat ({ el h.mons m.toNat with guests := (f_bareSet (f_seenAs h m) g page s).1.guests })).set m.toNat ({ el (h.mons.set m.toNat ({ el h.mons m.toNat with guests := (f_bareSet (f_seenAs h m) g page s).1.guests })) m.toNat with pend := (f_bareSet (f_seenAs h m) g page s).1.pend })).length = (h.mons.set m.toNat ({ el h.mons m.toNat with guests := (f_bareSet (f_seenAs h m) g page s).1.guests })).length by omega])
  refine S.is fun S => ?_
  refine S.gr 11 .nil [GT.val (⟨h.mem, ((h.mons.set m.toNat ({ el h.mons m.toNat with guests := (f_bareSet (f_seenAs h m) g page s).1.guests })).set m.toNat ({ el (h.mons.set m.toNat ({ el h.mons m.toNat with guests := (f_bareSet (f_seenAs h m) g page s).1.guests })) m.toNat with pend := (f_bareSet (f_seenAs h m) g page s).1.pend })), h.buf, h.iobuf⟩ : THost) (⟨q1.mem, (q1.mons.1, q84), q1.buf, q1.iobuf⟩ : PHost), B true] fun ac w β S => ?_
  have o93 := ow_Host (x := (⟨h.mem, ((h.mons.set m.toNat ({ el h.mons m.toNat with guests := (f_bareSet (f_seenAs h m) g page s).1.guests })).set m.toNat ({ el (h.mons.set m.toNat ({ el h.mons m.toNat with guests := (f_bareSet (f_seenAs h m) g page s).1.guests })) m.toNat with pend := (f_bareSet (f_seenAs h m) g page s).1.pend })), h.buf, h.iobuf⟩ : THost)) (p := (⟨q1.mem, (q1.mons.1, q84), q1.buf, q1.iobuf⟩ : PHost)) o6 o82 o12 o15 d88 d18 d19 (Disj.symm d89) (Disj.symm d90) d22 
  exact ret2_of (p' := ()) S (show (f_reflected h m (f_bareSet (f_seenAs h m) g page s)).1 = (⟨h.mem, ((h.mons.set m.toNat ({ el h.mons m.toNat with guests := (f_bareSet (f_seenAs h m) g page s).1.guests })).set m.toNat ({ el (h.mons.set m.toNat ({ el h.mons m.toNat with guests := (f_bareSet (f_seenAs h m) g page s).1.guests })) m.toNat with pend := (f_bareSet (f_seenAs h m) g page s).1.pend })), h.buf, h.iobuf⟩ : THost) from k0_impl_reflected_impl_HostSet_1) (show (f_reflected h m (f_bareSet (f_seenAs h m) g page s)).2 = true from k0_impl_reflected_impl_HostSet_1) rfl rfl o93 trivial
 refine S.lt 10 h61 fun S => ?_
 refine S.gr 12 .nil [GT.val h q1, B false] fun ac w β S => ?_
 have o94 := ow_Host (x := h) (p := q1) o6 o9 o12 o15 d17 d18 d19 d20 d21 d22 
 exact ret2_of (p' := ()) S (show (f_reflected h m (f_bareSet (f_seenAs h m) g page s)).1 = h from k0_impl_reflected_impl_HostSet_1) (show (f_reflected h m (f_bareSet (f_seenAs h m) g page s)).2 = false from k0_impl_reflected_impl_HostSet_1) rfl rfl o94 trivial

theorem k0_impl_reflected_impl_HostFlush_1 {p : Prop} (h : p := by clear S; (first | (unfold f_reflected; rw [if_neg (by rintro ⟨⟨h1, h2, h3⟩, h4⟩; first | omega | simp_all)]; done) | (unfold f_reflected; rw [if_pos ⟨⟨by assumption, by omega, by omega⟩, by assumption⟩]; unfold f_back; rw [← back_two (by omega)]; done) | (unfold f_reflected; rw [if_pos ⟨⟨by assumption, by omega, by omega⟩, by assumption⟩]; done))) : p := h
theorem c_impl_reflected_impl_HostFlush_1 (w0 : World) (h : THost) (ph : PHost) (hh : RD w0 h ph) (m : Int) (g : Int) (qg : LP Int) (hg : RD w0 [g] qg) (page : Int) (qpage : LP Int) (hpage : RD w0 [page] qpage) : Calls Tryz.prog 57 [GT.val h ph, I m, .func (.func 60) #[] #[pt qg.1.b (qg.1.off + 0 * 1), pt qpage.1.b (qpage.1.off + 0 * 1)]].toArray w0 (Ret2 NoB w0 ((f_reflected h m (f_bareFlush (f_seenAs h m) g page)).1 : THost) ((f_reflected h m (f_bareFlush (f_seenAs h m) g page)).2 : Bool)) := by
 refine Calls.run NoB Tryz.func57 ?_
 intro ac β S
 have hleh_mem : h.mem.length ≤ 4194304 := LRd.le (RHost.mem (d := h) hh)
 have hleh_mons : h.mons.length ≤ 4194304 := LRd.le (RHost.mons (d := h) hh)
 have hleh_buf : h.buf.length ≤ 4194304 := LRd.le (RHost.buf (d := h) hh)
 have hleh_iobuf : h.iobuf.length ≤ 4194304 := LRd.le (RHost.iobuf (d := h) hh)
 refine S.go 10 .nil fun ac w β S => S.K1 (r := h) (d := 12) (c_impl_copyHost w h ph (S.rd (S.arg hh))) fun ac w N q1 F2 S up o3 d4 => ?_
 clear up d4
 obtain ⟨F5, F8, F11, F14, o6, o9, o12, o15, _, _, _, _, d17, d18, d19, d20, d21, d22⟩ := sp_Host o3
 refine S.gb 11 (.cons (Q_call fun w hw => c_impl_HostOk w h ph (rd_of (S.arg hh) hw)) .nil) (!(f_hostOk h)) (fun ac w β h23 S => ?_) (fun ac w β h23 S => ?_)
 ·have h24 := not_t h23
  refine S.gr 18 .nil [GT.val h q1, B false] fun ac w β S => ?_
  have o25 := ow_Host (x := h) (p := q1) o6 o9 o12 o15 d17 d18 d19 d20 d21 d22 
  exact ret2_of (p' := ()) S (show (f_reflected h m (f_bareFlush (f_seenAs h m) g page)).1 = h from k0_impl_reflected_impl_HostFlush_1) (show (f_reflected h m (f_bareFlush (f_seenAs h m) g page)).2 = false from k0_impl_reflected_impl_HostFlush_1) rfl rfl o25 trivial
 have h26 := not_f h23
 have g27 := hostOk_t h26
 refine S.gb 9 (.cons (Q_call fun w hw => c_impl_has w m (h.mons.length : Int) (by omega)) .nil) (!(f_within m 0 ((h.mons.length : Int) - 1))) (fun ac w β h28 S => ?_) (fun ac w β h28 S => ?_)
 ·have h29 := not_t h28
  have g30 := within_f h29
  refine S.gr 9 .nil [GT.val h q1, B false] fun ac w β S => ?_
  have o31 := ow_Host (x := h) (p := q1) o6 o9 o12 o15 d17 d18 d19 d20 d21 d22 
  exact ret2_of (p' := ()) S (show (f_reflected h m (f_bareFlush (f_seenAs h m) g page)).1 = h from k0_impl_reflected_impl_HostFlush_1) (show (f_reflected h m (f_bareFlush (f_seenAs h m) g page)).2 = false from k0_impl_reflected_impl_HostFlush_1) rfl rfl o31 trivial
 have h32 := not_f h28
 have g33 := within_t h32
 refine S.go 8 .nil fun ac w β S => S.K1 (r := f_seenAs h m) (d := 29) (c_impl_SeenAs w h ph (S.rd (S.arg hh)) m) fun ac w N q34 F35 S up o36 d37 => ?_
 replace o6 := o6.up up
 replace o9 := o9.up up
 replace o12 := o12.up up
 replace o15 := o15.up up
 clear up d37
 refine S.K2 (r := (f_bareFlush (f_seenAs h m) g page).1) (r' := (f_bareFlush (f_seenAs h m) g page).2) (d := 30) (c_impl_HostFlush_1 w (f_seenAs h m) q34 (S.rd o36.rn) g qg (S.rd (S.arg hg)) page qpage (S.rd (S.arg hpage))) fun ac w N q42 q43 F44 F45 S up o46 o47 d48 d49 d50 => ?_
 have d57 := Disj.w d48 o9.sub
 replace o6 := o6.up up
 replace o9 := o9.up up
 replace o12 := o12.up up
 replace o15 := o15.up up
 clear up d48
 clear d49
 refine S.gb 14 .nil (f_bareFlush (f_seenAs h m) g page).2 (fun ac w β h61 S => ?_) (fun ac w β h61 S => ?_)
 ·refine S.lt 10 h61 fun S => ?_
  refine S.go 2 .nil fun ac w β S => ?_
  refine drw ?_
  refine S.draw0 (f := 9) 8 (by kernel_rfl) (by kernel_rfl) fun w S => ?_
  refine S.hq 0 [0] [] [(34, .p 2 1)] .nil fun ac S => ?_
  refine S.hq 1 [1] [] [(35, .v (slv h.mons.length q1.mons.1))] .nil fun ac S => ?_
  refine S.hq 2 [2] [] [(36, .v (I m))] .nil fun ac S => ?_
  refine S.hq 3 [3] [] [(37, .p 3 1)] .nil fun ac S => ?_
  refine S.hq 4 [4] [] [(38, .v (slv (f_bareFlush (f_seenAs h m) g page).1.guests.length q42.guests.1))] .nil fun ac S => ?_
  refine WD.one (i := 5) (by kernel_rfl) ?_
  refine id (S.k1 39 (c_impl_copyGuests w (f_bareFlush (f_seenAs h m) g page).1.guests q42.guests (S.rd (RBare.guests (d := (f_bareFlush (f_seenAs h m) g page).1) o46.rn))) fun ac w N q62 F63 S up o64 d65 => ?_)
  refine WD.next S up (by kernel_rfl) ?_
  have d66 := Disj.w d65 o6.sub
  have d67 := Disj.w d65 o9.sub
  have d68 := Disj.w d65 o12.sub
  have d69 := Disj.w d65 o15.sub
  replace o6 := o6.up up
  replace o9 := o9.up up
  replace o12 := o12.up up
  replace o15 := o15.up up
  replace o46 := o46.up up
  clear up d65
  refine S.hq 6 [7, 6] [] [(40, .v (pt q1.mons.1.b (q1.mons.1.off + m.toNat * 9)))] (.cons (qt o9.rn m Tryz.underlying57) .nil) fun ac S => ?_
  refine S.hq 7 [7] [] [(41, .v (pt q1.mons.1.b (q1.mons.1.off + m.toNat * 9 + 3)))] .nil fun ac S => ?_
  refine WD.one (i := 8) (by kernel_rfl) ?_
  refine id (S.sE (α := TMon) o9 (t := 25) (k := m.toNat) (j := 3) (off := q1.mons.1.off + m.toNat * 9 + 3) (v := slv (f_bareFlush (f_seenAs h m) g page).1.guests.length q62.1) (y := ({ el h.mons m.toNat with guests := (f_bareFlush (f_seenAs h m) g page).1.guests } : TMon)) (q := ({ q1.mons.2 m.toNat with guests := q62 } : PMon)) (fun G g_ gF => ⟨_, owl_Mon_guests g_ o64.own (fun b h h2 => d67 b (gF b h) h2), fun _ h => h⟩) d67 o64.sub o64.young fun w N F72 q73 S up o71 d74 s75 n76 => ?_)
  refine WD.last (by kernel_rfl) ?_
  have d77 := d74 _ d17 d66 o6.sub
  have d78 := d74 _ (Disj.symm d20) d68 o12.sub
  have d79 := d74 _ (Disj.symm d21) d69 o15.sub
  replace o6 := o6.upF d17 up
  replace o12 := o12.upF (Disj.symm d20) up
  replace o15 := o15.upF (Disj.symm d21) up
  replace o46 := o46.upF (Disj.symm d57) up
  clear up d74 o9 n76
  have l81 : (h.mons.set m.toNat ({ el h.mons m.toNat with guests := (f_bareFlush (f_seenAs h m) g page).1.guests })).length = h.mons.length := List.length_set
  replace S := S.z (σ' := ⟨[(1, .v (I m)), (6, .p 1 0), (8, .p 2 0), (9, .p 3 0), (10, .v (B true)), (39, .v (slv (f_bareFlush (f_seenAs h m) g page).1.guests.length q62.1)), (41, .v (pt q1.mons.1.b (q1.mons.1.off + m.toNat * 9 + 3)))], [GT.cells h ph, Zc THost, [slv h.mem.length q1.mem.1, slv h.mons.length q1.mons.1, slv h.buf.length q1.buf.1, slv h.iobuf.length q1.iobuf.1], GT.cells (f_bareFlush (f_seenAs h m) g page).1 q42]⟩)
  replace S := S.cast (σ' := ⟨[(1, .v (I m)), (6, .p 1 0), (8, .p 2 0), (9, .p 3 0), (10, .v (B true)), (39, .v (slv (f_bareFlush (f_seenAs h m) g page).1.guests.length q62.1)), (41, .v (pt q1.mons.1.b (q1.mons.1.off + m.toNat * 9 + 3)))], [GT.cells h ph, Zc THost, [slv h.mem.length q1.mem.1, slv (h.mons.set m.toNat ({ el h.mons m.toNat with guests := (f_bareFlush (f_seenAs h m) g page).1.guests })).length q1.mons.1, slv h.buf.length q1.buf.1, slv h.iobuf.length q1.iobuf.1], GT.cells (f_bareFlush (f_seenAs h m) g page).1 q42]⟩) (by rw [show (h.mons.set m.toNat ({ el h.mons m.toNat with guests := (f_bareFlush (f_seenAs h m) g page).1.guests })).length = h.mons.length by omega])
  refine WD.done (by kernel_rfl) ?_ _
  refine S.ex fun S => ?_
  refine S.go 9 (.cons (qt o71.rn m Tryz.underlying57) .nil) fun ac w β S => S.SF (α := TMon) o71 (t := 3) (k := m.toNat) (j := 5) (off := q1.mons.1.off + m.toNat * 9 + 5) (v := I (f_bareFlush (f_seenAs h m) g page).1.pend) (y := ({ el (h.mons.set m.toNat ({ el h.mons m.toNat with guests := (f_bareFlush (f_seenAs h m) g page).1.guests })) m.toNat with pend := (f_bareFlush (f_seenAs h m) g page).1.pend } : TMon)) (q := ((q1.mons.1, q73).2 m.toNat)) (fun G g_ _ => ⟨G, ows_Mon_pend g_ (RBare.pend (d := (f_bareFlush (f_seenAs h m) g page).1) o46.rn), fun _ h => .inl h⟩) fun w N F83 q84 S up o82 d85 s86 n87 => ?_
  have d88 := d85 _ d77 (fun b _ h => False.elim h) o6.sub
  have d89 := d85 _ d78 (fun b _ h => False.elim h) o12.sub
  have d90 := d85 _ d79 (fun b _ h => False.elim h) o15.sub
  replace o6 := o6.upF d77 up
  replace o12 := o12.upF d78 up
  replace o15 := o15.upF d79 up
  clear up d85 o71 n87
  have l92 : ((h.mons.set m.toNat ({ el h.mons m.toNat with guests := (f_bareFlush (f_seenAs h m) g page).1.guests })).set m.toNat ({ el (h.mons.set m.toNat ({ el h.mons m.toNat with guests := (f_bareFlush (f_seenAs h m) g page).1.guests })) m.toNat with pend := (f_bareFlush (f_seenAs h m) g page).1.pend })).length = (h.mons.set m.toNat ({ el h.mons m.toNat with guests := (f_bareFlush (f_seenAs h m) g page).1.guests })).length := List.length_set
  replace S := S.z (σ' := ⟨[(6, .p 1 0), (8, .p 2 0), (10, .v (B true)), (46, .v (I (f_bareFlush (f_seenAs h m) g page).1.pend)), (48, .v (pt q1.mons.1.b (q1.mons.1.off + m.toNat * 9 + 5)))], [GT.cells h ph, Zc THost, [slv h.mem.length q1.mem.1, slv (h.mons.set m.toNat ({ el h.mons m.toNat with guests := (f_bareFlush (f_seenAs h m) g page).1.guests })).length q1.mons.1, slv h.buf.length q1.buf.1, slv h.iobuf.length q1.iobuf.1], GT.cells (f_bareFlush (f_seenAs h m) g page).1 q42]⟩)
  replace S := S.cast (σ' := ⟨[(6, .p 1 0), (8, .p 2 0), (10, .v (B true)), (46, .v (I (f_bareFlush (f_seenAs h m) g page).1.pend)), (48, .v (pt q1.mons.1.b (q1.mons.1.off + m.toNat * 9 + 5)))], [GT.cells h ph, Zc THost, [slv h.mem.length q1.mem.1, slv ((h.mons.set m.toNat ({ el h.mons m.toNat with guests := (f_bareFlush (f_seenAs h m) g page).1.guests })).set m.toNat ({ el (h.mons.set m.toNat ({ el h.mons m.toNat with guests := (f_bareFlush (f_seenAs h m) g page).1.guests })) m.toNat with pend := (f_bareFlush (f_seenAs h m) g page).1.pend })).length q1.mons.1, slv h.buf.length q1.buf.1, slv h.iobuf.length q1.iobuf.1], GT.cells (f_bareFlush (f_seenAs h m) g page).1 q42]⟩) (by rw [show ((h.mons.set m.toNat ({ el h.mons m.toNat with guests := (f_bareFlush (f_seenAs h m) g page).1.guests })).set m.toNat ({ el (h.mons.set m.toNat ({ el h.mons m.toNat with guests := (f_bareFlush (f_seenAs h m) g page).1.guests })) m.toNat with pend := (f_bareFlush (f_seenAs h m) g page).1.pend })).length = (h.mons.set m.toNat ({ el h.mons m.toNat with guests := (f_bareFlush (f_seenAs h m) g page).1.guests })).length by omega])
  refine S.is fun S => ?_
  refine S.gr 11 .nil [GT.val (⟨h.mem, ((h.mons.set m.toNat ({ el h.mons m.toNat with guests := (f_bareFlush (f_seenAs h m) g page).1.guests })).set m.toNat ({ el (h.mons.set m.toNat ({ el h.mons m.toNat with guests := (f_bareFlush (f_seenAs h m) g page).1.guests })) m.toNat with pend := (f_bareFlush (f_seenAs h m) g page).1.pend })), h.buf, h.iobuf⟩ : THost) (⟨q1.mem, (q1.mons.1, q84), q1.buf, q1.iobuf⟩ : PHost), B true] fun ac w β S => ?_
  have o93 := ow_Host (x := (⟨h.mem, ((h.mons.set m.toNat ({ el h.mons m.toNat with guests := (f_bareFlush (f_seenAs h m) g page).1.guests })).set m.toNat ({ el (h.mons.set m.toNat ({ el h.mons m.toNat with guests := (f_bareFlush (f_seenAs h m) g page).1.guests })) m.toNat with pend := (f_bareFlush (f_seenAs h m) g page).1.pend })), h.buf, h.iobuf⟩ : THost)) (p := (⟨q1.mem, (q1.mons.1, q84), q1.buf, q1.iobuf⟩ : PHost)) o6 o82 o12 o15 d88 d18 d19 (Disj.symm d89) (Disj.symm d90) d22 
  exact ret2_of (p' := ()) S (show (f_reflected h m (f_bareFlush (f_seenAs h m) g page)).1 = (⟨h.mem, ((h.mons.set m.toNat ({ el h.mons m.toNat with guests := (f_bareFlush (f_seenAs h m) g page).1.guests })).set m.toNat ({ el (h.mons.set m.toNat ({ el h.mons m.toNat with guests := (f_bareFlush (f_seenAs h m) g page).1.guests })) m.toNat with pend := (f_bareFlush (f_seenAs h m) g page).1.pend })), h.buf, h.iobuf⟩ : THost) from k0_impl_reflected_impl_HostFlush_1) (show (f_reflected h m (f_bareFlush (f_seenAs h m) g page)).2 = true from k0_impl_reflected_impl_HostFlush_1) rfl rfl o93 trivial
 refine S.lt 10 h61 fun S => ?_
 refine S.gr 12 .nil [GT.val h q1, B false] fun ac w β S => ?_
 have o94 := ow_Host (x := h) (p := q1) o6 o9 o12 o15 d17 d18 d19 d20 d21 d22 
 exact ret2_of (p' := ()) S (show (f_reflected h m (f_bareFlush (f_seenAs h m) g page)).1 = h from k0_impl_reflected_impl_HostFlush_1) (show (f_reflected h m (f_bareFlush (f_seenAs h m) g page)).2 = false from k0_impl_reflected_impl_HostFlush_1) rfl rfl o94 trivial

theorem k0_impl_reflected_impl_HostPoke_1 {p : Prop} (h : p := by clear S; (refine (congrArg Prod.fst (poke_refl h m page cell v)).symm.trans ?_; (first | (unfold f_reflected; rw [if_neg (by rintro ⟨⟨h1, h2, h3⟩, h4⟩; first | omega | simp_all)]; done) | (unfold f_reflected; rw [if_pos ⟨⟨by assumption, by omega, by omega⟩, by assumption⟩]; unfold f_back; rw [← back_two (by omega)]; done) | (unfold f_reflected; rw [if_pos ⟨⟨by assumption, by omega, by omega⟩, by assumption⟩]; done)))) : p := h
theorem k1_impl_reflected_impl_HostPoke_1 {p : Prop} (h : p := by clear S; (refine (congrArg Prod.snd (poke_refl h m page cell v)).symm.trans ?_; (first | (unfold f_reflected; rw [if_neg (by rintro ⟨⟨h1, h2, h3⟩, h4⟩; first | omega | simp_all)]; done) | (unfold f_reflected; rw [if_pos ⟨⟨by assumption, by omega, by omega⟩, by assumption⟩]; unfold f_back; rw [← back_two (by omega)]; done) | (unfold f_reflected; rw [if_pos ⟨⟨by assumption, by omega, by omega⟩, by assumption⟩]; done)))) : p := h
theorem c_impl_reflected_impl_HostPoke_1 (w0 : World) (h : THost) (ph : PHost) (hh : RD w0 h ph) (m : Int) (page : Int) (qpage : LP Int) (hpage : RD w0 [page] qpage) (cell : Int) (qcell : LP Int) (hcell : RD w0 [cell] qcell) (v : Int) (qv : LP Int) (hv : RD w0 [v] qv) : Calls Tryz.prog 57 [GT.val h ph, I m, .func (.func 66) #[] #[pt qpage.1.b (qpage.1.off + 0 * 1), pt qcell.1.b (qcell.1.off + 0 * 1), pt qv.1.b (qv.1.off + 0 * 1)]].toArray w0 (Ret2 NoB w0 (h : THost) (f_pokeOk h m page cell v : Bool)) := by
 refine Calls.run NoB Tryz.func57 ?_
 intro ac β S
 have hleh_mem : h.mem.length ≤ 4194304 := LRd.le (RHost.mem (d := h) hh)
 have hleh_mons : h.mons.length ≤ 4194304 := LRd.le (RHost.mons (d := h) hh)
 have hleh_buf : h.buf.length ≤ 4194304 := LRd.le (RHost.buf (d := h) hh)
 have hleh_iobuf : h.iobuf.length ≤ 4194304 := LRd.le (RHost.iobuf (d := h) hh)
 refine S.go 10 .nil fun ac w β S => S.K1 (r := h) (d := 12) (c_impl_copyHost w h ph (S.rd (S.arg hh))) fun ac w N q1 F2 S up o3 d4 => ?_
 clear up d4
 obtain ⟨F5, F8, F11, F14, o6, o9, o12, o15, _, _, _, _, d17, d18, d19, d20, d21, d22⟩ := sp_Host o3
 refine S.gb 11 (.cons (Q_call fun w hw => c_impl_HostOk w h ph (rd_of (S.arg hh) hw)) .nil) (!(f_hostOk h)) (fun ac w β h23 S => ?_) (fun ac w β h23 S => ?_)
 ·have h24 := not_t h23
  refine S.gr 18 .nil [GT.val h q1, B false] fun ac w β S => ?_
  have o25 := ow_Host (x := h) (p := q1) o6 o9 o12 o15 d17 d18 d19 d20 d21 d22 
  exact ret2_of (p' := ()) S (show h = h from k0_impl_reflected_impl_HostPoke_1) (show f_pokeOk h m page cell v = false from k1_impl_reflected_impl_HostPoke_1) rfl rfl o25 trivial
 have h26 := not_f h23
 have g27 := hostOk_t h26
 refine S.gb 9 (.cons (Q_call fun w hw => c_impl_has w m (h.mons.length : Int) (by omega)) .nil) (!(f_within m 0 ((h.mons.length : Int) - 1))) (fun ac w β h28 S => ?_) (fun ac w β h28 S => ?_)
 ·have h29 := not_t h28
  have g30 := within_f h29
  refine S.gr 9 .nil [GT.val h q1, B false] fun ac w β S => ?_
  have o31 := ow_Host (x := h) (p := q1) o6 o9 o12 o15 d17 d18 d19 d20 d21 d22 
  exact ret2_of (p' := ()) S (show h = h from k0_impl_reflected_impl_HostPoke_1) (show f_pokeOk h m page cell v = false from k1_impl_reflected_impl_HostPoke_1) rfl rfl o31 trivial
 have h32 := not_f h28
 have g33 := within_t h32
 refine S.go 8 .nil fun ac w β S => S.K1 (r := f_seenAs h m) (d := 29) (c_impl_SeenAs w h ph (S.rd (S.arg hh)) m) fun ac w N q34 F35 S up o36 d37 => ?_
 replace o6 := o6.up up
 replace o9 := o9.up up
 replace o12 := o12.up up
 replace o15 := o15.up up
 clear up d37
 refine S.K2 (r := (f_barePoke (f_seenAs h m) page cell v).1) (r' := (f_barePoke (f_seenAs h m) page cell v).2) (d := 30) (c_impl_HostPoke_1 w (f_seenAs h m) q34 (S.rd o36.rn) page qpage (S.rd (S.arg hpage)) cell qcell (S.rd (S.arg hcell)) v qv (S.rd (S.arg hv))) fun ac w N q42 q43 F44 F45 S up o46 o47 d48 d49 d50 => ?_
 have d57 := Disj.w d48 o9.sub
 replace o6 := o6.up up
 replace o9 := o9.up up
 replace o12 := o12.up up
 replace o15 := o15.up up
 clear up d48
 clear d49
 refine S.gb 14 .nil (f_barePoke (f_seenAs h m) page cell v).2 (fun ac w β h61 S => ?_) (fun ac w β h61 S => ?_)
 ·refine S.lt 10 h61 fun S => ?_
  refine S.go 2 .nil fun ac w β S => ?_
  refine drw ?_
  refine S.draw0 (f := 9) 8 (by kernel_rfl) (by kernel_rfl) fun w S => ?_
  refine S.hq 0 [0] [] [(34, .p 2 1)] .nil fun ac S => ?_
  refine S.hq 1 [1] [] [(35, .v (slv h.mons.length q1.mons.1))] .nil fun ac S => ?_
  refine S.hq 2 [2] [] [(36, .v (I m))] .nil fun ac S => ?_
  refine S.hq 3 [3] [] [(37, .p 3 1)] .nil fun ac S => ?_
  refine S.hq 4 [4] [] [(38, .v (slv (f_barePoke (f_seenAs h m) page cell v).1.guests.length q42.guests.1))] .nil fun ac S => ?_
  refine WD.one (i := 5) (by kernel_rfl) ?_
  refine id (S.k1 39 (c_impl_copyGuests w (f_barePoke (f_seenAs h m) page cell v).1.guests q42.guests (S.rd (RBare.guests (d := (f_barePoke (f_seenAs h m) page cell v).1) o46.rn))) fun ac w N q62 F63 S up o64 d65 => ?_)
  refine WD.next S up (by kernel_rfl) ?_
  have d66 := Disj.w d65 o6.sub
  have d67 := Disj.w d65 o9.sub
  have d68 := Disj.w d65 o12.sub
  have d69 := Disj.w d65 o15.sub
  replace o6 := o6.up up
  replace o9 := o9.up up
  replace o12 := o12.up up
  replace o15 := o15.up up
  replace o46 := o46.up up
  clear up d65
  refine S.hq 6 [7, 6] [] [(40, .v (pt q1.mons.1.b (q1.mons.1.off + m.toNat * 9)))] (.cons (qt o9.rn m Tryz.underlying57) .nil) fun ac S => ?_
  refine S.hq 7 [7] [] [(41, .v (pt q1.mons.1.b (q1.mons.1.off + m.toNat * 9 + 3)))] .nil fun ac S => ?_
  refine WD.one (i := 8) (by kernel_rfl) ?_
  refine id (S.sE (α := TMon) o9 (t := 25) (k := m.toNat) (j := 3) (off := q1.mons.1.off + m.toNat * 9 + 3) (v := slv (f_barePoke (f_seenAs h m) page cell v).1.guests.length q62.1) (y := ({ el h.mons m.toNat with guests := (f_barePoke (f_seenAs h m) page cell v).1.guests } : TMon)) (q := ({ q1.mons.2 m.toNat with guests := q62 } : PMon)) (fun G g_ gF => ⟨_, owl_Mon_guests g_ o64.own (fun b h h2 => d67 b (gF b h) h2), fun _ h => h⟩) d67 o64.sub o64.young fun w N F72 q73 S up o71 d74 s75 n76 => ?_)
  refine WD.last (by kernel_rfl) ?_
  have d77 := d74 _ d17 d66 o6.sub
  have d78 := d74 _ (Disj.symm d20) d68 o12.sub
  have d79 := d74 _ (Disj.symm d21) d69 o15.sub
  replace o6 := o6.upF d17 up
  replace o12 := o12.upF (Disj.symm d20) up
  replace o15 := o15.upF (Disj.symm d21) up
  replace o46 := o46.upF (Disj.symm d57) up
  clear up d74 o9 n76
  have l81 : (h.mons.set m.toNat ({ el h.mons m.toNat with guests := (f_barePoke (f_seenAs h m) page cell v).1.guests })).length = h.mons.length := List.length_set
  replace S := S.z (σ' := ⟨[(1, .v (I m)), (6, .p 1 0), (8, .p 2 0), (9, .p 3 0), (10, .v (B true)), (39, .v (slv (f_barePoke (f_seenAs h m) page cell v).1.guests.length q62.1)), (41, .v (pt q1.mons.1.b (q1.mons.1.off + m.toNat * 9 + 3)))], [GT.cells h ph, Zc THost, [slv h.mem.length q1.mem.1, slv h.mons.length q1.mons.1, slv h.buf.length q1.buf.1, slv h.iobuf.length q1.iobuf.1], GT.cells (f_barePoke (f_seenAs h m) page cell v).1 q42]⟩)
  replace S := S.cast (σ' := ⟨[(1, .v (I m)), (6, .p 1 0), (8, .p 2 0), (9, .p 3 0), (10, .v (B true)), (39, .v (slv (f_barePoke (f_seenAs h m) page cell v).1.guests.length q62.1)), (41, .v (pt q1.mons.1.b (q1.mons.1.off + m.toNat * 9 + 3)))], [GT.cells h ph, Zc THost, [slv h.mem.length q1.mem.1, slv (h.mons.set m.toNat ({ el h.mons m.toNat with guests := (f_barePoke (f_seenAs h m) page cell v).1.guests })).length q1.mons.1, slv h.buf.length q1.buf.1, slv h.iobuf.length q1.iobuf.1], GT.cells (f_barePoke (f_seenAs h m) page cell v).1 q42]⟩) (by rw [show (h.mons.set m.toNat ({ el h.mons m.toNat with guests := (f_barePoke (f_seenAs h m) page cell v).1.guests })).length = h.mons.length by omega])
  refine WD.done (by kernel_rfl) ?_ _
  refine S.ex fun S => ?_
  refine S.go 9 (.cons (qt o71.rn m Tryz.underlying57) .nil) fun ac w β S => S.SF (α := TMon) o71 (t := 3) (k := m.toNat) (j := 5) (off := q1.mons.1.off + m.toNat * 9 + 5) (v := I (f_barePoke (f_seenAs h m) page cell v).1.pend) (y := ({ el (h.mons.set m.toNat ({ el h.mons m.toNat with guests := (f_barePoke (f_seenAs h m) page cell v).1.guests })) m.toNat with pend := (f_barePoke (f_seenAs h m) page cell v).1.pend } : TMon)) (q := ((q1.mons.1, q73).2 m.toNat)) (fun G g_ _ => ⟨G, ows_Mon_pend g_ (RBare.pend (d := (f_barePoke (f_seenAs h m) page cell v).1) o46.rn), fun _ h => .inl h⟩) fun w N F83 q84 S up o82 d85 s86 n87 => ?_
  have d88 := d85 _ d77 (fun b _ h => False.elim h) o6.sub
  have d89 := d85 _ d78 (fun b _ h => False.elim h) o12.sub
  have d90 := d85 _ d79 (fun b _ h => False.elim h) o15.sub
  replace o6 := o6.upF d77 up
  replace o12 := o12.upF d78 up
  replace o15 := o15.upF d79 up
  clear up d85 o71 n87
  have l92 : ((h.mons.set m.toNat ({ el h.mons m.toNat with guests := (f_barePoke (f_seenAs h m) page cell v).1.guests })).set m.toNat ({ el (h.mons.set m.toNat ({ el h.mons m.toNat with guests := (f_barePoke (f_seenAs h m) page cell v).1.guests })) m.toNat with pend := (f_barePoke (f_seenAs h m) page cell v).1.pend })).length = (h.mons.set m.toNat ({ el h.mons m.toNat with guests := (f_barePoke (f_seenAs h m) page cell v).1.guests })).length := List.length_set
  replace S := S.z (σ' := ⟨[(6, .p 1 0), (8, .p 2 0), (10, .v (B true)), (46, .v (I (f_barePoke (f_seenAs h m) page cell v).1.pend)), (48, .v (pt q1.mons.1.b (q1.mons.1.off + m.toNat * 9 + 5)))], [GT.cells h ph, Zc THost, [slv h.mem.length q1.mem.1, slv (h.mons.set m.toNat ({ el h.mons m.toNat with guests := (f_barePoke (f_seenAs h m) page cell v).1.guests })).length q1.mons.1, slv h.buf.length q1.buf.1, slv h.iobuf.length q1.iobuf.1], GT.cells (f_barePoke (f_seenAs h m) page cell v).1 q42]⟩)
  replace S := S.cast (σ' := ⟨[(6, .p 1 0), (8, .p 2 0), (10, .v (B true)), (46, .v (I (f_barePoke (f_seenAs h m) page cell v).1.pend)), (48, .v (pt q1.mons.1.b (q1.mons.1.off + m.toNat * 9 + 5)))], [GT.cells h ph, Zc THost, [slv h.mem.length q1.mem.1, slv ((h.mons.set m.toNat ({ el h.mons m.toNat with guests := (f_barePoke (f_seenAs h m) page cell v).1.guests })).set m.toNat ({ el (h.mons.set m.toNat ({ el h.mons m.toNat with guests := (f_barePoke (f_seenAs h m) page cell v).1.guests })) m.toNat with pend := (f_barePoke (f_seenAs h m) page cell v).1.pend })).length q1.mons.1, slv h.buf.length q1.buf.1, slv h.iobuf.length q1.iobuf.1], GT.cells (f_barePoke (f_seenAs h m) page cell v).1 q42]⟩) (by rw [show ((h.mons.set m.toNat ({ el h.mons m.toNat with guests := (f_barePoke (f_seenAs h m) page cell v).1.guests })).set m.toNat ({ el (h.mons.set m.toNat ({ el h.mons m.toNat with guests := (f_barePoke (f_seenAs h m) page cell v).1.guests })) m.toNat with pend := (f_barePoke (f_seenAs h m) page cell v).1.pend })).length = (h.mons.set m.toNat ({ el h.mons m.toNat with guests := (f_barePoke (f_seenAs h m) page cell v).1.guests })).length by omega])
  refine S.is fun S => ?_
  refine S.gr 11 .nil [GT.val (⟨h.mem, ((h.mons.set m.toNat ({ el h.mons m.toNat with guests := (f_barePoke (f_seenAs h m) page cell v).1.guests })).set m.toNat ({ el (h.mons.set m.toNat ({ el h.mons m.toNat with guests := (f_barePoke (f_seenAs h m) page cell v).1.guests })) m.toNat with pend := (f_barePoke (f_seenAs h m) page cell v).1.pend })), h.buf, h.iobuf⟩ : THost) (⟨q1.mem, (q1.mons.1, q84), q1.buf, q1.iobuf⟩ : PHost), B true] fun ac w β S => ?_
  have o93 := ow_Host (x := (⟨h.mem, ((h.mons.set m.toNat ({ el h.mons m.toNat with guests := (f_barePoke (f_seenAs h m) page cell v).1.guests })).set m.toNat ({ el (h.mons.set m.toNat ({ el h.mons m.toNat with guests := (f_barePoke (f_seenAs h m) page cell v).1.guests })) m.toNat with pend := (f_barePoke (f_seenAs h m) page cell v).1.pend })), h.buf, h.iobuf⟩ : THost)) (p := (⟨q1.mem, (q1.mons.1, q84), q1.buf, q1.iobuf⟩ : PHost)) o6 o82 o12 o15 d88 d18 d19 (Disj.symm d89) (Disj.symm d90) d22 
  exact ret2_of (p' := ()) S (show h = (⟨h.mem, ((h.mons.set m.toNat ({ el h.mons m.toNat with guests := (f_barePoke (f_seenAs h m) page cell v).1.guests })).set m.toNat ({ el (h.mons.set m.toNat ({ el h.mons m.toNat with guests := (f_barePoke (f_seenAs h m) page cell v).1.guests })) m.toNat with pend := (f_barePoke (f_seenAs h m) page cell v).1.pend })), h.buf, h.iobuf⟩ : THost) from k0_impl_reflected_impl_HostPoke_1) (show f_pokeOk h m page cell v = true from k1_impl_reflected_impl_HostPoke_1) rfl rfl o93 trivial
 refine S.lt 10 h61 fun S => ?_
 refine S.gr 12 .nil [GT.val h q1, B false] fun ac w β S => ?_
 have o94 := ow_Host (x := h) (p := q1) o6 o9 o12 o15 d17 d18 d19 d20 d21 d22 
 exact ret2_of (p' := ()) S (show h = h from k0_impl_reflected_impl_HostPoke_1) (show f_pokeOk h m page cell v = false from k1_impl_reflected_impl_HostPoke_1) rfl rfl o94 trivial

theorem c_impl_HostSet (w0 : World) (h : THost) (ph : PHost) (hh : RD w0 h ph) (m : Int) (g : Int) (hg : In64 g) (page : Int) (hpage : In64 page) (s : TSlot) (hs : RSlot s) : Calls Tryz.prog 21 [GT.val h ph, I m, I g, I page, GT.val s ()].toArray w0 (Ret2 NoB w0 ((f_hostSet h m g page s).1 : THost) ((f_hostSet h m g page s).2 : Bool)) := by
 refine Calls.run NoB Tryz.func21 ?_
 intro ac β S
 have hleh_mem : h.mem.length ≤ 4194304 := LRd.le (RHost.mem (d := h) hh)
 have hleh_mons : h.mons.length ≤ 4194304 := LRd.le (RHost.mons (d := h) hh)
 have hleh_buf : h.buf.length ≤ 4194304 := LRd.le (RHost.buf (d := h) hh)
 have hleh_iobuf : h.iobuf.length ≤ 4194304 := LRd.le (RHost.iobuf (d := h) hh)
 have hlog := hg.lo; have hhig := hg.hi
 have hlopage := hpage.lo; have hhipage := hpage.hi
 refine S.go 11 .nil fun ac w β S => ?_
 refine S.Frz 1 g () hg fun β N b1 F2 S up o3 d4 => ?_
 clear up d4
 refine S.Frz 1 page () hpage fun β N b5 F6 S up o7 d8 => ?_
 replace o3 := o3.up up
 clear up d8
 refine S.Frz 1 s () hs fun β N b10 F11 S up o12 d13 => ?_
 replace o3 := o3.up up
 replace o7 := o7.up up
 clear up d13
 refine S.go 4 .nil fun ac w β S => S.K2 (r := (f_reflected h m (f_bareSet (f_seenAs h m) g page s)).1) (r' := (f_reflected h m (f_bareSet (f_seenAs h m) g page s)).2) (d := 15) (c_impl_reflected_impl_HostSet_1 w h ph (S.rd (S.arg hh)) m g (cap1 b1 () : LP Int) (S.rd o3.rn) page (cap1 b5 () : LP Int) (S.rd o7.rn) s (cap1 b10 () : LP TSlot) (S.rd o12.rn)) fun ac w N q16 q17 F18 F19 S up o20 o21 d22 d23 d24 => ?_
 clear up d22
 clear d23
 refine S.gr 7 .nil [GT.val (f_reflected h m (f_bareSet (f_seenAs h m) g page s)).1 q16, B (f_reflected h m (f_bareSet (f_seenAs h m) g page s)).2] fun ac w β S => ?_
 exact ret2_of (p' := ()) S (show (f_hostSet h m g page s).1 = (f_reflected h m (f_bareSet (f_seenAs h m) g page s)).1 by clear S; rfl) (show (f_hostSet h m g page s).2 = (f_reflected h m (f_bareSet (f_seenAs h m) g page s)).2 by clear S; rfl) rfl rfl o20 trivial

theorem k0_impl_Forget {p : Prop} (h : p := by clear S; (unfold f_forget; (repeat' split) <;> first | rfl | (exfalso; omega) | (exfalso; simp_all; done))) : p := h
theorem c_impl_Forget (w0 : World) (k : TKept) (pk : PKept) (hk : RD w0 k pk) (page : Int) : Calls Tryz.prog 62 [GT.val k pk, I page].toArray w0 (Ret1 NoB w0 (f_forget k page : TKept)) := by
 refine Calls.run NoB Tryz.func62 ?_
 intro ac β S
 have hlek_known : k.known.length ≤ 4194304 := LRd.le (RKept.known (d := k) hk)
 have hlek_slots : k.slots.length ≤ 4194304 := LRd.le (RKept.slots (d := k) hk)
 refine S.go 9 .nil fun ac w β S => S.K1 (r := k) (d := 7) (c_impl_copyKept w k pk (S.rd (S.arg hk))) fun ac w N q1 F2 S up o3 d4 => ?_
 clear up d4
 obtain ⟨F5, F8, o6, o9, _, _, d11⟩ := sp_Kept o3
 refine S.gb 13 (.cons (Q_call fun w hw => c_impl_has w page (k.known.length : Int) (by omega)) .nil) (f_within page 0 ((k.known.length : Int) - 1)) (fun ac w β h12 S => ?_) (fun ac w β h12 S => ?_)
 ·have g13 := within_t h12
  refine S.gb 8 (.cons (Q_call fun w hw => c_impl_has w page (k.slots.length : Int) (by omega)) .nil) (f_within page 0 ((k.slots.length : Int) - 1)) (fun ac w β h14 S => ?_) (fun ac w β h14 S => ?_)
  ·have g15 := within_t h14
   refine S.go 7 (.cons (qt o6.rn page Tryz.underlying66) .nil) fun ac w β S => S.SF (α := Bool) o6 (t := 4) (k := page.toNat) (j := 0) (off := q1.known.1.off + page.toNat * 1) (v := B false) (y := false) (q := ()) (fun _ _ _ => ⟨NoB, trivial, fun _ h => False.elim h⟩) fun w N F17 q18 S up o16 d19 s20 n21 => ?_
   have d22 := d19 _ (Disj.symm d11) (fun b _ h => False.elim h) o9.sub
   replace o9 := o9.upF (Disj.symm d11) up
   clear up d19 o6 n21
   have l23 : (k.known.set page.toNat false).length = k.known.length := List.length_set
   replace S := S.z (σ' := ⟨[(1, .v (I page)), (4, .p 1 0), (5, .p 2 0), (23, .v (pt q1.known.1.b (q1.known.1.off + page.toNat * 1)))], [GT.cells k pk, Zc TKept, [slv k.known.length q1.known.1, slv k.slots.length q1.slots.1]]⟩)
   replace S := S.cast (σ' := ⟨[(1, .v (I page)), (4, .p 1 0), (5, .p 2 0), (23, .v (pt q1.known.1.b (q1.known.1.off + page.toNat * 1)))], [GT.cells k pk, Zc TKept, [slv (k.known.set page.toNat false).length q1.known.1, slv k.slots.length q1.slots.1]]⟩) (by rw [show (k.known.set page.toNat false).length = k.known.length by omega])
   refine S.is fun S => ?_
   refine S.go 2 .nil fun ac w β S => ?_
   refine drw ?_
   refine S.draw0 (f := 6) 5 (by kernel_rfl) (by kernel_rfl) fun w S => ?_
   refine S.hq 0 [0] [] [(24, .p 2 1)] .nil fun ac S => ?_
   refine S.hq 1 [1] [] [(25, .v (slv k.slots.length q1.slots.1))] .nil fun ac S => ?_
   refine S.hq 2 [2] [] [(26, .v (I page))] .nil fun ac S => ?_
   refine S.sq 3 [] [(27, .v (GT.val (⟨-1, 0⟩ : TSlot) ()))] 3 [] (.cons (Q_call fun w hw => c_impl_NoSlot w ) .nil) fun ac w β S => ?_
   refine S.hq 4 [4] [] [(28, .v (pt q1.slots.1.b (q1.slots.1.off + page.toNat * 2)))] (.cons (qt o9.rn page Tryz.underlying45) .nil) fun ac S => ?_
   refine WD.one (i := 5) (by kernel_rfl) ?_
   have e24 : RSlot (el k.slots page.toNat) := (LRd.el o9.rn page.toNat (by omega))
   refine id (S.sF (α := TSlot) o9 (t := 44) (k := page.toNat) (j := 0) (off := q1.slots.1.off + page.toNat * 2) (v := GT.val (⟨-1, 0⟩ : TSlot) ()) (y := (⟨-1, 0⟩ : TSlot)) (q := ()) (fun _ _ _ => ⟨NoB, (show RSlot ⟨-1, 0⟩ from ⟨⟨by decide, by decide⟩, ⟨by decide, by decide⟩⟩), fun _ h => False.elim h⟩) fun w N F26 q27 S up o25 d28 s29 n30 => ?_)
   refine WD.last (by kernel_rfl) ?_
   have d31 := d28 _ (Disj.symm d22) (fun b _ h => False.elim h) o16.sub
   replace o16 := o16.upF (Disj.symm d22) up
   clear up d28 o9 n30
   have l32 : (k.slots.set page.toNat (⟨-1, 0⟩ : TSlot)).length = k.slots.length := List.length_set
   replace S := S.z (σ' := ⟨[(4, .p 1 0), (5, .p 2 0), (27, .v (GT.val (⟨-1, 0⟩ : TSlot) ())), (28, .v (pt q1.slots.1.b (q1.slots.1.off + page.toNat * 2)))], [GT.cells k pk, Zc TKept, [slv (k.known.set page.toNat false).length q1.known.1, slv k.slots.length q1.slots.1]]⟩)
   replace S := S.cast (σ' := ⟨[(4, .p 1 0), (5, .p 2 0), (27, .v (GT.val (⟨-1, 0⟩ : TSlot) ())), (28, .v (pt q1.slots.1.b (q1.slots.1.off + page.toNat * 2)))], [GT.cells k pk, Zc TKept, [slv (k.known.set page.toNat false).length q1.known.1, slv (k.slots.set page.toNat (⟨-1, 0⟩ : TSlot)).length q1.slots.1]]⟩) (by rw [show (k.slots.set page.toNat (⟨-1, 0⟩ : TSlot)).length = k.slots.length by omega])
   refine WD.done (by kernel_rfl) ?_ _
   refine S.ex fun S => ?_
   refine S.gr 8 .nil [GT.val (⟨(k.known.set page.toNat false), (k.slots.set page.toNat (⟨-1, 0⟩ : TSlot))⟩ : TKept) (⟨(q1.known.1, q18), (q1.slots.1, q27)⟩ : PKept)] fun ac w β S => ?_
   have o33 := ow_Kept (x := (⟨(k.known.set page.toNat false), (k.slots.set page.toNat (⟨-1, 0⟩ : TSlot))⟩ : TKept)) (p := (⟨(q1.known.1, q18), (q1.slots.1, q27)⟩ : PKept)) o16 o25 d31 
   exact ret1_of S (show f_forget k page = (⟨(k.known.set page.toNat false), (k.slots.set page.toNat (⟨-1, 0⟩ : TSlot))⟩ : TKept) from k0_impl_Forget) rfl o33
  have g34 := within_f h14
  refine S.gr 10 .nil [GT.val k q1] fun ac w β S => ?_
  have o35 := ow_Kept (x := k) (p := q1) o6 o9 d11 
  exact ret1_of S (show f_forget k page = k from k0_impl_Forget) rfl o35
 have g36 := within_f h12
 refine S.gr 18 .nil [GT.val k q1] fun ac w β S => ?_
 have o37 := ow_Kept (x := k) (p := q1) o6 o9 d11 
 exact ret1_of S (show f_forget k page = k from k0_impl_Forget) rfl o37

theorem k0_impl_TagOf {p : Prop} (h : p := by clear S; (first | (unfold f_tagOf; rw [if_pos (by omega)]; done) | (unfold f_tagOf; rw [if_pos (by omega)]; first | rfl | (simp; done)) | (unfold f_tagOf; rw [if_neg (by omega)]; done) | (unfold f_tagOf; rw [if_neg (by omega)]; first | rfl | (simp; done)))) : p := h
theorem c_impl_TagOf (w0 : World) (m : Int) (g : Int) : Calls Tryz.prog 64 [I m, I g].toArray w0 (fun e w' => e = .returned (I (f_tagOf m g)) ∧ Chg NoB w0 w') := by
 refine Calls.run NoB Tryz.func64 ?_
 intro ac β S
 refine S.gb 12 (.cons (Q_call fun w hw => c_impl_has w m 3 (by omega)) .nil) (!(f_within m 0 (3 - 1))) (fun ac w β h1 S => ?_) (fun ac w β h1 S => ?_)
 ·have h2 := not_t h1
  have g3 := within_f h2
  exact S.gf 13 .nil [I 0] (retI k0_impl_TagOf)
 have h4 := not_f h1
 have g5 := within_t h4
 refine S.gb 6 (.cons (Q_call fun w hw => c_impl_has w g 2 (by omega)) .nil) (!(f_within g 0 (2 - 1))) (fun ac w β h6 S => ?_) (fun ac w β h6 S => ?_)
 ·have h7 := not_t h6
  have g8 := within_f h7
  exact S.gf 7 .nil [I 0] (retI k0_impl_TagOf)
 have h9 := not_f h6
 have g10 := within_t h9
 exact S.gf 14 (.cons (qp 1 g) (.cons (Q_mul (x := m) (y := 2) ⟨by omega, by omega⟩) (.cons (qp (1 + g) (m * 2)) .nil))) [I ((1 + g) + (m * 2))] (retI k0_impl_TagOf)

theorem c_impl_FlushPage_1 (w0 : World) (en : TEntry) (tag : Int) (qtag : LP Int) (htag : RD w0 [tag] qtag) (page : Int) (qpage : LP Int) (hpage : RD w0 [page] qpage) : Calls Tryz.prog 126 [GT.val en (), pt qtag.1.b (qtag.1.off + 0 * 1), pt qpage.1.b (qpage.1.off + 0 * 1)].toArray w0 (fun e w' => e = .returned (B (f_samePg en tag page)) ∧ Chg NoB w0 w') := by
 refine Calls.run NoB Tryz.func126 ?_
 intro ac β S
 refine S.gd 13 (.cons (Q_el1 (S.arg htag) (t := 3) (k := 0) (Nat.succ_pos 0) rfl (by kernel_rfl)) .nil) (en.tag == tag) (fun ac w β h1 g2 S => ?_) (fun ac w β h1 g2 S => ?_)
 ·exact S.gf 9 (.cons (Q_el1 (S.arg hpage) (t := 3) (k := 0) (Nat.succ_pos 0) rfl (by kernel_rfl)) .nil) [B (en.page == page)] (retB (by clear S; (first | (rw [samePg_f1 (by assumption)]; done) | (unfold f_samePg; simp [*]; done))))
 exact S.gf 9 .nil [B false] (retB (by clear S; (first | (rw [samePg_f1 (by assumption)]; done) | (unfold f_samePg; simp [*]; done))))

theorem c_impl_FlushHost_1 (w0 : World) (en : TEntry) (host : Int) (qhost : LP Int) (hhost : RD w0 [host] qhost) : Calls Tryz.prog 209 [GT.val en (), pt qhost.1.b (qhost.1.off + 0 * 1)].toArray w0 (fun e w' => e = .returned (B (f_onHost en host)) ∧ Chg NoB w0 w') := by
 refine Calls.run NoB Tryz.func209 ?_
 intro ac β S
 exact S.gf 16 (.cons (Q_el1 (S.arg hhost) (t := 3) (k := 0) (Nat.succ_pos 0) rfl (by kernel_rfl)) .nil) [B (en.host == host)] (retB (by clear S; rfl))

theorem c_impl_without_impl_FlushPage_1 (w0 : World) (b : List TEntry) (pb : LP TEntry) (hb : RD w0 b pb) (tag : Int) (qtag : LP Int) (htag : RD w0 [tag] qtag) (page : Int) (qpage : LP Int) (hpage : RD w0 [page] qpage) : Calls Tryz.prog 125 [slv b.length pb.1, .func (.func 126) #[] #[pt qtag.1.b (qtag.1.off + 0 * 1), pt qpage.1.b (qpage.1.off + 0 * 1)]].toArray w0 (Ret1 NoB w0 (f_without b (fun e => f_samePg e tag page) : List TEntry)) := by
 refine Calls.run NoB Tryz.func125 ?_
 intro ac β S
 have hleb : b.length ≤ 4194304 := LRd.le hb
 refine S.go 7 .nil fun ac w β S => S.B0 (α := TEntry) (d := 8) fun ac w N q1 F2 S up o3 d4 => ?_
 clear up d4
 refine S.go 12 .nil fun ac w β S => ?_
 refine lp (fun mm ac w => ∃ (k : Nat) (acc : List TEntry) (q5 : _) (F6 : _) (u : _) (N : _) (β : _), mm = b.length - k ∧ (k ≤ b.length) ∧ (acc = f_without (b.take k) (fun e => f_samePg e tag page)) ∧ St Tryz.prog Tryz.f125.ntmps w0 NoB u N β ⟨[(1, .v (.func (.func 126) #[] #[pt qtag.1.b (qtag.1.off + 0 * 1), pt qpage.1.b (qpage.1.off + 0 * 1)])), (5, .v (slv acc.length q5.1)), (9, .v (slv b.length pb.1)), (10, .v (I (b.length : Int))), (11, .v (I (k : Int)))], []⟩ ac w ∧ Ow w0 NoB u N F6 acc q5) _ ⟨0, ([] : List TEntry), q1, F2, _, _, _, rfl, o0, (by rfl), S.z, o3⟩ ?_
 clear S o3
 rintro f8 mm hf9 ac w ⟨k, acc, q5, F6, u, N, β, rfl, hk, hacc, S, o7⟩
 refine S.rs fun S => ?_
 have hlacc : acc.length ≤ k := by rw [hacc]; exact Nat.le_trans (without_len _ _) (List.length_take_le _ _)
 refine S.gd 6 .nil (decide ((k : Int) < (b.length : Int))) (fun ac w β h10 g11 S => ?_) (fun ac w β h10 g11 S => ?_)
 ·refine S.gb 21 (.cons (qn (S.arg hb) k Tryz.underlying58) (.cons (qs (S.arg hb) 155 k) (.cons (Q_call fun w hw => c_impl_FlushPage_1 w (el b k) tag qtag (rd_of (S.arg htag) hw) page qpage (rd_of (S.arg hpage) hw)) .nil))) (!(f_samePg (el b k) tag page)) (fun ac w β h12 S => ?_) (fun ac w β h12 S => ?_)
  ·have h13 := not_t h12
   refine S.go 4 .nil fun ac w β S => S.B1 (α := TEntry) (x := (el b k)) (p := ()) (F := NoB) (LRd.el (S.arg hb) k (by omega)) (fun b h => False.elim h) (fun b h => False.elim h) (d := 21) fun ac w N q14 F15 S up o16 d17 => ?_
   replace o7 := o7.up up
   clear up d17
   refine S.AF (α := TEntry) o7 o16.rn (fun _ _ h => h) (by' := 32) (d := 22) (lx := acc.length) (ly := 1) rfl rfl (show _ ≤ 4194304 by simp only [List.length_append, List.length_cons, List.length_nil]; omega) fun ac w N q19 F20 S up o21 d22 => ?_
   clear up d22
   refine S.ge 8 (.cons (qp (k : Int) 1) .nil) f8 fun ac w β S => hf9.of (b.length - (k + 1)) _ _ (by omega) ⟨k + 1, (acc ++ [(el b k)]), q19, F20, _, _, _, rfl, ?_, ?_, S.z, o21⟩
   ·exact oz
   ·clear S; (first | (rw [without_t (by omega) (by assumption), hacc]; done) | (rw [without_f (by omega) (by assumption), hacc]; done))
  have h24 := not_f h12
  refine S.ge 8 (.cons (qp (k : Int) 1) .nil) f8 fun ac w β S => hf9.of (b.length - (k + 1)) _ _ (by omega) ⟨k + 1, acc, q5, F6, _, _, _, rfl, ?_, ?_, S.z, o7⟩
  ·exact oz
  ·clear S; (first | (rw [without_t (by omega) (by assumption), hacc]; done) | (rw [without_f (by omega) (by assumption), hacc]; done))
 refine S.gr 13 .nil [slv acc.length q5.1] fun ac w β S => ?_
 exact ret1_of S (show f_without b (fun e => f_samePg e tag page) = acc by clear S; (rw [hacc, take_all (by omega)])) rfl o7

theorem c_impl_without_impl_FlushHost_1 (w0 : World) (b : List TEntry) (pb : LP TEntry) (hb : RD w0 b pb) (host : Int) (qhost : LP Int) (hhost : RD w0 [host] qhost) : Calls Tryz.prog 125 [slv b.length pb.1, .func (.func 209) #[] #[pt qhost.1.b (qhost.1.off + 0 * 1)]].toArray w0 (Ret1 NoB w0 (f_without b (fun e => f_onHost e host) : List TEntry)) := by
 refine Calls.run NoB Tryz.func125 ?_
 intro ac β S
 have hleb : b.length ≤ 4194304 := LRd.le hb
 refine S.go 7 .nil fun ac w β S => S.B0 (α := TEntry) (d := 8) fun ac w N q1 F2 S up o3 d4 => ?_
 clear up d4
 refine S.go 12 .nil fun ac w β S => ?_
 refine lp (fun mm ac w => ∃ (k : Nat) (acc : List TEntry) (q5 : _) (F6 : _) (u : _) (N : _) (β : _), mm = b.length - k ∧ (k ≤ b.length) ∧ (acc = f_without (b.take k) (fun e => f_onHost e host)) ∧ St Tryz.prog Tryz.f125.ntmps w0 NoB u N β ⟨[(1, .v (.func (.func 209) #[] #[pt qhost.1.b (qhost.1.off + 0 * 1)])), (5, .v (slv acc.length q5.1)), (9, .v (slv b.length pb.1)), (10, .v (I (b.length : Int))), (11, .v (I (k : Int)))], []⟩ ac w ∧ Ow w0 NoB u N F6 acc q5) _ ⟨0, ([] : List TEntry), q1, F2, _, _, _, rfl, o0, (by rfl), S.z, o3⟩ ?_
 clear S o3
 rintro f8 mm hf9 ac w ⟨k, acc, q5, F6, u, N, β, rfl, hk, hacc, S, o7⟩
 refine S.rs fun S => ?_
 have hlacc : acc.length ≤ k := by rw [hacc]; exact Nat.le_trans (without_len _ _) (List.length_take_le _ _)
 refine S.gd 6 .nil (decide ((k : Int) < (b.length : Int))) (fun ac w β h10 g11 S => ?_) (fun ac w β h10 g11 S => ?_)
 ·refine S.gb 21 (.cons (qn (S.arg hb) k Tryz.underlying58) (.cons (qs (S.arg hb) 155 k) (.cons (Q_call fun w hw => c_impl_FlushHost_1 w (el b k) host qhost (rd_of (S.arg hhost) hw)) .nil))) (!(f_onHost (el b k) host)) (fun ac w β h12 S => ?_) (fun ac w β h12 S => ?_)
  ·have h13 := not_t h12
   refine S.go 4 .nil fun ac w β S => S.B1 (α := TEntry) (x := (el b k)) (p := ()) (F := NoB) (LRd.el (S.arg hb) k (by omega)) (fun b h => False.elim h) (fun b h => False.elim h) (d := 21) fun ac w N q14 F15 S up o16 d17 => ?_
   replace o7 := o7.up up
   clear up d17
   refine S.AF (α := TEntry) o7 o16.rn (fun _ _ h => h) (by' := 32) (d := 22) (lx := acc.length) (ly := 1) rfl rfl (show _ ≤ 4194304 by simp only [List.length_append, List.length_cons, List.length_nil]; omega) fun ac w N q19 F20 S up o21 d22 => ?_
   clear up d22
   refine S.ge 8 (.cons (qp (k : Int) 1) .nil) f8 fun ac w β S => hf9.of (b.length - (k + 1)) _ _ (by omega) ⟨k + 1, (acc ++ [(el b k)]), q19, F20, _, _, _, rfl, ?_, ?_, S.z, o21⟩
   ·exact oz
   ·clear S; (first | (rw [without_t (by omega) (by assumption), hacc]; done) | (rw [without_f (by omega) (by assumption), hacc]; done))
  have h24 := not_f h12
  refine S.ge 8 (.cons (qp (k : Int) 1) .nil) f8 fun ac w β S => hf9.of (b.length - (k + 1)) _ _ (by omega) ⟨k + 1, acc, q5, F6, _, _, _, rfl, ?_, ?_, S.z, o7⟩
  ·exact oz
  ·clear S; (first | (rw [without_t (by omega) (by assumption), hacc]; done) | (rw [without_f (by omega) (by assumption), hacc]; done))
 refine S.gr 13 .nil [slv acc.length q5.1] fun ac w β S => ?_
 exact ret1_of S (show f_without b (fun e => f_onHost e host) = acc by clear S; (rw [hacc, take_all (by omega)])) rfl o7

theorem c_impl_FlushPage (w0 : World) (b : List TEntry) (pb : LP TEntry) (hb : RD w0 b pb) (tag : Int) (htag : In64 tag) (page : Int) (hpage : In64 page) : Calls Tryz.prog 63 [slv b.length pb.1, I tag, I page].toArray w0 (Ret1 NoB w0 (f_flushPage b tag page : List TEntry)) := by
 refine Calls.run NoB Tryz.func63 ?_
 intro ac β S
 have hleb : b.length ≤ 4194304 := LRd.le hb
 have hlotag := htag.lo; have hhitag := htag.hi
 have hlopage := hpage.lo; have hhipage := hpage.hi
 refine S.go 8 .nil fun ac w β S => ?_
 refine S.Frz 0 tag () htag fun β N b1 F2 S up o3 d4 => ?_
 clear up d4
 refine S.Frz 0 page () hpage fun β N b5 F6 S up o7 d8 => ?_
 replace o3 := o3.up up
 clear up d8
 refine S.go 3 .nil fun ac w β S => S.K1 (r := f_without b (fun e => f_samePg e tag page)) (d := 9) (c_impl_without_impl_FlushPage_1 w b pb (S.rd (S.arg hb)) tag (cap1 b1 () : LP Int) (S.rd o3.rn) page (cap1 b5 () : LP Int) (S.rd o7.rn)) fun ac w N q10 F11 S up o12 d13 => ?_
 clear up d13
 refine S.gr 4 .nil [slv (f_without b (fun e => f_samePg e tag page)).length q10.1] fun ac w β S => ?_
 exact ret1_of S (show f_flushPage b tag page = (f_without b (fun e => f_samePg e tag page)) by clear S; rfl) rfl o12

theorem k0_impl_HostFlush {p : Prop} (h : p := by clear S; (first | (rw [hostFlush_no (by assumption)]; done) | (rw [hostFlush_yes (by assumption)]; done) | (rw [hostFlush_yes (by assumption)]; simp [f_flushed]; done))) : p := h
theorem c_impl_HostFlush (w0 : World) (h : THost) (ph : PHost) (hh : RD w0 h ph) (m : Int) (g : Int) (hg : In64 g) (page : Int) (hpage : In64 page) : Calls Tryz.prog 22 [GT.val h ph, I m, I g, I page].toArray w0 (Ret2 NoB w0 ((f_hostFlush h m g page).1 : THost) ((f_hostFlush h m g page).2 : Bool)) := by
 refine Calls.run NoB Tryz.func22 ?_
 intro ac β S
 have hleh_mem : h.mem.length ≤ 4194304 := LRd.le (RHost.mem (d := h) hh)
 have hleh_mons : h.mons.length ≤ 4194304 := LRd.le (RHost.mons (d := h) hh)
 have hleh_buf : h.buf.length ≤ 4194304 := LRd.le (RHost.buf (d := h) hh)
 have hleh_iobuf : h.iobuf.length ≤ 4194304 := LRd.le (RHost.iobuf (d := h) hh)
 have hlog := hg.lo; have hhig := hg.hi
 have hlopage := hpage.lo; have hhipage := hpage.hi
 refine S.go 10 .nil fun ac w β S => ?_
 refine S.Frz 1 g () hg fun β N b1 F2 S up o3 d4 => ?_
 clear up d4
 refine S.Frz 1 page () hpage fun β N b5 F6 S up o7 d8 => ?_
 replace o3 := o3.up up
 clear up d8
 refine S.go 4 .nil fun ac w β S => S.K2 (r := (f_reflected h m (f_bareFlush (f_seenAs h m) g page)).1) (r' := (f_reflected h m (f_bareFlush (f_seenAs h m) g page)).2) (d := 16) (c_impl_reflected_impl_HostFlush_1 w h ph (S.rd (S.arg hh)) m g (cap1 b1 () : LP Int) (S.rd o3.rn) page (cap1 b5 () : LP Int) (S.rd o7.rn)) fun ac w N q10 q11 F12 F13 S up o14 o15 d16 d17 d18 => ?_
 have d21 := Disj.w d16 o3.sub
 have d22 := Disj.w d16 o7.sub
 replace o3 := o3.up up
 replace o7 := o7.up up
 clear up d16
 clear d17
 obtain ⟨F23, F26, F29, F32, o24, o27, o30, o33, _, s28, _, _, d35, d36, d37, d38, d39, d40⟩ := sp_Host o14
 refine S.gb 14 .nil (f_reflected h m (f_bareFlush (f_seenAs h m) g page)).2 (fun ac w β h41 S => ?_) (fun ac w β h41 S => ?_)
 ·have g42 := reflFlush_bd h41
  refine S.lt 11 h41 fun S => ?_
  refine S.go 2 .nil fun ac w β S => ?_
  refine drw ?_
  refine S.draw0 (f := 20) 19 (by kernel_rfl) (by kernel_rfl) fun w S => ?_
  refine S.hq 0 [0] [] [(20, .p 2 1)] .nil fun ac S => ?_
  refine S.hq 1 [1] [] [(21, .v (slv (f_reflected h m (f_bareFlush (f_seenAs h m) g page)).1.mons.length q10.mons.1))] .nil fun ac S => ?_
  refine S.hq 2 [2] [] [(22, .v (I m))] .nil fun ac S => ?_
  refine S.hq 3 [3] [] [(23, .v (pt q10.mons.1.b (q10.mons.1.off + m.toNat * 9)))] (.cons (qt o27.rn m Tryz.underlying57) .nil) fun ac S => ?_
  refine S.hq 4 [4] [] [(24, .v (pt q10.mons.1.b (q10.mons.1.off + m.toNat * 9 + 7)))] .nil fun ac S => ?_
  refine S.hq 5 [5] [] [(25, .v (slv (el (f_reflected h m (f_bareFlush (f_seenAs h m) g page)).1.mons m.toNat).tables.length (q10.mons.2 m.toNat).tables.1))] (.cons (qc o27.rn 97 m.toNat 7 (slv (el (f_reflected h m (f_bareFlush (f_seenAs h m) g page)).1.mons m.toNat).tables.length (q10.mons.2 m.toNat).tables.1)) .nil) fun ac S => ?_
  refine S.hq 6 [6] [] [(26, .v (I g))] (.cons (Q_el1 o3.rn (t := 3) (k := 0) (Nat.succ_pos 0) rfl (by kernel_rfl)) .nil) fun ac S => ?_
  refine S.hq 7 [7] [] [(27, .p 2 1)] .nil fun ac S => ?_
  refine S.hq 8 [8] [] [(28, .v (slv (f_reflected h m (f_bareFlush (f_seenAs h m) g page)).1.mons.length q10.mons.1))] .nil fun ac S => ?_
  refine S.hq 9 [9] [] [(29, .v (I m))] .nil fun ac S => ?_
  refine S.hq 10 [10] [] [(30, .v (pt q10.mons.1.b (q10.mons.1.off + m.toNat * 9)))] (.cons (qt o27.rn m Tryz.underlying57) .nil) fun ac S => ?_
  refine S.hq 11 [11] [] [(31, .v (pt q10.mons.1.b (q10.mons.1.off + m.toNat * 9 + 7)))] .nil fun ac S => ?_
  refine S.hq 12 [12] [] [(32, .v (slv (el (f_reflected h m (f_bareFlush (f_seenAs h m) g page)).1.mons m.toNat).tables.length (q10.mons.2 m.toNat).tables.1))] (.cons (qc o27.rn 97 m.toNat 7 (slv (el (f_reflected h m (f_bareFlush (f_seenAs h m) g page)).1.mons m.toNat).tables.length (q10.mons.2 m.toNat).tables.1)) .nil) fun ac S => ?_
  refine S.hq 13 [13] [] [(33, .v (I g))] (.cons (Q_el1 o3.rn (t := 3) (k := 0) (Nat.succ_pos 0) rfl (by kernel_rfl)) .nil) fun ac S => ?_
  refine S.hq 14 [14] [] [(34, .v (pt (q10.mons.2 m.toNat).tables.1.b ((q10.mons.2 m.toNat).tables.1.off + g.toNat * 2)))] (.cons (qt (RMon.tables (d := (el (f_reflected h m (f_bareFlush (f_seenAs h m) g page)).1.mons m.toNat)) (LRd.el o27.rn m.toNat (by omega))) g Tryz.underlying97) .nil) fun ac S => ?_
  refine S.hq 15 [15] [] [(35, .v (GT.val (el (el (f_reflected h m (f_bareFlush (f_seenAs h m) g page)).1.mons m.toNat).tables g.toNat) ((q10.mons.2 m.toNat).tables.2 g.toNat)))] (.cons (qs (RMon.tables (d := (el (f_reflected h m (f_bareFlush (f_seenAs h m) g page)).1.mons m.toNat)) (LRd.el o27.rn m.toNat (by omega))) 106 g.toNat) .nil) fun ac S => ?_
  refine S.hq 16 [16] [] [(36, .v (I page))] (.cons (Q_el1 o7.rn (t := 3) (k := 0) (Nat.succ_pos 0) rfl (by kernel_rfl)) .nil) fun ac S => ?_
  refine WD.one (i := 17) (by kernel_rfl) ?_
  refine id (S.k1 37 (c_impl_Forget w (el (el (f_reflected h m (f_bareFlush (f_seenAs h m) g page)).1.mons m.toNat).tables g.toNat) ((q10.mons.2 m.toNat).tables.2 g.toNat) (S.rd (LRd.el (RMon.tables (d := (el (f_reflected h m (f_bareFlush (f_seenAs h m) g page)).1.mons m.toNat)) (LRd.el o27.rn m.toNat (by omega))) g.toNat (by omega))) page) fun ac w N q43 F44 S up o45 d46 => ?_)
  refine WD.next S up (by kernel_rfl) ?_
  have d49 := Disj.w d46 o24.sub
  have d50 := Disj.w d46 o27.sub
  replace o3 := o3.up up
  replace o7 := o7.up up
  replace o24 := o24.up up
  replace o27 := o27.up up
  replace o30 := o30.up up
  replace o33 := o33.up up
  clear up d46
  refine S.hq 18 [18] [] [(38, .v (pt (q10.mons.2 m.toNat).tables.1.b ((q10.mons.2 m.toNat).tables.1.off + g.toNat * 2)))] (.cons (qt (RMon.tables (d := (el (f_reflected h m (f_bareFlush (f_seenAs h m) g page)).1.mons m.toNat)) (LRd.el o27.rn m.toNat (by omega))) g Tryz.underlying97) .nil) fun ac S => ?_
  refine WD.one (i := 19) (by kernel_rfl) ?_
  obtain ⟨F53, o54, s55, b56⟩ := foc2_Mon_tables o27 (k := m.toNat) (show m.toNat < (f_reflected h m (f_bareFlush (f_seenAs h m) g page)).1.mons.length by omega)
  have l57 := LRd.le o54.rn
  have n58 := o54.sub
  refine id (S.sV (α := TKept) o54 (t := 106) (k := g.toNat) (off := (q10.mons.2 m.toNat).tables.1.off + g.toNat * 2) o45 (Disj.symm (Disj.symm (Disj.part d50 s55))) fun w N F60 q61 S up o59 d62 s63 n64 => ?_)
  refine WD.last (by kernel_rfl) ?_
  have d67 := d62 _ (Disj.symm (Disj.part (Disj.symm d35) s55)) d49 o24.sub
  replace o3 := o3.upF (Disj.symm (Disj.part (Disj.part (Disj.symm d21) s28) s55)) up
  replace o7 := o7.upF (Disj.symm (Disj.part (Disj.part (Disj.symm d22) s28) s55)) up
  replace o24 := o24.upF (Disj.symm (Disj.part (Disj.symm d35) s55)) up
  replace o30 := o30.upF (Disj.symm (Disj.part d38 s55)) up
  replace o33 := o33.upF (Disj.symm (Disj.part d39 s55)) up
  clear d62 o54
  obtain ⟨p70, o71, c72⟩ := b56 _ _ _ _ _ F44 up o59 s63 d50 (by show [slv _ _] = [slv _ _]; rw [List.length_set]) (fun b h => n64 b (n58 b h))
  clear up o59 n64
  have l73 : ((f_reflected h m (f_bareFlush (f_seenAs h m) g page)).1.mons.set m.toNat ({ el (f_reflected h m (f_bareFlush (f_seenAs h m) g page)).1.mons m.toNat with tables := ((el (f_reflected h m (f_bareFlush (f_seenAs h m) g page)).1.mons m.toNat).tables.set g.toNat (f_forget (el (el (f_reflected h m (f_bareFlush (f_seenAs h m) g page)).1.mons m.toNat).tables g.toNat) page)) })).length = (f_reflected h m (f_bareFlush (f_seenAs h m) g page)).1.mons.length := List.length_set
  replace S := S.z (σ' := ⟨[(1, .v (I m)), (6, .v (pt (cap1 b1 () : LP Int).1.b ((cap1 b1 () : LP Int).1.off + 0 * 1))), (7, .v (pt (cap1 b5 () : LP Int).1.b ((cap1 b5 () : LP Int).1.off + 0 * 1))), (8, .p 1 0), (10, .p 2 0), (11, .v (B true)), (37, .v (GT.val (f_forget (el (el (f_reflected h m (f_bareFlush (f_seenAs h m) g page)).1.mons m.toNat).tables g.toNat) page) q43)), (38, .v (pt (q10.mons.2 m.toNat).tables.1.b ((q10.mons.2 m.toNat).tables.1.off + g.toNat * 2)))], [GT.cells h ph, Zc THost, [slv (f_reflected h m (f_bareFlush (f_seenAs h m) g page)).1.mem.length q10.mem.1, slv (f_reflected h m (f_bareFlush (f_seenAs h m) g page)).1.mons.length q10.mons.1, slv (f_reflected h m (f_bareFlush (f_seenAs h m) g page)).1.buf.length q10.buf.1, slv (f_reflected h m (f_bareFlush (f_seenAs h m) g page)).1.iobuf.length q10.iobuf.1]]⟩)
  replace S := S.cast (σ' := ⟨[(1, .v (I m)), (6, .v (pt (cap1 b1 () : LP Int).1.b ((cap1 b1 () : LP Int).1.off + 0 * 1))), (7, .v (pt (cap1 b5 () : LP Int).1.b ((cap1 b5 () : LP Int).1.off + 0 * 1))), (8, .p 1 0), (10, .p 2 0), (11, .v (B true)), (37, .v (GT.val (f_forget (el (el (f_reflected h m (f_bareFlush (f_seenAs h m) g page)).1.mons m.toNat).tables g.toNat) page) q43)), (38, .v (pt (q10.mons.2 m.toNat).tables.1.b ((q10.mons.2 m.toNat).tables.1.off + g.toNat * 2)))], [GT.cells h ph, Zc THost, [slv (f_reflected h m (f_bareFlush (f_seenAs h m) g page)).1.mem.length q10.mem.1, slv ((f_reflected h m (f_bareFlush (f_seenAs h m) g page)).1.mons.set m.toNat ({ el (f_reflected h m (f_bareFlush (f_seenAs h m) g page)).1.mons m.toNat with tables := ((el (f_reflected h m (f_bareFlush (f_seenAs h m) g page)).1.mons m.toNat).tables.set g.toNat (f_forget (el (el (f_reflected h m (f_bareFlush (f_seenAs h m) g page)).1.mons m.toNat).tables g.toNat) page)) })).length q10.mons.1, slv (f_reflected h m (f_bareFlush (f_seenAs h m) g page)).1.buf.length q10.buf.1, slv (f_reflected h m (f_bareFlush (f_seenAs h m) g page)).1.iobuf.length q10.iobuf.1]]⟩) (by rw [show ((f_reflected h m (f_bareFlush (f_seenAs h m) g page)).1.mons.set m.toNat ({ el (f_reflected h m (f_bareFlush (f_seenAs h m) g page)).1.mons m.toNat with tables := ((el (f_reflected h m (f_bareFlush (f_seenAs h m) g page)).1.mons m.toNat).tables.set g.toNat (f_forget (el (el (f_reflected h m (f_bareFlush (f_seenAs h m) g page)).1.mons m.toNat).tables g.toNat) page)) })).length = (f_reflected h m (f_bareFlush (f_seenAs h m) g page)).1.mons.length by omega])
  refine WD.done (by kernel_rfl) ?_ _
  refine S.ex fun S => ?_
  refine S.go 2 .nil fun ac w β S => ?_
  refine drw ?_
  refine S.draw0 (f := 9) 8 (by kernel_rfl) (by kernel_rfl) fun w S => ?_
  refine S.hq 0 [0] [] [(39, .p 2 2)] .nil fun ac S => ?_
  refine S.hq 1 [1] [] [(40, .v (slv (f_reflected h m (f_bareFlush (f_seenAs h m) g page)).1.buf.length q10.buf.1))] .nil fun ac S => ?_
  refine S.hq 2 [2] [] [(41, .v (I m))] .nil fun ac S => ?_
  refine S.hq 3 [3] [] [(42, .v (I g))] (.cons (Q_el1 o3.rn (t := 3) (k := 0) (Nat.succ_pos 0) rfl (by kernel_rfl)) .nil) fun ac S => ?_
  refine S.hq 5 [5] [] [(44, .v (I page))] (.cons (Q_el1 o7.rn (t := 3) (k := 0) (Nat.succ_pos 0) rfl (by kernel_rfl)) .nil) fun ac S => ?_
  refine S.sq 4 [] [(43, .v (I (f_tagOf m g)))] 3 [] (.cons (Q_call fun w hw => c_impl_TagOf w m g) .nil) fun ac w β S => ?_
  refine WD.one (i := 6) (by kernel_rfl) ?_
  refine id (S.k1 45 (c_impl_FlushPage w (f_reflected h m (f_bareFlush (f_seenAs h m) g page)).1.buf q10.buf (S.rd o30.rn) (f_tagOf m g) (tagOf_in64 m g) page hpage) fun ac w N q74 F75 S up o76 d77 => ?_)
  refine WD.next S up (by kernel_rfl) ?_
  have d80 := Disj.w d77 o24.sub
  have d83 := Disj.w d77 o71.sub
  replace o3 := o3.up up
  replace o7 := o7.up up
  replace o24 := o24.up up
  replace o30 := o30.up up
  replace o33 := o33.up up
  replace o71 := o71.up up
  clear up d77
  refine S.hq 7 [7] [] [(46, .p 2 2)] .nil fun ac S => ?_
  refine S.sl 8 [] [] 3 [(2, [slv (f_reflected h m (f_bareFlush (f_seenAs h m) g page)).1.mem.length q10.mem.1, slv ((f_reflected h m (f_bareFlush (f_seenAs h m) g page)).1.mons.set m.toNat ({ el (f_reflected h m (f_bareFlush (f_seenAs h m) g page)).1.mons m.toNat with tables := ((el (f_reflected h m (f_bareFlush (f_seenAs h m) g page)).1.mons m.toNat).tables.set g.toNat (f_forget (el (el (f_reflected h m (f_bareFlush (f_seenAs h m) g page)).1.mons m.toNat).tables g.toNat) page)) })).length q10.mons.1, slv (f_flushPage (f_reflected h m (f_bareFlush (f_seenAs h m) g page)).1.buf (f_tagOf m g) page).length q74.1, slv (f_reflected h m (f_bareFlush (f_seenAs h m) g page)).1.iobuf.length q10.iobuf.1])] .nil fun ac w β S => ?_
  refine WD.done (by kernel_rfl) ?_ _
  refine S.ex fun S => ?_
  refine S.go 1 .nil fun ac w β S => ?_
  refine drw ?_
  refine S.draw0 (f := 9) 8 (by kernel_rfl) (by kernel_rfl) fun w S => ?_
  refine S.hq 0 [0] [] [(47, .p 2 3)] .nil fun ac S => ?_
  refine S.hq 1 [1] [] [(48, .v (slv (f_reflected h m (f_bareFlush (f_seenAs h m) g page)).1.iobuf.length q10.iobuf.1))] .nil fun ac S => ?_
  refine S.hq 2 [2] [] [(49, .v (I m))] .nil fun ac S => ?_
  refine S.hq 3 [3] [] [(50, .v (I g))] (.cons (Q_el1 o3.rn (t := 3) (k := 0) (Nat.succ_pos 0) rfl (by kernel_rfl)) .nil) fun ac S => ?_
  refine S.hq 5 [5] [] [(52, .v (I page))] (.cons (Q_el1 o7.rn (t := 3) (k := 0) (Nat.succ_pos 0) rfl (by kernel_rfl)) .nil) fun ac S => ?_
  refine S.sq 4 [] [(51, .v (I (f_tagOf m g)))] 3 [] (.cons (Q_call fun w hw => c_impl_TagOf w m g) .nil) fun ac w β S => ?_
  refine WD.one (i := 6) (by kernel_rfl) ?_
  refine id (S.k1 53 (c_impl_FlushPage w (f_reflected h m (f_bareFlush (f_seenAs h m) g page)).1.iobuf q10.iobuf (S.rd o33.rn) (f_tagOf m g) (tagOf_in64 m g) page hpage) fun ac w N q84 F85 S up o86 d87 => ?_)
  refine WD.next S up (by kernel_rfl) ?_
  have d88 := Disj.w d87 o24.sub
  have d90 := Disj.w d87 o71.sub
  have d91 := Disj.w d87 o76.sub
  replace o24 := o24.up up
  replace o33 := o33.up up
  replace o71 := o71.up up
  replace o76 := o76.up up
  clear up d87
  refine S.hq 7 [7] [] [(54, .p 2 3)] .nil fun ac S => ?_
  refine S.sl 8 [] [] 3 [(2, [slv (f_reflected h m (f_bareFlush (f_seenAs h m) g page)).1.mem.length q10.mem.1, slv ((f_reflected h m (f_bareFlush (f_seenAs h m) g page)).1.mons.set m.toNat ({ el (f_reflected h m (f_bareFlush (f_seenAs h m) g page)).1.mons m.toNat with tables := ((el (f_reflected h m (f_bareFlush (f_seenAs h m) g page)).1.mons m.toNat).tables.set g.toNat (f_forget (el (el (f_reflected h m (f_bareFlush (f_seenAs h m) g page)).1.mons m.toNat).tables g.toNat) page)) })).length q10.mons.1, slv (f_flushPage (f_reflected h m (f_bareFlush (f_seenAs h m) g page)).1.buf (f_tagOf m g) page).length q74.1, slv (f_flushPage (f_reflected h m (f_bareFlush (f_seenAs h m) g page)).1.iobuf (f_tagOf m g) page).length q84.1])] .nil fun ac w β S => ?_
  refine WD.done (by kernel_rfl) ?_ _
  refine S.ex fun S => ?_
  refine S.gr 10 .nil [GT.val (⟨(f_reflected h m (f_bareFlush (f_seenAs h m) g page)).1.mem, ((f_reflected h m (f_bareFlush (f_seenAs h m) g page)).1.mons.set m.toNat ({ el (f_reflected h m (f_bareFlush (f_seenAs h m) g page)).1.mons m.toNat with tables := ((el (f_reflected h m (f_bareFlush (f_seenAs h m) g page)).1.mons m.toNat).tables.set g.toNat (f_forget (el (el (f_reflected h m (f_bareFlush (f_seenAs h m) g page)).1.mons m.toNat).tables g.toNat) page)) })), (f_flushPage (f_reflected h m (f_bareFlush (f_seenAs h m) g page)).1.buf (f_tagOf m g) page), (f_flushPage (f_reflected h m (f_bareFlush (f_seenAs h m) g page)).1.iobuf (f_tagOf m g) page)⟩ : THost) (⟨q10.mem, (q10.mons.1, p70), q74, q84⟩ : PHost), B true] fun ac w β S => ?_
  have o92 := ow_Host (x := (⟨(f_reflected h m (f_bareFlush (f_seenAs h m) g page)).1.mem, ((f_reflected h m (f_bareFlush (f_seenAs h m) g page)).1.mons.set m.toNat ({ el (f_reflected h m (f_bareFlush (f_seenAs h m) g page)).1.mons m.toNat with tables := ((el (f_reflected h m (f_bareFlush (f_seenAs h m) g page)).1.mons m.toNat).tables.set g.toNat (f_forget (el (el (f_reflected h m (f_bareFlush (f_seenAs h m) g page)).1.mons m.toNat).tables g.toNat) page)) })), (f_flushPage (f_reflected h m (f_bareFlush (f_seenAs h m) g page)).1.buf (f_tagOf m g) page), (f_flushPage (f_reflected h m (f_bareFlush (f_seenAs h m) g page)).1.iobuf (f_tagOf m g) page)⟩ : THost)) (p := (⟨q10.mem, (q10.mons.1, p70), q74, q84⟩ : PHost)) o24 o71 o76 o86 (Disj.symm (Disj.or (Disj.symm d35) (Disj.symm d67))) d80 d88 d83 d90 d91 
  exact ret2_of (p' := ()) S (show (f_hostFlush h m g page).1 = (⟨(f_reflected h m (f_bareFlush (f_seenAs h m) g page)).1.mem, ((f_reflected h m (f_bareFlush (f_seenAs h m) g page)).1.mons.set m.toNat ({ el (f_reflected h m (f_bareFlush (f_seenAs h m) g page)).1.mons m.toNat with tables := ((el (f_reflected h m (f_bareFlush (f_seenAs h m) g page)).1.mons m.toNat).tables.set g.toNat (f_forget (el (el (f_reflected h m (f_bareFlush (f_seenAs h m) g page)).1.mons m.toNat).tables g.toNat) page)) })), (f_flushPage (f_reflected h m (f_bareFlush (f_seenAs h m) g page)).1.buf (f_tagOf m g) page), (f_flushPage (f_reflected h m (f_bareFlush (f_seenAs h m) g page)).1.iobuf (f_tagOf m g) page)⟩ : THost) from k0_impl_HostFlush) (show (f_hostFlush h m g page).2 = true from k0_impl_HostFlush) rfl rfl o92 trivial
 refine S.lt 11 h41 fun S => ?_
 refine S.gr 12 .nil [GT.val (f_reflected h m (f_bareFlush (f_seenAs h m) g page)).1 q10, B false] fun ac w β S => ?_
 have o93 := ow_Host (x := (f_reflected h m (f_bareFlush (f_seenAs h m) g page)).1) (p := q10) o24 o27 o30 o33 d35 d36 d37 d38 d39 d40 
 exact ret2_of (p' := ()) S (show (f_hostFlush h m g page).1 = (f_reflected h m (f_bareFlush (f_seenAs h m) g page)).1 from k0_impl_HostFlush) (show (f_hostFlush h m g page).2 = false from k0_impl_HostFlush) rfl rfl o93 trivial

theorem k0_impl_CanRun {p : Prop} (h : p := by clear S; first | rfl | (simp [f_canRun, *]; done) | (simp [f_canRun, *]; omega) | (simp_all [f_canRun]; done) | (simp_all [f_canRun]; omega)) : p := h
theorem c_impl_CanRun (w0 : World) (g : TGuest) (pg : PGuest) (hg : RD w0 g pg) : Calls Tryz.prog 139 [GT.val g pg].toArray w0 (fun e w' => e = .returned (B (f_canRun g)) ∧ Chg NoB w0 w') := by
 refine Calls.run NoB Tryz.func139 ?_
 intro ac β S
 have hleg_prog : g.prog.length ≤ 4194304 := LRd.le (RGuest.prog (d := g) hg)
 have hleg_written : g.written.length ≤ 4194304 := LRd.le (RGuest.written (d := g) hg)
 have hleg_live : g.live.length ≤ 4194304 := LRd.le (RGuest.live (d := g) hg)
 have hleg_seen : g.seen.length ≤ 4194304 := LRd.le (RGuest.seen (d := g) hg)
 refine S.gb 13 (.cons (Q_sem (s := Instr.build 49 [].toArray) (v := .agg [I 0, I 0, B false, I 0].toArray) (fun w => by kernel_rfl)) (.cons (Eq_eq_Exit (t := 49) g.exit (⟨0, 0, false, 0⟩ : TExit) (by kernel_rfl)) .nil)) (decide (g.exit = (⟨0, 0, false, 0⟩ : TExit))) (fun ac w β h1 S => ?_) (fun ac w β h1 S => ?_)
 ·exact S.gf 8 .nil [B (!g.halted)] (retB k0_impl_CanRun)
 exact S.gf 8 .nil [B false] (retB k0_impl_CanRun)

theorem k0_impl_TopIrq {p : Prop} (h : p := by clear S; (first | (exact (topIrq_out (by assumption)).symm) | (unfold f_topIrq; rw [if_pos (by assumption)]; done))) : p := h
theorem c_impl_TopIrq (w0 : World) (p : Int) : Calls Tryz.prog 184 [I p].toArray w0 (fun e w' => e = .returned (I (f_topIrq p)) ∧ Chg NoB w0 w') := by
 refine Calls.run NoB Tryz.func184 ?_
 intro ac β S
 refine S.gb 13 (.cons (Q_call fun w hw => c_impl_PendOk w p) .nil) (!(f_within p 0 255)) (fun ac w β h1 S => ?_) (fun ac w β h1 S => ?_)
 ·have h2 := not_t h1
  have g3 := within_f h2
  exact S.gf 7 .nil [I (-1)] (retI k0_impl_TopIrq)
 have h4 := not_f h1
 have g5 := within_t h4
 have b6 := bitLen_bd0 p
 exact S.gf 13 (.cons (Q_convu (s := 3) (d := 72) (x := p) Tryz.underlying3 Tryz.underlying72 (by omega) (by omega)) (.cons (Q_call fun w hw => c_math_bits_Len w p (by omega) (by omega)) (.cons (qm (f_bitLen p) 1) .nil))) [I ((f_bitLen p) - 1)] (retI k0_impl_TopIrq)

theorem c_impl_TakesIrq (w0 : World) (g : TGuest) (pg : PGuest) (hg : RD w0 g pg) : Calls Tryz.prog 140 [GT.val g pg].toArray w0 (fun e w' => e = .returned (B (f_takesIrq g)) ∧ Chg NoB w0 w') := by
 refine Calls.run NoB Tryz.func140 ?_
 intro ac β S
 have hleg_prog : g.prog.length ≤ 4194304 := LRd.le (RGuest.prog (d := g) hg)
 have hleg_written : g.written.length ≤ 4194304 := LRd.le (RGuest.written (d := g) hg)
 have hleg_live : g.live.length ≤ 4194304 := LRd.le (RGuest.live (d := g) hg)
 have hleg_seen : g.seen.length ≤ 4194304 := LRd.le (RGuest.seen (d := g) hg)
 refine S.gb 11 (.cons (Q_call fun w hw => c_impl_CanRun w g pg (rd_of (S.arg hg) hw)) .nil) (f_canRun g) (fun ac w β h1 S => ?_) (fun ac w β h1 S => ?_)
 ·refine S.gb 5 .nil g.ctl.opn (fun ac w β h2 S => ?_) (fun ac w β h2 S => ?_)
  ·have b3 := topIrq_bd g.pend
   exact S.gf 9 (.cons (Q_call fun w hw => c_impl_TopIrq w g.pend) .nil) [B (decide ((f_topIrq g.pend) ≥ 0))] (retB (by clear S; (simp [f_takesIrq, *])))
  exact S.gf 9 .nil [B false] (retB (by clear S; (simp [f_takesIrq, *])))
 exact S.gf 14 .nil [B false] (retB (by clear S; (simp [f_takesIrq, *])))

theorem k0_impl_InsAt {p : Prop} (h : p := by clear S; (first | (unfold f_insAt; rw [if_pos (by omega)]; done) | (unfold f_insAt; rw [if_pos (by omega)]; first | rfl | (simp; done)) | (unfold f_insAt; rw [if_neg (by omega)]; done) | (unfold f_insAt; rw [if_neg (by omega)]; first | rfl | (simp; done)))) : p := h
theorem c_impl_InsAt (w0 : World) (p : List TIns) (pp : LP TIns) (hp : RD w0 p pp) (pc : Int) : Calls Tryz.prog 141 [slv p.length pp.1, I pc].toArray w0 (fun e w' => e = .returned (GT.val (f_insAt p pc) ()) ∧ Chg NoB w0 w') := by
 refine Calls.run NoB Tryz.func141 ?_
 intro ac β S
 have hlep : p.length ≤ 4194304 := LRd.le hp
 refine S.gb 15 (.cons (Q_call fun w hw => c_impl_has w pc (p.length : Int) (by omega)) .nil) (!(f_within pc 0 ((p.length : Int) - 1))) (fun ac w β h1 S => ?_) (fun ac w β h1 S => ?_)
 ·have h2 := not_t h1
  have g3 := within_f h2
  exact S.gf 8 (.cons (Q_sem (s := Instr.build 40 [(0, I 7)].toArray) (v := .agg [I 7, I 0].toArray) (fun w => by kernel_rfl)) .nil) [GT.val (⟨7, 0⟩ : TIns) ()] (retV (p := ()) k0_impl_InsAt)
 have h4 := not_f h1
 have g5 := within_t h4
 exact S.gf 13 (.cons (qt (S.arg hp) pc Tryz.underlying41) (.cons (qs (S.arg hp) 40 pc.toNat) .nil)) [GT.val (el p pc.toNat) ()] (retV (p := ()) k0_impl_InsAt)

theorem k0_impl_WantOf {p : Prop} (h : p := by clear S; (unfold f_wantOf; first | (rw [if_pos (by assumption)]; done) | (rw [if_neg (by simp [*]), if_pos (by assumption)]; done) | (rw [if_neg (by simp [*]), if_neg (by simp [*])]; unfold f_wantOp; first | (rw [if_pos (by assumption)]; done) | (rw [if_neg (by assumption), if_pos (by assumption)]; done) | (rw [if_neg (by assumption), if_neg (by assumption), if_pos (by assumption)]; done) | (rw [if_neg (by assumption), if_neg (by assumption), if_neg (by assumption), if_pos (by assumption)]; done) | (rw [if_neg (by assumption), if_neg (by assumption), if_neg (by assumption), if_neg (by assumption), if_pos (by assumption)]; done) | (rw [if_neg (by assumption), if_neg (by assumption), if_neg (by assumption), if_neg (by assumption), if_neg (by assumption)]; done)))) : p := h
theorem c_impl_WantOf (w0 : World) (g : TGuest) (pg : PGuest) (hg : RD w0 g pg) : Calls Tryz.prog 77 [GT.val g pg].toArray w0 (fun e w' => e = .returned (I (f_wantOf g)) ∧ Chg NoB w0 w') := by
 refine Calls.run NoB Tryz.func77 ?_
 intro ac β S
 have hleg_prog : g.prog.length ≤ 4194304 := LRd.le (RGuest.prog (d := g) hg)
 have hleg_written : g.written.length ≤ 4194304 := LRd.le (RGuest.written (d := g) hg)
 have hleg_live : g.live.length ≤ 4194304 := LRd.le (RGuest.live (d := g) hg)
 have hleg_seen : g.seen.length ≤ 4194304 := LRd.le (RGuest.seen (d := g) hg)
 refine S.gb 16 (.cons (Q_call fun w hw => c_impl_CanRun w g pg (rd_of (S.arg hg) hw)) .nil) (!(f_canRun g)) (fun ac w β h1 S => ?_) (fun ac w β h1 S => ?_)
 ·have h2 := not_t h1
  exact S.gf 7 .nil [I 0] (retI k0_impl_WantOf)
 have h3 := not_f h1
 refine S.gb 8 (.cons (Q_call fun w hw => c_impl_TakesIrq w g pg (rd_of (S.arg hg) hw)) .nil) (f_takesIrq g) (fun ac w β h4 S => ?_) (fun ac w β h4 S => ?_)
 ·exact S.gf 7 .nil [I 1] (retI k0_impl_WantOf)
 refine S.gd 22 (.cons (Q_call fun w hw => c_impl_InsAt w g.prog pg.prog (rd_of (RGuest.prog (d := g) (S.arg hg)) hw) g.pc) .nil) ((f_insAt g.prog g.pc).opc == 3) (fun ac w β h5 g6 S => ?_) (fun ac w β h5 g6 S => ?_)
 ·exact S.gf 7 .nil [I 3] (retI k0_impl_WantOf)
 refine S.gd 7 .nil ((f_insAt g.prog g.pc).opc == 4) (fun ac w β h7 g8 S => ?_) (fun ac w β h7 g8 S => ?_)
 ·exact S.gf 7 .nil [I 4] (retI k0_impl_WantOf)
 refine S.gd 7 .nil ((f_insAt g.prog g.pc).opc == 5) (fun ac w β h9 g10 S => ?_) (fun ac w β h9 g10 S => ?_)
 ·exact S.gf 7 .nil [I 5] (retI k0_impl_WantOf)
 refine S.gd 7 .nil ((f_insAt g.prog g.pc).opc == 6) (fun ac w β h11 g12 S => ?_) (fun ac w β h11 g12 S => ?_)
 ·exact S.gf 7 .nil [I 6] (retI k0_impl_WantOf)
 refine S.gd 7 .nil ((f_insAt g.prog g.pc).opc == 7) (fun ac w β h13 g14 S => ?_) (fun ac w β h13 g14 S => ?_)
 ·exact S.gf 7 .nil [I 7] (retI k0_impl_WantOf)
 exact S.gf 10 .nil [I 2] (retI k0_impl_WantOf)

theorem k0_impl_Address {p : Prop} (h : p := by clear S; (unfold f_address; first | (rw [if_pos (by first | exact Or.inl (by assumption) | exact Or.inr (by assumption) | omega)]; done) | (rw [if_neg (by omega)]; done))) : p := h
theorem c_impl_Address (w0 : World) (g : TGuest) (pg : PGuest) (hg : RD w0 g pg) : Calls Tryz.prog 78 [GT.val g pg].toArray w0 (fun e w' => e = .returned (I (f_address g)) ∧ Chg NoB w0 w') := by
 refine Calls.run NoB Tryz.func78 ?_
 intro ac β S
 have hleg_prog : g.prog.length ≤ 4194304 := LRd.le (RGuest.prog (d := g) hg)
 have hleg_written : g.written.length ≤ 4194304 := LRd.le (RGuest.written (d := g) hg)
 have hleg_live : g.live.length ≤ 4194304 := LRd.le (RGuest.live (d := g) hg)
 have hleg_seen : g.seen.length ≤ 4194304 := LRd.le (RGuest.seen (d := g) hg)
 have b1 := wantOf_bd g
 refine S.gd 19 (.cons (Q_call fun w hw => c_impl_WantOf w g pg (rd_of (S.arg hg) hw)) .nil) ((f_wantOf g) != 3) (fun ac w β h2 g3 S => ?_) (fun ac w β h2 g3 S => ?_)
 ·refine S.gd 5 .nil ((f_wantOf g) != 4) (fun ac w β h4 g5 S => ?_) (fun ac w β h4 g5 S => ?_)
  ·exact S.gf 7 .nil [I (-1)] (retI k0_impl_Address)
  exact S.gf 15 (.cons (Q_call fun w hw => c_impl_InsAt w g.prog pg.prog (rd_of (RGuest.prog (d := g) (S.arg hg)) hw) g.pc) .nil) [I (f_insAt g.prog g.pc).x] (retI k0_impl_Address)
 exact S.gf 20 (.cons (Q_call fun w hw => c_impl_InsAt w g.prog pg.prog (rd_of (RGuest.prog (d := g) (S.arg hg)) hw) g.pc) .nil) [I (f_insAt g.prog g.pc).x] (retI k0_impl_Address)

theorem k0_impl_AddrPage {p : Prop} (h : p := by clear S; (first | (unfold f_addrPage; rw [if_pos (by omega)]; done) | (unfold f_addrPage; rw [if_pos (by omega)]; first | rfl | (simp; done)) | (unfold f_addrPage; rw [if_neg (by omega)]; done) | (unfold f_addrPage; rw [if_neg (by omega)]; first | rfl | (simp; done)))) : p := h
theorem c_impl_AddrPage (w0 : World) (addr : Int) (haddr : In64 addr) : Calls Tryz.prog 80 [I addr].toArray w0 (fun e w' => e = .returned (I (f_addrPage addr)) ∧ Chg NoB w0 w') := by
 refine Calls.run NoB Tryz.func80 ?_
 intro ac β S
 have hloaddr := haddr.lo; have hhiaddr := haddr.hi
 refine S.gd 12 .nil (decide (addr < 0)) (fun ac w β h1 g2 S => ?_) (fun ac w β h1 g2 S => ?_)
 ·exact S.gf 7 .nil [I (-1)] (retI k0_impl_AddrPage)
 exact S.gf 11 (.cons (Q_quo (x := addr) (y := 4) (by decide) (tdiv4_in64 haddr (by omega))) .nil) [I (Int.tdiv addr 4)] (retI k0_impl_AddrPage)

theorem c_impl_NeedOf (w0 : World) (write : Bool) : Calls Tryz.prog 81 [B write].toArray w0 (fun e w' => e = .returned (I (f_needOf write)) ∧ Chg NoB w0 w') := by
 refine Calls.run NoB Tryz.func81 ?_
 intro ac β S
 refine S.gb 11 .nil write (fun ac w β h1 S => ?_) (fun ac w β h1 S => ?_)
 ·exact S.gf 7 .nil [I 2] (retI (by clear S; (simp [f_needOf, *])))
 exact S.gf 9 .nil [I 1] (retI (by clear S; (simp [f_needOf, *])))

theorem k0_impl_WalkInner {p : Prop} (h : p := by clear S; (unfold f_walkInner; (repeat' split) <;> first | rfl | (exfalso; omega) | (exfalso; simp_all; done) | (exfalso; simp_all; omega))) : p := h
theorem c_impl_WalkInner (w0 : World) (inner : List TSlot) (pinner : LP TSlot) (hinner : RD w0 inner pinner) (page : Int) (need : Int) : Calls Tryz.prog 105 [slv inner.length pinner.1, I page, I need].toArray w0 (fun e w' => e = .returned (.tuple #[I (f_walkInner inner page need).1, B (f_walkInner inner page need).2]) ∧ Chg NoB w0 w') := by
 refine Calls.run NoB Tryz.func105 ?_
 intro ac β S
 have hleinner : inner.length ≤ 4194304 := LRd.le hinner
 refine S.gd 22 (.cons (Q_call fun w hw => c_impl_SlotAt w inner pinner (rd_of (S.arg hinner) hw) page) .nil) ((f_slotAt inner page).page == (-1)) (fun ac w β h1 g2 S => ?_) (fun ac w β h1 g2 S => ?_)
 ·exact S.gf 21 .nil [I (-1), B false] (ret2v (eqI (show (-1) = (f_walkInner inner page need).1 from k0_impl_WalkInner)) (eqB (show false = (f_walkInner inner page need).2 from k0_impl_WalkInner)))
 refine S.gb 7 (.cons (Q_call fun w hw => c_impl_Enough w (f_slotAt inner page).rights need) .nil) (!(f_enough (f_slotAt inner page).rights need)) (fun ac w β h3 S => ?_) (fun ac w β h3 S => ?_)
 ·have h4 := not_t h3
  exact S.gf 14 .nil [I (-1), B false] (ret2v (eqI (show (-1) = (f_walkInner inner page need).1 from k0_impl_WalkInner)) (eqB (show false = (f_walkInner inner page need).2 from k0_impl_WalkInner)))
 have h5 := not_f h3
 have g6 := enough_t h5
 refine S.gb 6 (.cons (Q_call fun w hw => c_impl_within w need 1 3) .nil) (!(f_within need 1 3)) (fun ac w β h7 S => ?_) (fun ac w β h7 S => ?_)
 ·have h8 := not_t h7
  have g9 := within_f h8
  exact S.gf 8 .nil [I (-1), B false] (ret2v (eqI (show (-1) = (f_walkInner inner page need).1 from k0_impl_WalkInner)) (eqB (show false = (f_walkInner inner page need).2 from k0_impl_WalkInner)))
 have h10 := not_f h7
 have g11 := within_t h10
 exact S.gf 12 .nil [I (f_slotAt inner page).page, B true] (ret2v (eqI (show (f_slotAt inner page).page = (f_walkInner inner page need).1 from k0_impl_WalkInner)) (eqB (show true = (f_walkInner inner page need).2 from k0_impl_WalkInner)))

theorem k0_impl_FindEntry {p : Prop} (h : p := by clear S; (first | (rw [find_end (by omega) hf]; done) | (rw [find_hit (k := k) (by omega) hf (samePg_t (by assumption) (by assumption))]; done))) : p := h
theorem c_impl_FindEntry (w0 : World) (b : List TEntry) (pb : LP TEntry) (hb : RD w0 b pb) (tag : Int) (page : Int) : Calls Tryz.prog 185 [slv b.length pb.1, I tag, I page].toArray w0 (fun e w' => e = .returned (.tuple #[GT.val (f_findEntry b tag page).1 (), B (f_findEntry b tag page).2]) ∧ Chg NoB w0 w') := by
 refine Calls.run NoB Tryz.func185 ?_
 intro ac β S
 have hleb : b.length ≤ 4194304 := LRd.le hb
 refine S.go 15 .nil fun ac w β S => ?_
 refine lp (fun mm ac w => ∃ (k : Nat)  (u : _) (N : _) (β : _), mm = b.length - k ∧ (k ≤ b.length) ∧ ((b.take k).find? (fun e => f_samePg e tag page) = none) ∧ St Tryz.prog Tryz.f185.ntmps w0 NoB u N β ⟨[(1, .v (I tag)), (2, .v (I page)), (6, .p 0 0), (10, .v (slv b.length pb.1)), (11, .v (I (b.length : Int))), (12, .v (I (k : Int)))], [Zc TEntry]⟩ ac w) _ ⟨0, _, _, _, rfl, o0, (by rfl), S.z⟩ ?_
 clear S
 rintro f1 mm hf2 ac w ⟨k, u, N, β, rfl, hk, hf, S⟩
 refine S.rs fun S => ?_
 refine S.gd 6 .nil (decide ((k : Int) < (b.length : Int))) (fun ac w β h3 g4 S => ?_) (fun ac w β h3 g4 S => ?_)
 ·refine S.gd 20 (.cons (qn (S.arg hb) k Tryz.underlying58) (.cons (qs (S.arg hb) 155 k) .nil)) ((el b k).tag == tag) (fun ac w β h5 g6 S => ?_) (fun ac w β h5 g6 S => ?_)
  ·refine S.gd 7 .nil ((el b k).page == page) (fun ac w β h7 g8 S => ?_) (fun ac w β h7 g8 S => ?_)
   ·exact S.gf 9 .nil [GT.val (el b k) (), B true] (ret2v (congrArg (fun z => GT.val z ()) (show (el b k) = (f_findEntry b tag page).1 from k0_impl_FindEntry)) (eqB (show true = (f_findEntry b tag page).2 from k0_impl_FindEntry)))
   refine S.ge 8 (.cons (qp (k : Int) 1) .nil) f1 fun ac w β S => hf2.of (b.length - (k + 1)) _ _ (by omega) ⟨k + 1, _, _, _, rfl, ?_, ?_, S.z⟩
   ·exact oz
   ·clear S; (first | exact find_step (by omega) hf (samePg_f1 (by assumption)) | exact find_step (by omega) hf (samePg_f2 (by assumption)))
  refine S.ge 15 (.cons (qp (k : Int) 1) .nil) f1 fun ac w β S => hf2.of (b.length - (k + 1)) _ _ (by omega) ⟨k + 1, _, _, _, rfl, ?_, ?_, S.z⟩
  ·exact oz
  ·clear S; (first | exact find_step (by omega) hf (samePg_f1 (by assumption)) | exact find_step (by omega) hf (samePg_f2 (by assumption)))
 exact S.gf 14 (.cons (Q_sem (s := Instr.build 155 [].toArray) (v := .agg [I 0, I 0, I 0, I 0].toArray) (fun w => by kernel_rfl)) .nil) [GT.val (⟨0, 0, 0, 0⟩ : TEntry) (), B false] (ret2v (congrArg (fun z => GT.val z ()) (show (⟨0, 0, 0, 0⟩ : TEntry) = (f_findEntry b tag page).1 from k0_impl_FindEntry)) (eqB (show false = (f_findEntry b tag page).2 from k0_impl_FindEntry)))

theorem k0_impl_Ask {p : Prop} (h : p := by clear S; (unfold f_ask; (repeat' split) <;> first | rfl | (exfalso; omega) | (exfalso; simp_all; done) | (exfalso; simp_all; omega) | (simp_all; done))) : p := h
theorem c_impl_Ask (w0 : World) (k : TKept) (pk : PKept) (hk : RD w0 k pk) (page : Int) : Calls Tryz.prog 186 [GT.val k pk, I page].toArray w0 (fun e w' => e = .returned (.tuple #[GT.val (f_ask k page).1 (), B (f_ask k page).2]) ∧ Chg NoB w0 w') := by
 refine Calls.run NoB Tryz.func186 ?_
 intro ac β S
 have hlek_known : k.known.length ≤ 4194304 := LRd.le (RKept.known (d := k) hk)
 have hlek_slots : k.slots.length ≤ 4194304 := LRd.le (RKept.slots (d := k) hk)
 refine S.gb 17 (.cons (Q_call fun w hw => c_impl_has w page (k.known.length : Int) (by omega)) .nil) (!(f_within page 0 ((k.known.length : Int) - 1))) (fun ac w β h1 S => ?_) (fun ac w β h1 S => ?_)
 ·have h2 := not_t h1
  have g3 := within_f h2
  exact S.gf 26 (.cons (Q_call fun w hw => c_impl_NoSlot w ) .nil) [GT.val (⟨-1, 0⟩ : TSlot) (), B false] (ret2v (congrArg (fun z => GT.val z ()) (show (⟨-1, 0⟩ : TSlot) = (f_ask k page).1 from k0_impl_Ask)) (eqB (show false = (f_ask k page).2 from k0_impl_Ask)))
 have h4 := not_f h1
 have g5 := within_t h4
 refine S.gb 8 (.cons (Q_call fun w hw => c_impl_has w page (k.slots.length : Int) (by omega)) .nil) (!(f_within page 0 ((k.slots.length : Int) - 1))) (fun ac w β h6 S => ?_) (fun ac w β h6 S => ?_)
 ·have h7 := not_t h6
  have g8 := within_f h7
  exact S.gf 18 (.cons (Q_call fun w hw => c_impl_NoSlot w ) .nil) [GT.val (⟨-1, 0⟩ : TSlot) (), B false] (ret2v (congrArg (fun z => GT.val z ()) (show (⟨-1, 0⟩ : TSlot) = (f_ask k page).1 from k0_impl_Ask)) (eqB (show false = (f_ask k page).2 from k0_impl_Ask)))
 have h9 := not_f h6
 have g10 := within_t h9
 refine S.gb 9 (.cons (qt (RKept.known (d := k) (S.arg hk)) page Tryz.underlying66) (.cons (qx (RKept.known (d := k) (S.arg hk)) 4 page.toNat) .nil)) (!(el k.known page.toNat)) (fun ac w β h11 S => ?_) (fun ac w β h11 S => ?_)
 ·have h12 := not_t h11
  exact S.gf 9 (.cons (Q_call fun w hw => c_impl_NoSlot w ) .nil) [GT.val (⟨-1, 0⟩ : TSlot) (), B false] (ret2v (congrArg (fun z => GT.val z ()) (show (⟨-1, 0⟩ : TSlot) = (f_ask k page).1 from k0_impl_Ask)) (eqB (show false = (f_ask k page).2 from k0_impl_Ask)))
 have h13 := not_f h11
 exact S.gf 15 (.cons (qt (RKept.slots (d := k) (S.arg hk)) page Tryz.underlying45) (.cons (qs (RKept.slots (d := k) (S.arg hk)) 44 page.toNat) .nil)) [GT.val (el k.slots page.toNat) (), B true] (ret2v (congrArg (fun z => GT.val z ()) (show (el k.slots page.toNat) = (f_ask k page).1 from k0_impl_Ask)) (eqB (show true = (f_ask k page).2 from k0_impl_Ask)))

theorem k0_impl_OwnerOfPage {p : Prop} (h : p := by clear S; (first | rw [ownerOfPage_neg (by omega)] | rw [ownerOfPage_end (he.trans (own0_end (by omega)))] | rw [ownerOfPage_pos (by omega), he, own0_hit (by omega) (he2.trans (own1_hit (by omega) (by assumption)))])) : p := h
theorem c_impl_OwnerOfPage (w0 : World) (h : THost) (ph : PHost) (hh : RD w0 h ph) (page : Int) : Calls Tryz.prog 206 [GT.val h ph, I page].toArray w0 (fun e w' => e = .returned (.tuple #[I (f_ownerOfPage h page).1, I (f_ownerOfPage h page).2]) ∧ Chg NoB w0 w') := by
 refine Calls.run NoB Tryz.func206 ?_
 intro ac β S
 have hleh_mem : h.mem.length ≤ 4194304 := LRd.le (RHost.mem (d := h) hh)
 have hleh_mons : h.mons.length ≤ 4194304 := LRd.le (RHost.mons (d := h) hh)
 have hleh_buf : h.buf.length ≤ 4194304 := LRd.le (RHost.buf (d := h) hh)
 have hleh_iobuf : h.iobuf.length ≤ 4194304 := LRd.le (RHost.iobuf (d := h) hh)
 refine S.gd 14 .nil (decide (page < 0)) (fun ac w β h1 g2 S => ?_) (fun ac w β h1 g2 S => ?_)
 ·exact S.gf 8 .nil [I (-1), I (-1)] (ret2v (eqI (show (-1) = (f_ownerOfPage h page).1 from k0_impl_OwnerOfPage)) (eqI (show (-1) = (f_ownerOfPage h page).2 from k0_impl_OwnerOfPage)))
 refine S.go 13 .nil fun ac w β S => ?_
 refine lp (fun mm ac w => ∃ (i : Nat)  (u : _) (N : _) (β : _), mm = h.mons.length - i ∧ (i ≤ h.mons.length) ∧ (f_own0 h.mons page 0 = f_own0 h.mons page i) ∧ St Tryz.prog Tryz.f206.ntmps w0 NoB u N β ⟨[(1, .v (I page)), (13, .v (slv h.mons.length ph.mons.1)), (14, .v (I (h.mons.length : Int))), (15, .v (I (i : Int)))], [GT.cells h ph]⟩ ac w) _ ⟨0, _, _, _, rfl, o0, o0, S.z⟩ ?_
 clear S
 rintro f3 mm hf4 ac w ⟨i, u, N, β, rfl, hi, he, S⟩
 refine S.rs fun S => ?_
 refine S.gd 6 .nil (decide ((i : Int) < (h.mons.length : Int))) (fun ac w β h5 g6 S => ?_) (fun ac w β h5 g6 S => ?_)
 ·have b7 : (el h.mons i).outer.length ≤ 4194304 := LRd.le (RMon.outer (d := (el h.mons i)) (LRd.el (RHost.mons (d := h) (S.arg hh)) i (by omega)))
  refine S.go 24 (.cons (qn (RHost.mons (d := h) (S.arg hh)) i Tryz.underlying57) (.cons (qs (RHost.mons (d := h) (S.arg hh)) 99 i) .nil)) fun ac w β S => ?_
  refine lp (fun mm ac w => ∃ (k : Nat)  (u : _) (N : _) (β : _), mm = (el h.mons i).outer.length - k ∧ (k ≤ (el h.mons i).outer.length) ∧ (f_own1 (el h.mons i).outer page 0 = f_own1 (el h.mons i).outer page k) ∧ St Tryz.prog Tryz.f206.ntmps w0 NoB u N β ⟨[(1, .v (I page)), (6, .v (I (i : Int))), (13, .v (slv h.mons.length ph.mons.1)), (14, .v (I (h.mons.length : Int))), (15, .v (I (i : Int))), (21, .v (slv (el h.mons i).outer.length (ph.mons.2 i).outer.1)), (22, .v (I ((el h.mons i).outer.length : Int))), (23, .v (I (k : Int)))], [GT.cells h ph, GT.cells (el h.mons i) (ph.mons.2 i)]⟩ ac w) _ ⟨0, _, _, _, rfl, o0, o0, S.z⟩ ?_
  clear S
  rintro f8 mm hf9 ac w ⟨k, u, N, β, rfl, hk, he2, S⟩
  refine S.rs fun S => ?_
  have hl2 : (el h.mons i).outer.length ≤ 4194304 := LRd.le (RMon.outer (d := el h.mons i) (LRd.el (RHost.mons (d := h) hh) i (by omega)))
  refine S.gd 6 .nil (decide ((k : Int) < ((el h.mons i).outer.length : Int))) (fun ac w β h10 g11 S => ?_) (fun ac w β h10 g11 S => ?_)
  ·refine S.gd 23 (.cons (qn (RMon.outer (d := (el h.mons i)) (LRd.el (RHost.mons (d := h) (S.arg hh)) i (by omega))) k Tryz.underlying45) (.cons (qs (RMon.outer (d := (el h.mons i)) (LRd.el (RHost.mons (d := h) (S.arg hh)) i (by omega))) 44 k) .nil)) ((el (el h.mons i).outer k).page == page) (fun ac w β h12 g13 S => ?_) (fun ac w β h12 g13 S => ?_)
   ·exact S.gf 10 .nil [I (i : Int), I (k : Int)] (ret2v (eqI (show (i : Int) = (f_ownerOfPage h page).1 from k0_impl_OwnerOfPage)) (eqI (show (k : Int) = (f_ownerOfPage h page).2 from k0_impl_OwnerOfPage)))
   refine S.ge 8 (.cons (qp (k : Int) 1) .nil) f8 fun ac w β S => hf9.of ((el h.mons i).outer.length - (k + 1)) _ _ (by omega) ⟨k + 1, _, _, _, rfl, ?_, ?_, S.z⟩
   ·exact oz
   ·clear S; exact he2.trans (own1_next (by omega) (by assumption))
  refine S.ge 11 (.cons (qp (i : Int) 1) .nil) f3 fun ac w β S => hf4.of (h.mons.length - (i + 1)) _ _ (by omega) ⟨i + 1, _, _, _, rfl, ?_, ?_, S.z⟩
  ·exact oz
  ·clear S; exact he.trans (own0_next (by omega) (he2.trans (own1_end (by omega))))
 exact S.gf 13 .nil [I (-1), I (-1)] (ret2v (eqI (show (-1) = (f_ownerOfPage h page).1 from k0_impl_OwnerOfPage)) (eqI (show (-1) = (f_ownerOfPage h page).2 from k0_impl_OwnerOfPage)))

theorem c_impl_FreeIn (w0 : World) (h : THost) (ph : PHost) (hh : RD w0 h ph) : Calls Tryz.prog 174 [GT.val h ph].toArray w0 (Ret1 NoB w0 (f_freeIn h : List Int)) := by
 refine Calls.run NoB Tryz.func174 ?_
 intro ac β S
 have hleh_mem : h.mem.length ≤ 4194304 := LRd.le (RHost.mem (d := h) hh)
 have hleh_mons : h.mons.length ≤ 4194304 := LRd.le (RHost.mons (d := h) hh)
 have hleh_buf : h.buf.length ≤ 4194304 := LRd.le (RHost.buf (d := h) hh)
 have hleh_iobuf : h.iobuf.length ≤ 4194304 := LRd.le (RHost.iobuf (d := h) hh)
 refine S.go 8 .nil fun ac w β S => S.B0 (α := Int) (d := 7) fun ac w N q1 F2 S up o3 d4 => ?_
 clear up d4
 refine S.go 13 .nil fun ac w β S => ?_
 refine lp (fun mm ac w => ∃ (k : Nat) (acc : List Int) (q5 : _) (F6 : _) (u : _) (N : _) (β : _), mm = h.mem.length - k ∧ (k ≤ h.mem.length) ∧ (acc = f_idx k (fun p => decide ((f_ownerOfPage h p).1 < 0))) ∧ St Tryz.prog Tryz.f174.ntmps w0 NoB u N β ⟨[(1, .p 0 0), (3, .v (slv acc.length q5.1)), (10, .v (I (h.mem.length : Int))), (11, .v (I (k : Int)))], [GT.cells h ph]⟩ ac w ∧ Ow w0 NoB u N F6 acc q5) _ ⟨0, ([] : List Int), q1, F2, _, _, _, rfl, o0, (by rfl), S.z, o3⟩ ?_
 clear S o3
 rintro f8 mm hf9 ac w ⟨k, acc, q5, F6, u, N, β, rfl, hk, hacc, S, o7⟩
 refine S.rs fun S => ?_
 have hlacc : acc.length ≤ k := by rw [hacc]; exact idx_len _ _
 refine S.gd 6 .nil (decide ((k : Int) < (h.mem.length : Int))) (fun ac w β h10 g11 S => ?_) (fun ac w β h10 g11 S => ?_)
 ·refine S.gd 29 (.cons (Q_call fun w hw => c_impl_OwnerOfPage w h ph (rd_of (S.arg hh) hw) (k : Int)) .nil) (decide ((f_ownerOfPage h (k : Int)).1 < 0)) (fun ac w β h12 g13 S => ?_) (fun ac w β h12 g13 S => ?_)
  ·refine S.go 4 .nil fun ac w β S => S.B1 (α := Int) (x := (k : Int)) (p := ()) (F := NoB) ⟨by omega, by omega⟩ (fun b h => False.elim h) (fun b h => False.elim h) (d := 24) fun ac w N q14 F15 S up o16 d17 => ?_
   replace o7 := o7.up up
   clear up d17
   refine S.AF (α := Int) o7 o16.rn (fun _ _ h => h) (by' := 8) (d := 25) (lx := acc.length) (ly := 1) rfl rfl (show _ ≤ 4194304 by simp only [List.length_append, List.length_cons, List.length_nil]; omega) fun ac w N q19 F20 S up o21 d22 => ?_
   clear up d22
   refine S.ge 8 (.cons (qp (k : Int) 1) .nil) f8 fun ac w β S => hf9.of (h.mem.length - (k + 1)) _ _ (by omega) ⟨k + 1, (acc ++ [(k : Int)]), q19, F20, _, _, _, rfl, ?_, ?_, S.z, o21⟩
   ·exact oz
   ·clear S; (first | (rw [idx_step_t (by first | assumption | (simp [*]; done) | (simp; omega)), hacc]; done) | (rw [idx_step_f (by first | assumption | (simp [*]; done) | (simp; omega)), hacc]; done) | (rw [idx_step_t (by simp_all <;> fail), hacc]; done) | (rw [idx_step_f (by simp_all <;> fail), hacc]; done))
  refine S.ge 8 (.cons (qp (k : Int) 1) .nil) f8 fun ac w β S => hf9.of (h.mem.length - (k + 1)) _ _ (by omega) ⟨k + 1, acc, q5, F6, _, _, _, rfl, ?_, ?_, S.z, o7⟩
  ·exact oz
  ·clear S; (first | (rw [idx_step_t (by first | assumption | (simp [*]; done) | (simp; omega)), hacc]; done) | (rw [idx_step_f (by first | assumption | (simp [*]; done) | (simp; omega)), hacc]; done) | (rw [idx_step_t (by simp_all <;> fail), hacc]; done) | (rw [idx_step_f (by simp_all <;> fail), hacc]; done))
 refine S.gr 13 .nil [slv acc.length q5.1] fun ac w β S => ?_
 exact ret1_of S (show f_freeIn h = acc by clear S; (unfold f_freeIn; rw [hacc, show h.mem.length = k by omega])) rfl o7

theorem c_impl_UsesOf (w0 : World) (t : List TSlot) (pt : LP TSlot) (ht : RD w0 t pt) (page : Int) : Calls Tryz.prog 208 [slv t.length pt.1, I page].toArray w0 (Ret1 NoB w0 (f_usesOf t page : List Int)) := by
 refine Calls.run NoB Tryz.func208 ?_
 intro ac β S
 have hlet : t.length ≤ 4194304 := LRd.le ht
 refine S.go 7 .nil fun ac w β S => S.B0 (α := Int) (d := 8) fun ac w N q1 F2 S up o3 d4 => ?_
 clear up d4
 refine S.go 12 .nil fun ac w β S => ?_
 refine lp (fun mm ac w => ∃ (k : Nat) (acc : List Int) (q5 : _) (F6 : _) (u : _) (N : _) (β : _), mm = t.length - k ∧ (k ≤ t.length) ∧ (acc = f_idx k (fun i => decide ((el t i).page = page))) ∧ St Tryz.prog Tryz.f208.ntmps w0 NoB u N β ⟨[(1, .v (I page)), (5, .v (slv acc.length q5.1)), (9, .v (slv t.length pt.1)), (10, .v (I (t.length : Int))), (11, .v (I (k : Int)))], []⟩ ac w ∧ Ow w0 NoB u N F6 acc q5) _ ⟨0, ([] : List Int), q1, F2, _, _, _, rfl, o0, (by rfl), S.z, o3⟩ ?_
 clear S o3
 rintro f8 mm hf9 ac w ⟨k, acc, q5, F6, u, N, β, rfl, hk, hacc, S, o7⟩
 refine S.rs fun S => ?_
 have hlacc : acc.length ≤ k := by rw [hacc]; exact idx_len _ _
 refine S.gd 6 .nil (decide ((k : Int) < (t.length : Int))) (fun ac w β h10 g11 S => ?_) (fun ac w β h10 g11 S => ?_)
 ·refine S.gd 23 (.cons (qn (S.arg ht) k Tryz.underlying45) (.cons (qs (S.arg ht) 44 k) .nil)) ((el t k).page == page) (fun ac w β h12 g13 S => ?_) (fun ac w β h12 g13 S => ?_)
  ·refine S.go 4 .nil fun ac w β S => S.B1 (α := Int) (x := (k : Int)) (p := ()) (F := NoB) ⟨by omega, by omega⟩ (fun b h => False.elim h) (fun b h => False.elim h) (d := 22) fun ac w N q14 F15 S up o16 d17 => ?_
   replace o7 := o7.up up
   clear up d17
   refine S.AF (α := Int) o7 o16.rn (fun _ _ h => h) (by' := 8) (d := 23) (lx := acc.length) (ly := 1) rfl rfl (show _ ≤ 4194304 by simp only [List.length_append, List.length_cons, List.length_nil]; omega) fun ac w N q19 F20 S up o21 d22 => ?_
   clear up d22
   refine S.ge 8 (.cons (qp (k : Int) 1) .nil) f8 fun ac w β S => hf9.of (t.length - (k + 1)) _ _ (by omega) ⟨k + 1, (acc ++ [(k : Int)]), q19, F20, _, _, _, rfl, ?_, ?_, S.z, o21⟩
   ·exact oz
   ·clear S; (first | (rw [idx_step_t (by first | assumption | (simp [*]; done) | (simp; omega)), hacc]; done) | (rw [idx_step_f (by first | assumption | (simp [*]; done) | (simp; omega)), hacc]; done) | (rw [idx_step_t (by simp_all <;> fail), hacc]; done) | (rw [idx_step_f (by simp_all <;> fail), hacc]; done))
  refine S.ge 8 (.cons (qp (k : Int) 1) .nil) f8 fun ac w β S => hf9.of (t.length - (k + 1)) _ _ (by omega) ⟨k + 1, acc, q5, F6, _, _, _, rfl, ?_, ?_, S.z, o7⟩
  ·exact oz
  ·clear S; (first | (rw [idx_step_t (by first | assumption | (simp [*]; done) | (simp; omega)), hacc]; done) | (rw [idx_step_f (by first | assumption | (simp [*]; done) | (simp; omega)), hacc]; done) | (rw [idx_step_t (by simp_all <;> fail), hacc]; done) | (rw [idx_step_f (by simp_all <;> fail), hacc]; done))
 refine S.gr 13 .nil [slv acc.length q5.1] fun ac w β S => ?_
 exact ret1_of S (show f_usesOf t page = acc by clear S; (unfold f_usesOf; rw [hacc, show t.length = k by omega])) rfl o7

theorem c_impl_ForgetUses (w0 : World) (k : TKept) (pk : PKept) (hk : RD w0 k pk) (inner : List TSlot) (pinner : LP TSlot) (hinner : RD w0 inner pinner) (page : Int) : Calls Tryz.prog 178 [GT.val k pk, slv inner.length pinner.1, I page].toArray w0 (Ret1 NoB w0 (f_forgetUses k inner page : TKept)) := by
 refine Calls.run NoB Tryz.func178 ?_
 intro ac β S
 have hlek_known : k.known.length ≤ 4194304 := LRd.le (RKept.known (d := k) hk)
 have hlek_slots : k.slots.length ≤ 4194304 := LRd.le (RKept.slots (d := k) hk)
 have hleinner : inner.length ≤ 4194304 := LRd.le hinner
 refine S.go 9 .nil fun ac w β S => S.K1 (r := k) (d := 11) (c_impl_copyKept w k pk (S.rd (S.arg hk))) fun ac w N q1 F2 S up o3 d4 => ?_
 clear up d4
 obtain ⟨F5, F8, o6, o9, _, _, d11⟩ := sp_Kept o3
 refine S.go 9 .nil fun ac w β S => S.K1 (r := f_usesOf inner page) (d := 14) (c_impl_UsesOf w inner pinner (S.rd (S.arg hinner)) page) fun ac w N q12 F13 S up o14 d15 => ?_
 have d16 := Disj.w d15 o6.sub
 have d17 := Disj.w d15 o9.sub
 replace o6 := o6.up up
 replace o9 := o9.up up
 clear up d15
 refine S.go 5 .nil fun ac w β S => ?_
 refine lp (fun mm ac w => ∃ (i : Nat) (kn : List Bool) (sl : List TSlot) (q18 : _) (F19 : _) (q21 : _) (F22 : _) (u : _) (N : _) (β : _), mm = (f_usesOf inner page).length - i ∧ (i ≤ (f_usesOf inner page).length) ∧ ((⟨kn, sl⟩ : TKept) = ((f_usesOf inner page).take i).foldl f_forget k) ∧ St Tryz.prog Tryz.f178.ntmps w0 NoB u N β ⟨[(6, .p 1 0), (7, .p 2 0), (14, .v (slv (f_usesOf inner page).length q12.1)), (15, .v (I ((f_usesOf inner page).length : Int))), (16, .v (I (i : Int)))], [GT.cells k pk, Zc TKept, [slv kn.length q18.1, slv sl.length q21.1]]⟩ ac w ∧ Ow w0 NoB u N F19 kn q18 ∧ Ow w0 NoB u N F22 sl q21 ∧ Ow w0 NoB u N F13 (f_usesOf inner page) q12 ∧ Disj F19 F22 ∧ Disj F19 F13 ∧ Disj F22 F13) _ ⟨0, k.known, k.slots, q1.known, F5, q1.slots, F8, _, _, _, rfl, o0, (by rfl), S.z, o6, o9, o14, d11, d16, d17⟩ ?_
 clear S o14 o6 o9
 rintro f27 mm hf28 ac w ⟨i, kn, sl, q18, F19, q21, F22, u, N, β, rfl, hi, hf, S, o20, o23, o14, d24, d25, d26⟩
 refine S.rs fun S => ?_
 have hub : (f_usesOf inner page).length ≤ inner.length := idx_len _ _
 refine S.gd 6 .nil (decide ((i : Int) < ((f_usesOf inner page).length : Int))) (fun ac w β h29 g30 S => ?_) (fun ac w β h29 g30 S => ?_)
 ·refine S.go 15 (.cons (qn o14.rn i Tryz.underlying26) (.cons (qx o14.rn 3 i) .nil)) fun ac w β S => S.K1 (r := f_forget (⟨kn, sl⟩ : TKept) (el (f_usesOf inner page) i)) (d := 22) (c_impl_Forget w (⟨kn, sl⟩ : TKept) (⟨q18, q21⟩ : PKept) (S.rd (show GT.rd KK _ _ (⟨kn, sl⟩ : TKept) (⟨q18, q21⟩ : PKept) from ⟨o20.rn, o23.rn⟩)) (el (f_usesOf inner page) i)) fun ac w N q31 F32 S up o33 d34 => ?_
  have d37 := Disj.w d34 o14.sub
  replace o20 := o20.up up
  replace o23 := o23.up up
  replace o14 := o14.up up
  clear up d34
  obtain ⟨F38, F41, o39, o42, s40, s43, d44⟩ := sp_Kept o33
  refine S.ge 8 (.cons (qp (i : Int) 1) .nil) f27 fun ac w β S => hf28.of ((f_usesOf inner page).length - (i + 1)) _ _ (by omega) ⟨i + 1, (f_forget (⟨kn, sl⟩ : TKept) (el (f_usesOf inner page) i)).known, (f_forget (⟨kn, sl⟩ : TKept) (el (f_usesOf inner page) i)).slots, q31.known, F38, q31.slots, F41, _, _, _, rfl, ?_, ?_, S.z, o39, o42, o14, d44, (Disj.part (Disj.symm d37) s40), (Disj.part (Disj.symm d37) s43)⟩
  ·exact oz
  ·clear S; (rw [fold_step (by omega), ← hf])
 refine S.gr 13 .nil [GT.val (⟨kn, sl⟩ : TKept) (⟨q18, q21⟩ : PKept)] fun ac w β S => ?_
 have o45 := ow_Kept (x := (⟨kn, sl⟩ : TKept)) (p := (⟨q18, q21⟩ : PKept)) o20 o23 d24 
 exact ret1_of S (show f_forgetUses k inner page = (⟨kn, sl⟩ : TKept) by clear S; (unfold f_forgetUses; rw [fold_end (by omega)] at hf; exact hf.symm)) rfl o45

theorem c_impl_FlushHost (w0 : World) (b : List TEntry) (pb : LP TEntry) (hb : RD w0 b pb) (host : Int) (hhost : In64 host) : Calls Tryz.prog 179 [slv b.length pb.1, I host].toArray w0 (Ret1 NoB w0 (f_flushHost b host : List TEntry)) := by
 refine Calls.run NoB Tryz.func179 ?_
 intro ac β S
 have hleb : b.length ≤ 4194304 := LRd.le hb
 have hlohost := hhost.lo; have hhihost := hhost.hi
 refine S.go 7 .nil fun ac w β S => ?_
 refine S.Frz 0 host () hhost fun β N b1 F2 S up o3 d4 => ?_
 clear up d4
 refine S.go 3 .nil fun ac w β S => S.K1 (r := f_without b (fun e => f_onHost e host)) (d := 7) (c_impl_without_impl_FlushHost_1 w b pb (S.rd (S.arg hb)) host (cap1 b1 () : LP Int) (S.rd o3.rn)) fun ac w N q5 F6 S up o7 d8 => ?_
 clear up d8
 refine S.gr 4 .nil [slv (f_without b (fun e => f_onHost e host)).length q5.1] fun ac w β S => ?_
 exact ret1_of S (show f_flushHost b host = (f_without b (fun e => f_onHost e host)) by clear S; rfl) rfl o7

theorem k0_impl_invalidate {p : Prop} (h : p := by clear S; ((have hke : k = (el h.mons m.toNat).guests.length := (by omega)); subst hke; subst hX; unfold f_inval; first | (rw [flushIf_yes (by assumption), flushIf_yes (by assumption)]; done) | (rw [flushIf_no (by assumption), flushIf_no (by assumption)]; done))) : p := h
theorem c_impl_invalidate (w0 : World) (h : THost) (qh : LP THost) (F : Bl) (hh : GT.own KK F w0 [h] qh) (hF : ∀ b, F b → b < w0.heap.size) (m : Int) (page : Int) (s : TSlot) (hs : RSlot s) (pre0 : (0 ≤ m ∧ m < h.mons.length) ∧ (el h.mons m.toNat).tables.length = (el h.mons m.toNat).guests.length) : Calls Tryz.prog 130 [pt qh.1.b (qh.1.off + 0 * 4), I m, I page, GT.val s ()].toArray w0 (RetC hdrH F qh w0 (packed []) (f_inval h m page s)) := by
 refine Calls.run F Tryz.func130 ?_
 intro ac β S
 have oh : Ow w0 F w0 (Lt w0.heap.size) F [h] qh := ⟨hh, hF, fun b hb => .inr hb⟩
 have b1 : (el h.mons m.toNat).guests.length ≤ 4194304 := LRd.le (RMon.guests (d := (el h.mons m.toNat)) (LRd.el (capx_mons oh.rn) m.toNat (by omega)))
 refine S.go 28 (.cons (Q_cell oh.rn (t := 57) (k := 0) (j := 1) (v := slv h.mons.length (qh.2 0).mons.1) (Nat.succ_pos 0) (by kernel_rfl) (by kernel_rfl)) (.cons (qt (capx_mons oh.rn) m Tryz.underlying57) (.cons (qc (capx_mons oh.rn) 25 m.toNat 3 (slv (el h.mons m.toNat).guests.length ((qh.2 0).mons.2 m.toNat).guests.1)) .nil))) fun ac w β S => ?_
 refine lp (fun mm ac w => ∃ (k : Nat) (X : List TMon) (q2 : Nat → PHost) (F3 : _) (u : _) (N : _) (β : _), mm = (el h.mons m.toNat).guests.length - k ∧ (k ≤ (el h.mons m.toNat).guests.length) ∧ (X = h.mons.set m.toNat { el h.mons m.toNat with tables := f_tabs (el h.mons m.toNat).tables (el h.mons m.toNat).guests page k }) ∧ St Tryz.prog Tryz.f130.ntmps w0 F u N β ⟨[(0, .v (pt qh.1.b (qh.1.off + 0 * 4))), (2, .v (I page)), (7, .p 0 0), (8, .v (pt (qh.2 0).mons.1.b ((qh.2 0).mons.1.off + m.toNat * 9))), (20, .v (I ((el h.mons m.toNat).guests.length : Int))), (21, .v (I (k : Int)))], [GT.cells s ()]⟩ ac w ∧ Ow w0 F u N F3 ([(⟨h.mem, X, h.buf, h.iobuf⟩ : THost)]) ((qh.1, q2) : LP THost) ∧ (q2 0).mons.1 = (qh.2 0).mons.1) _ ⟨0, h.mons, qh.2, F, _, _, _, rfl, o0, (by exact set_self.symm), S.z, oh, rfl⟩ ?_
 clear S oh
 rintro f6 mm hf7 ac w ⟨k, X, q2, F3, u, N, β, rfl, hk, hX, S, o4, hq5⟩
 refine S.rs fun S => ?_
 obtain ⟨hl, he⟩ := setm_tables hX (show m.toNat < h.mons.length by omega) (tabs_len _ _ _ _)
 refine S.gd 6 .nil (decide ((k : Int) < ((el h.mons m.toNat).guests.length : Int))) (fun ac w β h8 g9 S => ?_) (fun ac w β h8 g9 S => ?_)
 ·refine S.go 11 .nil fun ac w β S => ?_
  refine drw ?_
  refine S.draw0 (f := 24) 23 (by kernel_rfl) (by kernel_rfl) fun w S => ?_
  refine S.hq 0 [0] [] [(24, .v (pt (qh.2 0).mons.1.b ((qh.2 0).mons.1.off + m.toNat * 9)))] .nil fun ac S => ?_
  refine S.hq 1 [1] [] [(25, .v (pt (qh.2 0).mons.1.b ((qh.2 0).mons.1.off + m.toNat * 9)))] .nil fun ac S => ?_
  refine S.hq 2 [2] [] [(26, .v (pt (qh.2 0).mons.1.b ((qh.2 0).mons.1.off + m.toNat * 9 + 7)))] .nil fun ac S => ?_
  refine S.hq 3 [3] [] [(27, .v (slv (el X m.toNat).tables.length (((q2 0).mons.2) m.toNat).tables.1))] (.cons (qc (rd_hdr hq5 (cap_mons o4.rn)) 97 m.toNat 7 (slv (el X m.toNat).tables.length (((q2 0).mons.2) m.toNat).tables.1)) .nil) fun ac S => ?_
  refine S.hq 4 [4] [] [(28, .v (I (k : Int)))] .nil fun ac S => ?_
  refine S.hq 5 [5] [] [(29, .v (pt (qh.2 0).mons.1.b ((qh.2 0).mons.1.off + m.toNat * 9)))] .nil fun ac S => ?_
  refine S.hq 6 [6] [] [(30, .v (pt (qh.2 0).mons.1.b ((qh.2 0).mons.1.off + m.toNat * 9)))] .nil fun ac S => ?_
  refine S.hq 7 [7] [] [(31, .v (pt (qh.2 0).mons.1.b ((qh.2 0).mons.1.off + m.toNat * 9 + 7)))] .nil fun ac S => ?_
  refine S.hq 8 [8] [] [(32, .v (slv (el X m.toNat).tables.length (((q2 0).mons.2) m.toNat).tables.1))] (.cons (qc (rd_hdr hq5 (cap_mons o4.rn)) 97 m.toNat 7 (slv (el X m.toNat).tables.length (((q2 0).mons.2) m.toNat).tables.1)) .nil) fun ac S => ?_
  refine S.hq 9 [9] [] [(33, .v (I (k : Int)))] .nil fun ac S => ?_
  refine S.hq 10 [10] [] [(34, .v (pt (((q2 0).mons.2) m.toNat).tables.1.b ((((q2 0).mons.2) m.toNat).tables.1.off + k * 2)))] (.cons (qn (RMon.tables (d := (el X m.toNat)) (LRd.el (rd_hdr hq5 (cap_mons o4.rn)) m.toNat (by omega))) k Tryz.underlying97) .nil) fun ac S => ?_
  refine S.hq 11 [11] [] [(35, .v (GT.val (el (el X m.toNat).tables k) ((((q2 0).mons.2) m.toNat).tables.2 k)))] (.cons (qs (RMon.tables (d := (el X m.toNat)) (LRd.el (rd_hdr hq5 (cap_mons o4.rn)) m.toNat (by omega))) 106 k) .nil) fun ac S => ?_
  refine S.hq 12 [12] [] [(36, .v (pt (qh.2 0).mons.1.b ((qh.2 0).mons.1.off + m.toNat * 9)))] .nil fun ac S => ?_
  refine S.hq 13 [13] [] [(37, .v (pt (qh.2 0).mons.1.b ((qh.2 0).mons.1.off + m.toNat * 9)))] .nil fun ac S => ?_
  refine S.hq 14 [14] [] [(38, .v (pt (qh.2 0).mons.1.b ((qh.2 0).mons.1.off + m.toNat * 9 + 3)))] .nil fun ac S => ?_
  refine S.hq 15 [15] [] [(39, .v (slv (el X m.toNat).guests.length (((q2 0).mons.2) m.toNat).guests.1))] (.cons (qc (rd_hdr hq5 (cap_mons o4.rn)) 25 m.toNat 3 (slv (el X m.toNat).guests.length (((q2 0).mons.2) m.toNat).guests.1)) .nil) fun ac S => ?_
  refine S.hq 16 [16] [] [(40, .v (I (k : Int)))] .nil fun ac S => ?_
  refine S.hq 17 [17] [] [(41, .v (pt (((q2 0).mons.2) m.toNat).guests.1.b ((((q2 0).mons.2) m.toNat).guests.1.off + k * 15)))] (.cons (qn (RMon.guests (d := (el X m.toNat)) (LRd.el (rd_hdr hq5 (cap_mons o4.rn)) m.toNat (by omega))) k Tryz.underlying25) .nil) fun ac S => ?_
  refine S.hq 18 [18] [] [(42, .v (pt (((q2 0).mons.2) m.toNat).guests.1.b ((((q2 0).mons.2) m.toNat).guests.1.off + k * 15 + 4)))] .nil fun ac S => ?_
  refine S.hq 19 [19] [] [(43, .v (slv (el (el X m.toNat).guests k).live.length ((((q2 0).mons.2) m.toNat).guests.2 k).live.1))] (.cons (qc (RMon.guests (d := (el X m.toNat)) (LRd.el (rd_hdr hq5 (cap_mons o4.rn)) m.toNat (by omega))) 45 k 4 (slv (el (el X m.toNat).guests k).live.length ((((q2 0).mons.2) m.toNat).guests.2 k).live.1)) .nil) fun ac S => ?_
  refine S.hq 20 [20] [] [(44, .v (I page))] .nil fun ac S => ?_
  refine WD.one (i := 21) (by kernel_rfl) ?_
  refine id (S.k1 45 (c_impl_ForgetUses w (el (el X m.toNat).tables k) ((((q2 0).mons.2) m.toNat).tables.2 k) (S.rd (LRd.el (RMon.tables (d := (el X m.toNat)) (LRd.el (rd_hdr hq5 (cap_mons o4.rn)) m.toNat (by omega))) k (by omega))) (el (el X m.toNat).guests k).live ((((q2 0).mons.2) m.toNat).guests.2 k).live (S.rd (RGuest.live (d := (el (el X m.toNat).guests k)) (LRd.el (RMon.guests (d := (el X m.toNat)) (LRd.el (rd_hdr hq5 (cap_mons o4.rn)) m.toNat (by omega))) k (by omega)))) page) fun ac w N q10 F11 S up o12 d13 => ?_)
  refine WD.next S up (by kernel_rfl) ?_
  have d14 := Disj.w d13 o4.sub
  replace o4 := o4.up up
  clear up d13
  refine S.hq 22 [22] [] [(46, .v (pt (((q2 0).mons.2) m.toNat).tables.1.b ((((q2 0).mons.2) m.toNat).tables.1.off + k * 2)))] (.cons (qn (RMon.tables (d := (el X m.toNat)) (LRd.el (rd_hdr hq5 (cap_mons o4.rn)) m.toNat (by omega))) k Tryz.underlying97) .nil) fun ac S => ?_
  refine WD.one (i := 23) (by kernel_rfl) ?_
  obtain ⟨F15, o16, s17, b18⟩ := foc_cap o4 (fun _ o => foc2_Mon_tables o (k := m.toNat) (show m.toNat < X.length by omega))
  change Ow w0 F _ _ F15 (el X m.toNat).tables (((q2 0).mons.2) m.toNat).tables at o16
  have l19 := LRd.le o16.rn
  have n20 := o16.sub
  refine id (S.sV (α := TKept) o16 (t := 106) (k := k) (off := (((q2 0).mons.2) m.toNat).tables.1.off + k * 2) o12 (Disj.symm (Disj.symm (Disj.part d14 s17))) fun w N F22 q23 S up o21 d24 s25 n26 => ?_)
  refine WD.last (by kernel_rfl) ?_
  clear d24 o16
  obtain ⟨p27, o28, hq30⟩ := b18 _ _ _ _ _ F11 up o21 s25 d14 List.length_set n26
  obtain ⟨X32, hX33⟩ : ∃ z, z = X.set m.toNat { el X m.toNat with tables := ((el X m.toNat).tables.set k (f_forgetUses (el (el X m.toNat).tables k) (el (el X m.toNat).guests k).live page)) } := ⟨_, rfl⟩
  have o31 : Ow w0 F w N (Or F3 F22) [(⟨h.mem, X32, h.buf, h.iobuf⟩ : THost)] ((qh.1, p27) : LP THost) := by rw [hX33]; exact o28
  obtain ⟨l34, e35⟩ := setm_tables hX33 (show m.toNat < X.length by omega) List.length_set
  change (p27 0).mons.1 = (q2 0).mons.1 at hq30
  clear up o21 n26 o28
  refine WD.done (by kernel_rfl) ?_ _
  refine S.ex fun S => ?_
  refine S.ge 6 (.cons (qp (k : Int) 1) .nil) f6 fun ac w β S => hf7.of ((el h.mons m.toNat).guests.length - (k + 1)) _ _ (by omega) ⟨k + 1, X32, p27, (Or F3 F22), _, _, _, rfl, ?_, ?_, S.z, o31, (hq30.trans hq5)⟩
  ·exact oz
  ·clear S; (subst_vars; rw [List.set_set]; simp only [el_set_self (show m.toNat < h.mons.length by omega), f_tabs, tabs_el _ _ _ (Nat.le_refl _)])
 refine S.gd 13 .nil (s.page != (-1)) (fun ac w β h36 g37 S => ?_) (fun ac w β h36 g37 S => ?_)
 ·refine S.go 2 .nil fun ac w β S => ?_
  refine drw ?_
  refine S.draw0 (f := 11) 10 (by kernel_rfl) (by kernel_rfl) fun w S => ?_
  refine S.hq 0 [0] [] [(51, .v (pt qh.1.b (qh.1.off + 0 * 4)))] .nil fun ac S => ?_
  refine S.hq 1 [1] [] [(52, .v (pt qh.1.b (qh.1.off + 0 * 4)))] .nil fun ac S => ?_
  refine S.hq 2 [2] [] [(53, .v (pt qh.1.b (qh.1.off + 0 * 4)))] .nil fun ac S => ?_
  refine S.hq 3 [3] [] [(54, .v (pt qh.1.b (qh.1.off + 0 * 4 + 2)))] .nil fun ac S => ?_
  refine S.hq 4 [4] [] [(55, .v (slv h.buf.length (q2 0).buf.1))] (.cons (Q_cell o4.rn (t := 58) (k := 0) (j := 2) (v := slv h.buf.length (q2 0).buf.1) (Nat.succ_pos 0) (by kernel_rfl) (by kernel_rfl)) .nil) fun ac S => ?_
  refine S.hq 5 [5] [] [(56, .p 0 0)] .nil fun ac S => ?_
  refine S.hq 6 [6] [] [(57, .v (I s.page))] .nil fun ac S => ?_
  refine WD.one (i := 7) (by kernel_rfl) ?_
  refine id (S.k1 58 (c_impl_FlushHost w h.buf (q2 0).buf (S.rd (cap_buf o4.rn)) s.page (RSlot.page (d := s) hs)) fun ac w N q38 F39 S up o40 d41 => ?_)
  refine WD.next S up (by kernel_rfl) ?_
  have d42 := Disj.w d41 o4.sub
  replace o4 := o4.up up
  clear up d41
  refine S.hq 8 [9, 8] [] [(59, .v (pt qh.1.b (qh.1.off + 0 * 4)))] .nil fun ac S => ?_
  refine S.hq 9 [9] [] [(60, .v (pt qh.1.b (qh.1.off + 0 * 4 + 2)))] .nil fun ac S => ?_
  refine WD.one (i := 10) (by kernel_rfl) ?_
  refine id (S.setElE (α := THost) o4 (t := 58) (v := slv (f_flushHost h.buf s.page).length q38.1) (k := 0) (j := 2) (off := qh.1.off + 0 * 4 + 2) (y := (⟨h.mem, X, (f_flushHost h.buf s.page), h.iobuf⟩ : THost)) (q := ({ (q2 0) with buf := q38 } : PHost)) (Fy := F39) (by kernel_rfl) (by kernel_rfl) (Nat.succ_pos 0) (by kernel_rfl) (by kernel_rfl) (Nat.le_of_ble_eq_true (by kernel_rfl)) (by kernel_rfl) (fun G g_ gF => ⟨_, owl_Host_buf g_ o40.own (fun b h h2 => d42 b (gF b h) h2), fun _ h => h⟩) d42 o40.sub o40.young fun w N F44 S up o43 d46 s47 n48 => ?_)
  refine WD.last (by kernel_rfl) ?_
  obtain ⟨q45, o49, hq50⟩ : ∃ q45 : Nat → PHost, Ow w0 F _ _ F44 [(⟨h.mem, X, (f_flushHost h.buf s.page), h.iobuf⟩ : THost)] ((qh.1, q45) : LP THost) ∧ (q45 0).mons.1 = (q2 0).mons.1 := ⟨_, o43, rfl⟩
  clear up d46 o4 o43 s47 n48
  refine WD.done (by kernel_rfl) ?_ _
  refine S.ex fun S => ?_
  refine S.go 1 .nil fun ac w β S => ?_
  refine drw ?_
  refine S.draw0 (f := 11) 10 (by kernel_rfl) (by kernel_rfl) fun w S => ?_
  refine S.hq 0 [0] [] [(61, .v (pt qh.1.b (qh.1.off + 0 * 4)))] .nil fun ac S => ?_
  refine S.hq 1 [1] [] [(62, .v (pt qh.1.b (qh.1.off + 0 * 4)))] .nil fun ac S => ?_
  refine S.hq 2 [2] [] [(63, .v (pt qh.1.b (qh.1.off + 0 * 4)))] .nil fun ac S => ?_
  refine S.hq 3 [3] [] [(64, .v (pt qh.1.b (qh.1.off + 0 * 4 + 3)))] .nil fun ac S => ?_
  refine S.hq 4 [4] [] [(65, .v (slv h.iobuf.length (q45 0).iobuf.1))] (.cons (Q_cell o49.rn (t := 58) (k := 0) (j := 3) (v := slv h.iobuf.length (q45 0).iobuf.1) (Nat.succ_pos 0) (by kernel_rfl) (by kernel_rfl)) .nil) fun ac S => ?_
  refine S.hq 5 [5] [] [(66, .p 0 0)] .nil fun ac S => ?_
  refine S.hq 6 [6] [] [(67, .v (I s.page))] .nil fun ac S => ?_
  refine WD.one (i := 7) (by kernel_rfl) ?_
  refine id (S.k1 68 (c_impl_FlushHost w h.iobuf (q45 0).iobuf (S.rd (cap_iobuf o49.rn)) s.page (RSlot.page (d := s) hs)) fun ac w N q51 F52 S up o53 d54 => ?_)
  refine WD.next S up (by kernel_rfl) ?_
  have d55 := Disj.w d54 o49.sub
  replace o49 := o49.up up
  clear up d54
  refine S.hq 8 [9, 8] [] [(69, .v (pt qh.1.b (qh.1.off + 0 * 4)))] .nil fun ac S => ?_
  refine S.hq 9 [9] [] [(70, .v (pt qh.1.b (qh.1.off + 0 * 4 + 3)))] .nil fun ac S => ?_
  refine WD.one (i := 10) (by kernel_rfl) ?_
  refine id (S.setElE (α := THost) o49 (t := 58) (v := slv (f_flushHost h.iobuf s.page).length q51.1) (k := 0) (j := 3) (off := qh.1.off + 0 * 4 + 3) (y := (⟨h.mem, X, (f_flushHost h.buf s.page), (f_flushHost h.iobuf s.page)⟩ : THost)) (q := ({ (q45 0) with iobuf := q51 } : PHost)) (Fy := F52) (by kernel_rfl) (by kernel_rfl) (Nat.succ_pos 0) (by kernel_rfl) (by kernel_rfl) (Nat.le_of_ble_eq_true (by kernel_rfl)) (by kernel_rfl) (fun G g_ gF => ⟨_, owl_Host_iobuf g_ o53.own (fun b h h2 => d55 b (gF b h) h2), fun _ h => h⟩) d55 o53.sub o53.young fun w N F57 S up o56 d59 s60 n61 => ?_)
  refine WD.last (by kernel_rfl) ?_
  obtain ⟨q58, o62, hq63⟩ : ∃ q58 : Nat → PHost, Ow w0 F _ _ F57 [(⟨h.mem, X, (f_flushHost h.buf s.page), (f_flushHost h.iobuf s.page)⟩ : THost)] ((qh.1, q58) : LP THost) ∧ (q58 0).mons.1 = (q45 0).mons.1 := ⟨_, o56, rfl⟩
  clear up d59 o49 o56 s60 n61
  refine WD.done (by kernel_rfl) ?_ _
  refine S.ex fun S => ?_
  refine S.gr 0 .nil [] fun ac w β S => ?_
  exact retC_of S (show f_inval h m page s = (⟨h.mem, X, (f_flushHost h.buf s.page), (f_flushHost h.iobuf s.page)⟩ : THost) from k0_impl_invalidate) (show hdrH _ _ from (hq63.trans (hq50.trans hq5))) o62
 refine S.gr 2 .nil [] fun ac w β S => ?_
 exact retC_of S (show f_inval h m page s = (⟨h.mem, X, h.buf, h.iobuf⟩ : THost) from k0_impl_invalidate) (show hdrH _ _ from hq5) o4

theorem c_impl_send (w0 : World) (h : THost) (qh : LP THost) (F : Bl) (hh : GT.own KK F w0 [h] qh) (hF : ∀ b, F b → b < w0.heap.size) (m : Int) (page : Int) (pre0 : (0 ≤ m ∧ m < h.mons.length) ∧ (el h.mons m.toNat).tables.length = (el h.mons m.toNat).guests.length ∧ (0 ≤ page ∧ page ≤ 7) ∧ (el h.mons m.toNat).outer.length = 8 ∧ (el h.mons m.toNat).out.length = 8) : Calls Tryz.prog 207 [pt qh.1.b (qh.1.off + 0 * 4), I m, I page].toArray w0 (RetC hdrH F qh w0 (packed []) (f_send h m page)) := by
 refine Calls.run F Tryz.func207 ?_
 intro ac β S
 have oh : Ow w0 F w0 (Lt w0.heap.size) F [h] qh := ⟨hh, hF, fun b hb => .inr hb⟩
 refine S.go 25 (.cons (Q_cell oh.rn (t := 57) (k := 0) (j := 1) (v := slv h.mons.length (qh.2 0).mons.1) (Nat.succ_pos 0) (by kernel_rfl) (by kernel_rfl)) (.cons (qt (capx_mons oh.rn) m Tryz.underlying57) (.cons (qc (capx_mons oh.rn) 45 m.toNat 0 (slv (el h.mons m.toNat).outer.length ((qh.2 0).mons.2 m.toNat).outer.1)) (.cons (qt (RMon.outer (d := (el h.mons m.toNat)) (LRd.el (capx_mons oh.rn) m.toNat (by omega))) page Tryz.underlying45) (.cons (qs (RMon.outer (d := (el h.mons m.toNat)) (LRd.el (capx_mons oh.rn) m.toNat (by omega))) 44 page.toNat) .nil))))) fun ac w β S => ?_
 refine drw ?_
 refine S.draw0 (f := 14) 13 (by kernel_rfl) (by kernel_rfl) fun w S => ?_
 refine S.hq 0 [0] [] [(21, .v (pt (qh.2 0).mons.1.b ((qh.2 0).mons.1.off + m.toNat * 9)))] .nil fun ac S => ?_
 refine S.hq 1 [1] [] [(22, .v (pt (qh.2 0).mons.1.b ((qh.2 0).mons.1.off + m.toNat * 9)))] .nil fun ac S => ?_
 refine S.hq 2 [2] [] [(23, .v (pt (qh.2 0).mons.1.b ((qh.2 0).mons.1.off + m.toNat * 9 + 1)))] .nil fun ac S => ?_
 refine S.hq 3 [3] [] [(24, .v (slv (el h.mons m.toNat).out.length ((qh.2 0).mons.2 m.toNat).out.1))] (.cons (qc (capx_mons oh.rn) 24 m.toNat 1 (slv (el h.mons m.toNat).out.length ((qh.2 0).mons.2 m.toNat).out.1)) .nil) fun ac S => ?_
 refine S.hq 4 [4] [] [(25, .v (I page))] .nil fun ac S => ?_
 refine S.hq 5 [5] [] [(26, .v (pt qh.1.b (qh.1.off + 0 * 4)))] .nil fun ac S => ?_
 refine S.hq 6 [6] [] [(27, .v (pt qh.1.b (qh.1.off + 0 * 4)))] .nil fun ac S => ?_
 refine S.hq 7 [7] [] [(28, .v (pt qh.1.b (qh.1.off + 0 * 4)))] .nil fun ac S => ?_
 refine S.hq 8 [8] [] [(29, .v (slv h.mem.length (qh.2 0).mem.1))] (.cons (Q_cell oh.rn (t := 24) (k := 0) (j := 0) (v := slv h.mem.length (qh.2 0).mem.1) (Nat.succ_pos 0) (by kernel_rfl) (by kernel_rfl)) .nil) fun ac S => ?_
 refine S.hq 9 [9] [] [(30, .p 0 0)] .nil fun ac S => ?_
 refine S.hq 10 [10] [] [(31, .v (I (el (el h.mons m.toNat).outer page.toNat).page))] .nil fun ac S => ?_
 refine WD.one (i := 11) (by kernel_rfl) ?_
 refine id (S.k1 32 (c_impl_PageAt w h.mem (qh.2 0).mem (S.rd (capx_mem oh.rn)) (el (el h.mons m.toNat).outer page.toNat).page) fun ac w N q1 F2 S up o3 d4 => ?_)
 refine WD.next S up (by kernel_rfl) ?_
 have d5 := Disj.w d4 oh.sub
 replace oh := oh.up up
 clear up d4
 refine S.hq 12 [12] [] [(33, .v (pt ((qh.2 0).mons.2 m.toNat).out.1.b (((qh.2 0).mons.2 m.toNat).out.1.off + page.toNat * 1)))] (.cons (qt (RMon.out (d := (el h.mons m.toNat)) (LRd.el (capx_mons oh.rn) m.toNat (by omega))) page Tryz.underlying24) .nil) fun ac S => ?_
 refine WD.one (i := 13) (by kernel_rfl) ?_
 obtain ⟨F6, o7, s8, b9⟩ := foc_cap oh (fun _ o => foc2_Mon_out o (k := m.toNat) (show m.toNat < h.mons.length by omega))
 change Ow w0 F _ _ F6 (el h.mons m.toNat).out ((qh.2 0).mons.2 m.toNat).out at o7
 have l10 := LRd.le o7.rn
 have n11 := o7.sub
 refine id (S.sV (α := List Int) o7 (t := 26) (k := page.toNat) (off := ((qh.2 0).mons.2 m.toNat).out.1.off + page.toNat * 1) o3 (Disj.symm (Disj.symm (Disj.part d5 s8))) fun w N F13 q14 S up o12 d15 s16 n17 => ?_)
 refine WD.last (by kernel_rfl) ?_
 clear d15 o7
 obtain ⟨p18, o19, hq21⟩ := b9 _ _ _ _ _ F2 up o12 s16 d5 List.length_set n17
 obtain ⟨X23, hX24⟩ : ∃ z, z = h.mons.set m.toNat { el h.mons m.toNat with out := ((el h.mons m.toNat).out.set page.toNat (f_pageAt h.mem (el (el h.mons m.toNat).outer page.toNat).page)) } := ⟨_, rfl⟩
 have o22 : Ow w0 F w N (Or F F13) [(⟨h.mem, X23, h.buf, h.iobuf⟩ : THost)] ((qh.1, p18) : LP THost) := by rw [hX24]; exact o19
 obtain ⟨l25, e26⟩ := setm_out hX24 (show m.toNat < h.mons.length by omega) List.length_set
 change (p18 0).mons.1 = (qh.2 0).mons.1 at hq21
 clear up o12 n17 o19
 refine WD.done (by kernel_rfl) ?_ _
 refine S.ex fun S => ?_
 refine S.go 2 .nil fun ac w β S => ?_
 refine drw ?_
 refine S.draw0 (f := 8) 7 (by kernel_rfl) (by kernel_rfl) fun w S => ?_
 refine S.hq 0 [0] [] [(34, .v (pt (qh.2 0).mons.1.b ((qh.2 0).mons.1.off + m.toNat * 9)))] .nil fun ac S => ?_
 refine S.hq 1 [1] [] [(35, .v (pt (qh.2 0).mons.1.b ((qh.2 0).mons.1.off + m.toNat * 9)))] .nil fun ac S => ?_
 refine S.hq 2 [2] [] [(36, .v (pt (qh.2 0).mons.1.b ((qh.2 0).mons.1.off + m.toNat * 9)))] .nil fun ac S => ?_
 refine S.hq 3 [3] [] [(37, .v (slv (el X23 m.toNat).outer.length (((p18 0).mons.2) m.toNat).outer.1))] (.cons (qc (rd_hdr hq21 (cap_mons o22.rn)) 45 m.toNat 0 (slv (el X23 m.toNat).outer.length (((p18 0).mons.2) m.toNat).outer.1)) .nil) fun ac S => ?_
 refine S.hq 4 [4] [] [(38, .v (I page))] .nil fun ac S => ?_
 refine S.sq 5 [] [(39, .v (GT.val (⟨-1, 0⟩ : TSlot) ()))] 1 [] (.cons (Q_call fun w hw => c_impl_NoSlot w ) .nil) fun ac w β S => ?_
 refine S.hq 6 [6] [] [(40, .v (pt (((p18 0).mons.2) m.toNat).outer.1.b ((((p18 0).mons.2) m.toNat).outer.1.off + page.toNat * 2)))] (.cons (qt (RMon.outer (d := (el X23 m.toNat)) (LRd.el (rd_hdr hq21 (cap_mons o22.rn)) m.toNat (by omega))) page Tryz.underlying45) .nil) fun ac S => ?_
 refine WD.one (i := 7) (by kernel_rfl) ?_
 obtain ⟨F27, o28, _, b30⟩ := foc_cap o22 (fun _ o => foc2_Mon_outer o (k := m.toNat) (show m.toNat < X23.length by omega))
 change Ow w0 F _ _ F27 (el X23 m.toNat).outer (((p18 0).mons.2) m.toNat).outer at o28
 have l31 := LRd.le o28.rn
 have n32 := o28.sub
 have e33 : RSlot (el (el X23 m.toNat).outer page.toNat) := (LRd.el o28.rn page.toNat (by omega))
 refine id (S.sF (α := TSlot) o28 (t := 44) (k := page.toNat) (j := 0) (off := (((p18 0).mons.2) m.toNat).outer.1.off + page.toNat * 2) (v := GT.val (⟨-1, 0⟩ : TSlot) ()) (y := (⟨-1, 0⟩ : TSlot)) (q := ()) (fun _ _ _ => ⟨NoB, (show RSlot ⟨-1, 0⟩ from ⟨⟨by decide, by decide⟩, ⟨by decide, by decide⟩⟩), fun _ h => False.elim h⟩) fun w N F35 q36 S up o34 d37 s38 n39 => ?_)
 refine WD.last (by kernel_rfl) ?_
 clear d37 o28
 obtain ⟨p40, o41, hq43⟩ := b30 _ _ _ _ _ NoB up o34 s38 (fun b _ h => False.elim h) List.length_set n39
 obtain ⟨X45, hX46⟩ : ∃ z, z = X23.set m.toNat { el X23 m.toNat with outer := ((el X23 m.toNat).outer.set page.toNat (⟨-1, 0⟩ : TSlot)) } := ⟨_, rfl⟩
 have o44 : Ow w0 F w N (Or (Or F F13) F35) [(⟨h.mem, X45, h.buf, h.iobuf⟩ : THost)] ((qh.1, p40) : LP THost) := by rw [hX46]; exact o41
 obtain ⟨l47, e48⟩ := setm_outer hX46 (show m.toNat < X23.length by omega) List.length_set
 change (p40 0).mons.1 = (p18 0).mons.1 at hq43
 clear up o34 n39 o41
 refine WD.done (by kernel_rfl) ?_ _
 refine S.ex fun S => ?_
 refine S.go 6 .nil fun ac w β S => S.KC (d := 45) o44 (c_impl_invalidate w (⟨h.mem, X45, h.buf, h.iobuf⟩ : THost) ((qh.1, p40) : LP THost) (Or (Or F F13) F35) (S.ownw o44) (fun b hb => (S.sep b (o44.sub b hb)).1) m page (el (el h.mons m.toNat).outer page.toNat) (LRd.el (RMon.outer (d := (el h.mons m.toNat)) (LRd.el (capx_mons oh.rn) m.toNat (by omega))) page.toNat (by omega)) (by (first | omega | (dsimp only; omega)))) fun ac w N p49 F50 S up o51 d53 hq52 => ?_
 change (p49 0).mons.1 = (p40 0).mons.1 at hq52
 clear up d53 o44
 obtain ⟨Y54, hY55⟩ : ∃ z, z = (f_inval (⟨h.mem, X45, h.buf, h.iobuf⟩ : THost) m page (el (el h.mons m.toNat).outer page.toNat)) := ⟨_, rfl⟩
 have o56 : Ow w0 F w N F50 [Y54] ((qh.1, p49) : LP THost) := by rw [hY55]; exact o51
 clear o51
 have l57 := inval_bd hY55 (by first | omega | (dsimp only; omega))
 try dsimp only at l57
 refine S.gr 1 .nil [] fun ac w β S => ?_
 exact retC_of S (show f_send h m page = Y54 by clear S; (first | (subst_vars; rfl) | (subst_vars; simp [f_send, f_setM, f_slotTo, f_inval, el_set_self, *]; done))) (show hdrH _ _ from (hq52.trans (hq43.trans hq21))) o56

theorem c_impl_sendFirst (w0 : World) (h : THost) (qh : LP THost) (F : Bl) (hh : GT.own KK F w0 [h] qh) (hF : ∀ b, F b → b < w0.heap.size) (pre0 : f_hostOk h = true) (pre1 : ¬ 0 < (f_freeIn h).length) : Calls Tryz.prog 175 [pt qh.1.b (qh.1.off + 0 * 4)].toArray w0 (RetC hdrH F qh w0 (packed []) (f_sendFirst h)) := by
 refine Calls.run F Tryz.func175 ?_
 intro ac β S
 have oh : Ow w0 F w0 (Lt w0.heap.size) F [h] qh := ⟨hh, hF, fun b hb => .inr hb⟩
 have hsp := sendFirst_pre (h := h) (by assumption) (by assumption)
 refine S.go 17 (.cons (Q_el oh.rn (t := 60) (k := 0) (Nat.succ_pos 0) rfl (by kernel_rfl) (by kernel_rfl)) (.cons (Q_call fun w hw => c_impl_OwnerOfPage w h (qh.2 0) (rd_of (show GT.rd KK _ _ h (qh.2 0) from LRd.el oh.rn 0 (Nat.succ_pos 0)) hw) 0) .nil)) fun ac w β S => S.KC (d := 14) oh (c_impl_send w h qh F (S.ownw oh) (fun b hb => (S.sep b (oh.sub b hb)).1) (f_ownerOfPage h 0).1 (f_ownerOfPage h 0).2 (by (first | omega | (dsimp only; omega)))) fun ac w N p1 F2 S up o3 d5 hq4 => ?_
 change (p1 0).mons.1 = (qh.2 0).mons.1 at hq4
 clear up d5 oh
 obtain ⟨Y6, hY7⟩ : ∃ z, z = (f_send h (f_ownerOfPage h 0).1 (f_ownerOfPage h 0).2) := ⟨_, rfl⟩
 have o8 : Ow w0 F w N F2 [Y6] ((qh.1, p1) : LP THost) := by rw [hY7]; exact o3
 clear o3
 refine S.gr 1 .nil [] fun ac w β S => ?_
 exact retC_of S (show f_sendFirst h = Y6 by clear S; (subst_vars; rfl)) (show hdrH _ _ from hq4) o8

theorem k0_impl_WithPage {p : Prop} (h : p := by clear S; (unfold f_withPage; (repeat' split) <;> first | rfl | (simp; done) | (exfalso; omega) | (exfalso; simp_all; done) | (exfalso; simp_all; omega))) : p := h
theorem c_impl_WithPage (w0 : World) (m : List (List Int)) (pm : LP (List Int)) (hm : RD w0 m pm) (page : Int) (cells : List Int) (pcells : LP Int) (hcells : RD w0 cells pcells) : Calls Tryz.prog 176 [slv m.length pm.1, I page, slv cells.length pcells.1].toArray w0 (Ret1 NoB w0 (f_withPage m page cells : List (List Int))) := by
 refine Calls.run NoB Tryz.func176 ?_
 intro ac β S
 have hlem : m.length ≤ 4194304 := LRd.le hm
 have hlecells : cells.length ≤ 4194304 := LRd.le hcells
 refine S.go 8 .nil fun ac w β S => S.K1 (r := m) (d := 9) (c_impl_copyMem w m pm (S.rd (S.arg hm))) fun ac w N q1 F2 S up o3 d4 => ?_
 clear up d4
 refine S.gb 11 (.cons (Q_call fun w hw => c_impl_has w page (m.length : Int) (by omega)) .nil) (f_within page 0 ((m.length : Int) - 1)) (fun ac w β h5 S => ?_) (fun ac w β h5 S => ?_)
 ·have g6 := within_t h5
  refine S.gb 5 (.cons (Q_call fun w hw => c_impl_PageOk w cells pcells (rd_of (S.arg hcells) hw)) .nil) (f_pageOk cells) (fun ac w β h7 S => ?_) (fun ac w β h7 S => ?_)
  ·refine S.go 5 .nil fun ac w β S => S.K1 (r := cells) (d := 21) (c_impl_copyInts w cells pcells (S.rd (S.arg hcells))) fun ac w N q8 F9 S up o10 d11 => ?_
   have d12 := Disj.w d11 o3.sub
   replace o3 := o3.up up
   clear up d11
   refine S.go 1 (.cons (qt o3.rn page Tryz.underlying24) .nil) fun ac w β S => S.SV (α := List Int) o3 (t := 26) (k := page.toNat) (off := q1.1.off + page.toNat * 1) o10 d12 fun w N F14 q15 S up o13 d16 s17 n18 => ?_
   clear up d16 o3 n18
   have l19 : (m.set page.toNat cells).length = m.length := List.length_set
   refine S.gr 9 .nil [slv m.length q1.1] fun ac w β S => ?_
   exact ret1_of S (show f_withPage m page cells = (m.set page.toNat cells) from k0_impl_WithPage) (by rw [show m.length = (m.set page.toNat cells).length from (by rw [List.length_set])]; rfl) o13
  refine S.gr 10 .nil [slv m.length q1.1] fun ac w β S => ?_
  exact ret1_of S (show f_withPage m page cells = m from k0_impl_WithPage) rfl o3
 have g20 := within_f h5
 refine S.gr 15 .nil [slv m.length q1.1] fun ac w β S => ?_
 exact ret1_of S (show f_withPage m page cells = m from k0_impl_WithPage) rfl o3

theorem c_impl_fetch (w0 : World) (h : THost) (qh : LP THost) (F : Bl) (hh : GT.own KK F w0 [h] qh) (hF : ∀ b, F b → b < w0.heap.size) (m : Int) (page : Int) (pre0 : f_hasPage h m page = true) : Calls Tryz.prog 128 [pt qh.1.b (qh.1.off + 0 * 4), I m, I page].toArray w0 (RetC hdrH F qh w0 (packed []) (f_fetch h m page)) := by
 refine Calls.run F Tryz.func128 ?_
 intro ac β S
 have oh : Ow w0 F w0 (Lt w0.heap.size) F [h] qh := ⟨hh, hF, fun b hb => .inr hb⟩
 have hp := hasPage_t (h := h) (m := m) (page := page) (by assumption)
 refine S.go 6 (.cons (Q_el oh.rn (t := 60) (k := 0) (Nat.succ_pos 0) rfl (by kernel_rfl) (by kernel_rfl)) .nil) fun ac w β S => S.K1 (r := f_freeIn h) (d := 12) (c_impl_FreeIn w h (qh.2 0) (S.rd (show GT.rd KK _ _ h (qh.2 0) from LRd.el oh.rn 0 (Nat.succ_pos 0)))) fun ac w N q1 F2 S up o3 d4 => ?_
 replace oh := oh.up up
 clear up d4
 refine S.go 4 .nil fun ac w β S => ?_
 refine cutC S (fun ac w => ∃ (J1 : THost) (q6 : Nat → PHost) (F7 : Bl) (u : _) (N : _) (β : _), (J1 = f_room h) ∧ (q6 0).mons.1 = (qh.2 0).mons.1 ∧ St Tryz.prog Tryz.f128.ntmps w0 F u N β ⟨[(0, .v (pt qh.1.b (qh.1.off + 0 * 4))), (1, .v (I m)), (2, .v (I page))], []⟩ ac w ∧ Ow w0 F u N F7 ([J1]) ((qh.1, q6) : LP THost)) ?_ ?_
 ·clear S; intro S
  refine S.gd 0 .nil (((f_freeIn h).length : Int) == 0) (fun ac w β h10 g11 S => ?_) (fun ac w β h10 g11 S => ?_)
  ·refine S.go 3 .nil fun ac w β S => S.KC (d := 16) oh (c_impl_sendFirst w h qh F (S.ownw oh) (fun b hb => (S.sep b (oh.sub b hb)).1) (by (first | assumption | exact hasPage_ok (by assumption) | omega | (dsimp only; omega))) (by (first | assumption | exact hasPage_ok (by assumption) | omega | (dsimp only; omega)))) fun ac w N p12 F13 S up o14 d16 hq15 => ?_
   change (p12 0).mons.1 = (qh.2 0).mons.1 at hq15
   clear up d16 oh
   obtain ⟨Y17, hY18⟩ : ∃ z, z = (f_sendFirst h) := ⟨_, rfl⟩
   have o19 : Ow w0 F w N F13 [Y17] ((qh.1, p12) : LP THost) := by rw [hY18]; exact o14
   clear o14
   have l20 := sendFirst_bd hY18 (hasPage_ok (by assumption)) (by omega) m.toNat
   try dsimp only at l20
   exact S.gn 1 .nil fun ac w β S => ⟨rfl, Y17, p12, F13, _, _, _, (by clear S; first | exact room_y (by assumption) (by omega) | exact room_n (by omega)), hq15, S.z, o19⟩
  exact S.gn 2 .nil fun ac w β S => ⟨rfl, h, qh.2, F, _, _, _, (by clear S; first | exact room_y (by assumption) (by omega) | exact room_n (by omega)), rfl, S.z, oh⟩
 clear S oh o3
 rintro ac w ⟨J1, q6, F7, u, N, β, hJ1, hq9, S, o8⟩
 have hr := room_bd2 hJ1 (by assumption)
 refine S.ex fun S => ?_
 refine S.go 17 (.cons (Q_cell o8.rn (t := 57) (k := 0) (j := 1) (v := slv J1.mons.length (q6 0).mons.1) (Nat.succ_pos 0) (by kernel_rfl) (by kernel_rfl)) (.cons (qt (capx_mons o8.rn) m Tryz.underlying57) (.cons (Q_el o8.rn (t := 60) (k := 0) (Nat.succ_pos 0) rfl (by kernel_rfl) (by kernel_rfl)) .nil))) fun ac w β S => S.K1 (r := f_freeIn J1) (d := 26) (c_impl_FreeIn w J1 (q6 0) (S.rd (show GT.rd KK _ _ J1 (q6 0) from LRd.el o8.rn 0 (Nat.succ_pos 0)))) fun ac w N q21 F22 S up o23 d24 => ?_
 replace o8 := o8.up up
 clear up d24
 have i26 : In64 (el (f_freeIn J1) 0) := (LRd.el o23.rn 0 (by omega))
 refine S.go 6 (.cons (qn o23.rn 0 Tryz.underlying26) (.cons (qx o23.rn 3 0) .nil)) fun ac w β S => ?_
 refine drw ?_
 refine S.draw0 (f := 17) 16 (by kernel_rfl) (by kernel_rfl) fun w S => ?_
 refine S.hq 0 [0] [] [(29, .v (pt qh.1.b (qh.1.off + 0 * 4)))] .nil fun ac S => ?_
 refine S.hq 1 [1] [] [(30, .v (pt qh.1.b (qh.1.off + 0 * 4)))] .nil fun ac S => ?_
 refine S.hq 2 [2] [] [(31, .v (pt qh.1.b (qh.1.off + 0 * 4)))] .nil fun ac S => ?_
 refine S.hq 3 [3] [] [(32, .v (pt qh.1.b (qh.1.off + 0 * 4)))] .nil fun ac S => ?_
 refine S.hq 4 [4] [] [(33, .v (slv J1.mem.length (q6 0).mem.1))] (.cons (Q_cell o8.rn (t := 24) (k := 0) (j := 0) (v := slv J1.mem.length (q6 0).mem.1) (Nat.succ_pos 0) (by kernel_rfl) (by kernel_rfl)) .nil) fun ac S => ?_
 refine S.hq 5 [5] [] [(34, .v (I (el (f_freeIn J1) 0)))] .nil fun ac S => ?_
 refine S.hq 6 [6] [] [(35, .v (pt (q6 0).mons.1.b ((q6 0).mons.1.off + m.toNat * 9)))] .nil fun ac S => ?_
 refine S.hq 7 [7] [] [(36, .v (pt (q6 0).mons.1.b ((q6 0).mons.1.off + m.toNat * 9)))] .nil fun ac S => ?_
 refine S.hq 8 [8] [] [(37, .v (pt (q6 0).mons.1.b ((q6 0).mons.1.off + m.toNat * 9 + 1)))] .nil fun ac S => ?_
 refine S.hq 9 [9] [] [(38, .v (slv (el J1.mons m.toNat).out.length ((q6 0).mons.2 m.toNat).out.1))] (.cons (qc (capx_mons o8.rn) 24 m.toNat 1 (slv (el J1.mons m.toNat).out.length ((q6 0).mons.2 m.toNat).out.1)) .nil) fun ac S => ?_
 refine S.hq 10 [10] [] [(39, .v (I page))] .nil fun ac S => ?_
 refine S.hq 11 [11] [] [(40, .v (pt ((q6 0).mons.2 m.toNat).out.1.b (((q6 0).mons.2 m.toNat).out.1.off + page.toNat * 1)))] (.cons (qt (RMon.out (d := (el J1.mons m.toNat)) (LRd.el (capx_mons o8.rn) m.toNat (by omega))) page Tryz.underlying24) .nil) fun ac S => ?_
 refine S.hq 12 [12] [] [(41, .v (slv (el (el J1.mons m.toNat).out page.toNat).length (((q6 0).mons.2 m.toNat).out.2 page.toNat).1))] (.cons (qx (RMon.out (d := (el J1.mons m.toNat)) (LRd.el (capx_mons o8.rn) m.toNat (by omega))) 26 page.toNat) .nil) fun ac S => ?_
 refine WD.one (i := 13) (by kernel_rfl) ?_
 refine id (S.k1 42 (c_impl_WithPage w J1.mem (q6 0).mem (S.rd (capx_mem o8.rn)) (el (f_freeIn J1) 0) (el (el J1.mons m.toNat).out page.toNat) (((q6 0).mons.2 m.toNat).out.2 page.toNat) (S.rd (LRd.el (RMon.out (d := (el J1.mons m.toNat)) (LRd.el (capx_mons o8.rn) m.toNat (by omega))) page.toNat (by omega)))) fun ac w N q27 F28 S up o29 d30 => ?_)
 refine WD.next S up (by kernel_rfl) ?_
 have d31 := Disj.w d30 o8.sub
 replace o8 := o8.up up
 clear up d30
 refine S.hq 14 [15, 14] [] [(43, .v (pt qh.1.b (qh.1.off + 0 * 4)))] .nil fun ac S => ?_
 refine S.hq 15 [15] [] [(44, .v (pt qh.1.b (qh.1.off + 0 * 4)))] .nil fun ac S => ?_
 refine WD.one (i := 16) (by kernel_rfl) ?_
 refine id (S.setElE (α := THost) o8 (t := 24) (v := slv (f_withPage J1.mem (el (f_freeIn J1) 0) (el (el J1.mons m.toNat).out page.toNat)).length q27.1) (k := 0) (j := 0) (off := qh.1.off + 0 * 4) (y := (⟨(f_withPage J1.mem (el (f_freeIn J1) 0) (el (el J1.mons m.toNat).out page.toNat)), J1.mons, J1.buf, J1.iobuf⟩ : THost)) (q := ({ (q6 0) with mem := q27 } : PHost)) (Fy := F28) (by kernel_rfl) (by kernel_rfl) (Nat.succ_pos 0) (by kernel_rfl) (by kernel_rfl) (Nat.le_of_ble_eq_true (by kernel_rfl)) (by kernel_rfl) (fun G g_ gF => ⟨_, owl_Host_mem g_ o29.own (fun b h h2 => d31 b (gF b h) h2), fun _ h => h⟩) d31 o29.sub o29.young fun w N F33 S up o32 d35 s36 n37 => ?_)
 refine WD.last (by kernel_rfl) ?_
 obtain ⟨q34, o38, hq39⟩ : ∃ q34 : Nat → PHost, Ow w0 F _ _ F33 [(⟨(f_withPage J1.mem (el (f_freeIn J1) 0) (el (el J1.mons m.toNat).out page.toNat)), J1.mons, J1.buf, J1.iobuf⟩ : THost)] ((qh.1, q34) : LP THost) ∧ (q34 0).mons.1 = (q6 0).mons.1 := ⟨_, o32, rfl⟩
 clear up d35 o8 o32 s36 n37
 refine WD.done (by kernel_rfl) ?_ _
 refine S.ex fun S => ?_
 refine S.go 8 (.cons (qc (rd_hdr hq39 (cap_mons o38.rn)) 24 m.toNat 1 (slv (el J1.mons m.toNat).out.length (((q34 0).mons.2) m.toNat).out.1)) .nil) fun ac w β S => S.B0 (α := Int) (d := 50) fun ac w N q40 F41 S up o42 d43 => ?_
 have d44 := Disj.w d43 o38.sub
 replace o38 := o38.up up
 clear up d43
 obtain ⟨F45, o46, s47, b48⟩ := foc_cap o38 (fun _ o => foc2_Mon_out o (k := m.toNat) (show m.toNat < J1.mons.length by omega))
 change Ow w0 F _ _ F45 (el J1.mons m.toNat).out (((q34 0).mons.2) m.toNat).out at o46
 have l49 := LRd.le o46.rn
 have n50 := o46.sub
 refine S.go 1 (.cons (qt (RMon.out (d := (el J1.mons m.toNat)) (LRd.el (rd_hdr hq39 (cap_mons o38.rn)) m.toNat (by omega))) page Tryz.underlying24) .nil) fun ac w β S => S.SV (α := List Int) o46 (t := 26) (k := page.toNat) (off := (((q34 0).mons.2) m.toNat).out.1.off + page.toNat * 1) o42 (Disj.symm (Disj.symm (Disj.part d44 s47))) fun w N F52 q53 S up o51 d54 s55 n56 => ?_
 clear d54 o46
 obtain ⟨p57, o58, hq60⟩ := b48 _ _ _ _ _ F41 up o51 s55 d44 List.length_set n56
 obtain ⟨X62, hX63⟩ : ∃ z, z = J1.mons.set m.toNat { el J1.mons m.toNat with out := ((el J1.mons m.toNat).out.set page.toNat ([] : List Int)) } := ⟨_, rfl⟩
 have o61 : Ow w0 F w N (Or F33 F52) [(⟨(f_withPage J1.mem (el (f_freeIn J1) 0) (el (el J1.mons m.toNat).out page.toNat)), X62, J1.buf, J1.iobuf⟩ : THost)] ((qh.1, p57) : LP THost) := by rw [hX63]; exact o58
 obtain ⟨l64, e65⟩ := setm_out hX63 (show m.toNat < J1.mons.length by omega) List.length_set
 change (p57 0).mons.1 = (q34 0).mons.1 at hq60
 clear up o51 n56 o58
 obtain ⟨F66, o67, _, b69⟩ := foc_cap o61 (fun _ o => foc2_Mon_outer o (k := m.toNat) (show m.toNat < X62.length by omega))
 change Ow w0 F _ _ F66 (el X62 m.toNat).outer (((p57 0).mons.2) m.toNat).outer at o67
 have l70 := LRd.le o67.rn
 have n71 := o67.sub
 have e72 : RSlot (el (el X62 m.toNat).outer page.toNat) := (LRd.el o67.rn page.toNat (by omega))
 refine S.go 25 (.cons (qc (rd_hdr (hq60.trans hq39) (cap_mons o61.rn)) 45 m.toNat 0 (slv (el X62 m.toNat).outer.length (((p57 0).mons.2) m.toNat).outer.1)) (.cons (qt (RMon.outer (d := (el X62 m.toNat)) (LRd.el (rd_hdr (hq60.trans hq39) (cap_mons o61.rn)) m.toNat (by omega))) page Tryz.underlying45) (.cons (qs (RMon.outer (d := (el X62 m.toNat)) (LRd.el (rd_hdr (hq60.trans hq39) (cap_mons o61.rn)) m.toNat (by omega))) 44 page.toNat) (.cons (qc (rd_hdr (hq60.trans hq39) (cap_mons o61.rn)) 45 m.toNat 0 (slv (el X62 m.toNat).outer.length (((p57 0).mons.2) m.toNat).outer.1)) (.cons (Q_sem (s := Instr.build 44 [(0, I (el (f_freeIn J1) 0)), (1, I 3)].toArray) (v := .agg [I (el (f_freeIn J1) 0), I 3].toArray) (fun w => by kernel_rfl)) (.cons (qt (RMon.outer (d := (el X62 m.toNat)) (LRd.el (rd_hdr (hq60.trans hq39) (cap_mons o61.rn)) m.toNat (by omega))) page Tryz.underlying45) .nil)))))) fun ac w β S => S.SF (α := TSlot) o67 (t := 44) (k := page.toNat) (j := 0) (off := (((p57 0).mons.2) m.toNat).outer.1.off + page.toNat * 2) (v := GT.val (⟨(el (f_freeIn J1) 0), 3⟩ : TSlot) ()) (y := (⟨(el (f_freeIn J1) 0), 3⟩ : TSlot)) (q := ()) (fun _ _ _ => ⟨NoB, (show RSlot (⟨(el (f_freeIn J1) 0), 3⟩ : TSlot) from ⟨i26, (show In64 3 from ⟨by decide, by decide⟩)⟩), fun _ h => False.elim h⟩) fun w N F74 q75 S up o73 d76 s77 n78 => ?_
 clear d76 o67
 obtain ⟨p79, o80, hq82⟩ := b69 _ _ _ _ _ NoB up o73 s77 (fun b _ h => False.elim h) List.length_set n78
 obtain ⟨X84, hX85⟩ : ∃ z, z = X62.set m.toNat { el X62 m.toNat with outer := ((el X62 m.toNat).outer.set page.toNat (⟨(el (f_freeIn J1) 0), 3⟩ : TSlot)) } := ⟨_, rfl⟩
 have o83 : Ow w0 F w N (Or (Or F33 F52) F74) [(⟨(f_withPage J1.mem (el (f_freeIn J1) 0) (el (el J1.mons m.toNat).out page.toNat)), X84, J1.buf, J1.iobuf⟩ : THost)] ((qh.1, p79) : LP THost) := by rw [hX85]; exact o80
 obtain ⟨l86, e87⟩ := setm_outer hX85 (show m.toNat < X62.length by omega) List.length_set
 change (p79 0).mons.1 = (p57 0).mons.1 at hq82
 clear up o73 n78 o80
 refine S.go 7 .nil fun ac w β S => S.KC (d := 71) o83 (c_impl_invalidate w (⟨(f_withPage J1.mem (el (f_freeIn J1) 0) (el (el J1.mons m.toNat).out page.toNat)), X84, J1.buf, J1.iobuf⟩ : THost) ((qh.1, p79) : LP THost) (Or (Or F33 F52) F74) (S.ownw o83) (fun b hb => (S.sep b (o83.sub b hb)).1) m page (el (el X62 m.toNat).outer page.toNat) (LRd.el (RMon.outer (d := (el X62 m.toNat)) (LRd.el (rd_hdr (hq60.trans hq39) (cap_mons o61.rn)) m.toNat (by omega))) page.toNat (by omega)) (by (first | omega | (dsimp only; omega)))) fun ac w N p88 F89 S up o90 d92 hq91 => ?_
 change (p88 0).mons.1 = (p79 0).mons.1 at hq91
 clear up d92 o83
 obtain ⟨Y93, hY94⟩ : ∃ z, z = (f_inval (⟨(f_withPage J1.mem (el (f_freeIn J1) 0) (el (el J1.mons m.toNat).out page.toNat)), X84, J1.buf, J1.iobuf⟩ : THost) m page (el (el X62 m.toNat).outer page.toNat)) := ⟨_, rfl⟩
 have o95 : Ow w0 F w N F89 [Y93] ((qh.1, p88) : LP THost) := by rw [hY94]; exact o90
 clear o90
 have l96 := inval_bd hY94 (by first | omega | (dsimp only; omega))
 try dsimp only at l96
 refine S.gr 1 .nil [] fun ac w β S => ?_
 exact retC_of S (show f_fetch h m page = Y93 by clear S; (unfold f_fetch; first | (subst_vars; rfl) | (subst_vars; simp [f_putIn, f_setM, f_slotTo, f_inval, el_set_self, *]; done))) (show hdrH _ _ from (hq91.trans (hq82.trans (hq60.trans (hq39.trans hq9))))) o95

theorem k0_impl_mend {p : Prop} (h : p := by clear S; (first | (rw [mend_n (by assumption) hJ1.symm (by assumption)]; done) | (rw [mend_w (by assumption) hJ1.symm (by assumption) (by assumption) (by assumption)]; done) | (exact mend_i (by assumption) hJ1.symm (by assumption) (by assumption) (by assumption) (by assumption) rfl (by assumption)))) : p := h
theorem c_impl_mend (w0 : World) (h : THost) (qh : LP THost) (F : Bl) (hh : GT.own KK F w0 [h] qh) (hF : ∀ b, F b → b < w0.heap.size) (m : Int) (page : Int) (need : Int) (pre0 : f_hasPage h m page = true) : Calls Tryz.prog 68 [pt qh.1.b (qh.1.off + 0 * 4), I m, I page, I need].toArray w0 (RetC hdrH F qh w0 (packed []) (f_mend h m page need)) := by
 refine Calls.run F Tryz.func68 ?_
 intro ac β S
 have oh : Ow w0 F w0 (Lt w0.heap.size) F [h] qh := ⟨hh, hF, fun b hb => .inr hb⟩
 have hp := hasPage_t (h := h) (m := m) (page := page) (by assumption)
 refine S.go 18 (.cons (Q_cell oh.rn (t := 57) (k := 0) (j := 1) (v := slv h.mons.length (qh.2 0).mons.1) (Nat.succ_pos 0) (by kernel_rfl) (by kernel_rfl)) (.cons (qt (capx_mons oh.rn) m Tryz.underlying57) (.cons (qc (capx_mons oh.rn) 45 m.toNat 0 (slv (el h.mons m.toNat).outer.length ((qh.2 0).mons.2 m.toNat).outer.1)) (.cons (qt (RMon.outer (d := (el h.mons m.toNat)) (LRd.el (capx_mons oh.rn) m.toNat (by omega))) page Tryz.underlying45) (.cons (qc (RMon.outer (d := (el h.mons m.toNat)) (LRd.el (capx_mons oh.rn) m.toNat (by omega))) 3 page.toNat 0 (I (el (el h.mons m.toNat).outer page.toNat).page)) .nil))))) fun ac w β S => ?_
 refine cutC S (fun ac w => ∃ (J1 : THost) (q2 : Nat → PHost) (F3 : Bl) (u : _) (N : _) (β : _), (J1 = f_mid h m page) ∧ (q2 0).mons.1 = (qh.2 0).mons.1 ∧ St Tryz.prog Tryz.f68.ntmps w0 F u N β ⟨[(0, .v (pt qh.1.b (qh.1.off + 0 * 4))), (1, .v (I m)), (2, .v (I page)), (3, .v (I need))], []⟩ ac w ∧ Ow w0 F u N F3 ([J1]) ((qh.1, q2) : LP THost)) ?_ ?_
 ·clear S; intro S
  refine S.gd 0 .nil ((el (el h.mons m.toNat).outer page.toNat).page == (-1)) (fun ac w β h6 g7 S => ?_) (fun ac w β h6 g7 S => ?_)
  ·refine S.go 5 .nil fun ac w β S => S.KC (d := 26) oh (c_impl_fetch w h qh F (S.ownw oh) (fun b hb => (S.sep b (oh.sub b hb)).1) m page (by (first | assumption | exact hasPage_ok (by assumption) | omega | (dsimp only; omega)))) fun ac w N p8 F9 S up o10 d12 hq11 => ?_
   change (p8 0).mons.1 = (qh.2 0).mons.1 at hq11
   clear up d12 oh
   obtain ⟨Y13, hY14⟩ : ∃ z, z = (f_fetch h m page) := ⟨_, rfl⟩
   have o15 : Ow w0 F w N F9 [Y13] ((qh.1, p8) : LP THost) := by rw [hY14]; exact o10
   clear o10
   have l16 := fetch_bd hY14 (by assumption)
   try dsimp only at l16
   exact S.gn 1 .nil fun ac w β S => ⟨rfl, Y13, p8, F9, _, _, _, (by clear S; first | exact (mid_out (by assumption) (by assumption)).symm | exact (mid_in (by assumption)).symm | exact mid_outY (by assumption) (of_decide_eq_true (by assumption)) | exact (mid_inS (by assumption) (of_decide_eq_false (by assumption))).symm | exact mid_outY (by assumption) (by assumption) | exact (mid_inS (by assumption) (by assumption)).symm), hq11, S.z, o15⟩
  exact S.gn 2 .nil fun ac w β S => ⟨rfl, h, qh.2, F, _, _, _, (by clear S; first | exact (mid_out (by assumption) (by assumption)).symm | exact (mid_in (by assumption)).symm | exact mid_outY (by assumption) (of_decide_eq_true (by assumption)) | exact (mid_inS (by assumption) (of_decide_eq_false (by assumption))).symm | exact mid_outY (by assumption) (by assumption) | exact (mid_inS (by assumption) (by assumption)).symm), rfl, S.z, oh⟩
 clear S oh
 rintro ac w ⟨J1, q2, F3, u, N, β, hJ1, hq5, S, o4⟩
 have hr := mid_bd hJ1 (by assumption)
 refine S.ex fun S => ?_
 refine S.gb 9 (.cons (Q_call fun w hw => c_impl_Enough w need 2) .nil) (!(f_enough need 2)) (fun ac w β h17 S => ?_) (fun ac w β h17 S => ?_)
 ·have h18 := not_t h17
  refine S.gr 2 .nil [] fun ac w β S => ?_
  exact retC_of S (show f_mend h m page need = J1 from k0_impl_mend) (show hdrH _ _ from hq5) o4
 have h19 := not_f h17
 have g20 := enough_t h19
 obtain ⟨F21, o22, _, b24⟩ := foc_cap o4 (fun _ o => foc2_Mon_dirty o (k := m.toNat) (show m.toNat < J1.mons.length by omega))
 change Ow w0 F _ _ F21 (el J1.mons m.toNat).dirty ((q2 0).mons.2 m.toNat).dirty at o22
 have l25 := LRd.le o22.rn
 have n26 := o22.sub
 refine S.go 22 (.cons (Q_cell o4.rn (t := 57) (k := 0) (j := 1) (v := slv J1.mons.length (q2 0).mons.1) (Nat.succ_pos 0) (by kernel_rfl) (by kernel_rfl)) (.cons (qt (capx_mons o4.rn) m Tryz.underlying57) (.cons (qc (capx_mons o4.rn) 66 m.toNat 2 (slv (el J1.mons m.toNat).dirty.length ((q2 0).mons.2 m.toNat).dirty.1)) (.cons (qt (RMon.dirty (d := (el J1.mons m.toNat)) (LRd.el (capx_mons o4.rn) m.toNat (by omega))) page Tryz.underlying66) .nil)))) fun ac w β S => S.SF (α := Bool) o22 (t := 4) (k := page.toNat) (j := 0) (off := ((q2 0).mons.2 m.toNat).dirty.1.off + page.toNat * 1) (v := B true) (y := true) (q := ()) (fun _ _ _ => ⟨NoB, trivial, fun _ h => False.elim h⟩) fun w N F28 q29 S up o27 d30 s31 n32 => ?_
 clear d30 o22
 obtain ⟨p33, o34, hq36⟩ := b24 _ _ _ _ _ NoB up o27 s31 (fun b _ h => False.elim h) List.length_set n32
 obtain ⟨X38, hX39⟩ : ∃ z, z = J1.mons.set m.toNat { el J1.mons m.toNat with dirty := ((el J1.mons m.toNat).dirty.set page.toNat true) } := ⟨_, rfl⟩
 have o37 : Ow w0 F w N (Or F3 F28) [(⟨J1.mem, X38, J1.buf, J1.iobuf⟩ : THost)] ((qh.1, p33) : LP THost) := by rw [hX39]; exact o34
 obtain ⟨l40, e41⟩ := setm_dirty hX39 (show m.toNat < J1.mons.length by omega) List.length_set
 change (p33 0).mons.1 = (q2 0).mons.1 at hq36
 clear up o27 n32 o34
 refine S.gb 23 (.cons (qc (rd_hdr hq36 (cap_mons o37.rn)) 45 m.toNat 0 (slv (el X38 m.toNat).outer.length (((p33 0).mons.2) m.toNat).outer.1)) (.cons (qt (RMon.outer (d := (el X38 m.toNat)) (LRd.el (rd_hdr hq36 (cap_mons o37.rn)) m.toNat (by omega))) page Tryz.underlying45) (.cons (qs (RMon.outer (d := (el X38 m.toNat)) (LRd.el (rd_hdr hq36 (cap_mons o37.rn)) m.toNat (by omega))) 44 page.toNat) (.cons (Q_call fun w hw => c_impl_Enough w (el (el X38 m.toNat).outer page.toNat).rights 2) .nil)))) (!(f_enough (el (el X38 m.toNat).outer page.toNat).rights 2)) (fun ac w β h42 S => ?_) (fun ac w β h42 S => ?_)
 ·have h43 := not_t h42
  obtain ⟨F44, o45, _, b47⟩ := foc_cap o37 (fun _ o => foc2_Mon_outer o (k := m.toNat) (show m.toNat < X38.length by omega))
  change Ow w0 F _ _ F44 (el X38 m.toNat).outer (((p33 0).mons.2) m.toNat).outer at o45
  have l48 := LRd.le o45.rn
  have n49 := o45.sub
  have e50 : RSlot (el (el X38 m.toNat).outer page.toNat) := (LRd.el o45.rn page.toNat (by omega))
  refine S.go 10 (.cons (qc (rd_hdr hq36 (cap_mons o37.rn)) 45 m.toNat 0 (slv (el X38 m.toNat).outer.length (((p33 0).mons.2) m.toNat).outer.1)) (.cons (qt (RMon.outer (d := (el X38 m.toNat)) (LRd.el (rd_hdr hq36 (cap_mons o37.rn)) m.toNat (by omega))) page Tryz.underlying45) .nil)) fun ac w β S => S.SF (α := TSlot) o45 (t := 3) (k := page.toNat) (j := 1) (off := (((p33 0).mons.2) m.toNat).outer.1.off + page.toNat * 2 + 1) (v := I 3) (y := (⟨(el (el X38 m.toNat).outer page.toNat).page, 3⟩ : TSlot)) (q := ()) (fun _ _ _ => ⟨NoB, (show RSlot (⟨(el (el X38 m.toNat).outer page.toNat).page, 3⟩ : TSlot) from ⟨(RSlot.page (d := (el (el X38 m.toNat).outer page.toNat)) e50), (show In64 3 from ⟨by decide, by decide⟩)⟩), fun _ h => False.elim h⟩) fun w N F52 q53 S up o51 d54 s55 n56 => ?_
  clear d54 o45
  obtain ⟨p57, o58, hq60⟩ := b47 _ _ _ _ _ NoB up o51 s55 (fun b _ h => False.elim h) List.length_set n56
  obtain ⟨X62, hX63⟩ : ∃ z, z = X38.set m.toNat { el X38 m.toNat with outer := ((el X38 m.toNat).outer.set page.toNat (⟨(el (el X38 m.toNat).outer page.toNat).page, 3⟩ : TSlot)) } := ⟨_, rfl⟩
  have o61 : Ow w0 F w N (Or (Or F3 F28) F52) [(⟨J1.mem, X62, J1.buf, J1.iobuf⟩ : THost)] ((qh.1, p57) : LP THost) := by rw [hX63]; exact o58
  obtain ⟨l64, e65⟩ := setm_outer hX63 (show m.toNat < X38.length by omega) List.length_set
  change (p57 0).mons.1 = (p33 0).mons.1 at hq60
  clear up o51 n56 o58
  refine S.go 7 .nil fun ac w β S => S.KC (d := 64) o61 (c_impl_invalidate w (⟨J1.mem, X62, J1.buf, J1.iobuf⟩ : THost) ((qh.1, p57) : LP THost) (Or (Or F3 F28) F52) (S.ownw o61) (fun b hb => (S.sep b (o61.sub b hb)).1) m page (el (el X38 m.toNat).outer page.toNat) (LRd.el (RMon.outer (d := (el X38 m.toNat)) (LRd.el (rd_hdr hq36 (cap_mons o37.rn)) m.toNat (by omega))) page.toNat (by omega)) (by (first | omega | (dsimp only; omega)))) fun ac w N p66 F67 S up o68 d70 hq69 => ?_
  change (p66 0).mons.1 = (p57 0).mons.1 at hq69
  clear up d70 o61
  obtain ⟨Y71, hY72⟩ : ∃ z, z = (f_inval (⟨J1.mem, X62, J1.buf, J1.iobuf⟩ : THost) m page (el (el X38 m.toNat).outer page.toNat)) := ⟨_, rfl⟩
  have o73 : Ow w0 F w N F67 [Y71] ((qh.1, p66) : LP THost) := by rw [hY72]; exact o68
  clear o68
  have l74 := inval_bd hY72 (by first | omega | (dsimp only; omega))
  try dsimp only at l74
  refine S.gr 1 .nil [] fun ac w β S => ?_
  exact retC_of S (show f_mend h m page need = Y71 from k0_impl_mend) (show hdrH _ _ from (hq69.trans (hq60.trans (hq36.trans hq5)))) o73
 have h75 := not_f h42
 have g76 := enough_t h75
 refine S.gr 2 .nil [] fun ac w β S => ?_
 exact retC_of S (show f_mend h m page need = (⟨J1.mem, X38, J1.buf, J1.iobuf⟩ : THost) from k0_impl_mend) (show hdrH _ _ from (hq36.trans hq5)) o37

theorem k0_impl_BothRights {p : Prop} (h : p := by clear S; (unfold f_bothRights; (repeat' split) <;> first | rfl | (exfalso; omega) | (exfalso; simp_all; done) | (exfalso; simp_all; omega) | (simp_all; done))) : p := h
theorem c_impl_BothRights (w0 : World) (a : Int) (b : Int) : Calls Tryz.prog 221 [I a, I b].toArray w0 (fun e w' => e = .returned (I (f_bothRights a b)) ∧ Chg NoB w0 w') := by
 refine Calls.run NoB Tryz.func221 ?_
 intro ac β S
 refine S.gb 12 (.cons (Q_call fun w hw => c_impl_RightsOk w a) .nil) (!(f_within a 0 3)) (fun ac w β h1 S => ?_) (fun ac w β h1 S => ?_)
 ·have h2 := not_t h1
  have g3 := within_f h2
  exact S.gf 13 .nil [I 0] (retI k0_impl_BothRights)
 have h4 := not_f h1
 have g5 := within_t h4
 refine S.gb 6 (.cons (Q_call fun w hw => c_impl_RightsOk w b) .nil) (!(f_within b 0 3)) (fun ac w β h6 S => ?_) (fun ac w β h6 S => ?_)
 ·have h7 := not_t h6
  have g8 := within_f h7
  exact S.gf 7 .nil [I 0] (retI k0_impl_BothRights)
 have h9 := not_f h6
 have g10 := within_t h9
 exact S.gf 12 (.cons (Q_land64 (x := a) (y := b)) .nil) [I (land64 a b)] (retI k0_impl_BothRights)

theorem k0_impl_ComposeSlot {p : Prop} (h : p := by clear S; (unfold f_composeSlot; (repeat' split) <;> first | rfl | (exfalso; omega) | (exfalso; simp_all; done) | (exfalso; simp_all; omega) | (simp_all; done))) : p := h
theorem c_impl_ComposeSlot (w0 : World) (inner : TSlot) (outer : List TSlot) (pouter : LP TSlot) (houter : RD w0 outer pouter) : Calls Tryz.prog 211 [GT.val inner (), slv outer.length pouter.1].toArray w0 (fun e w' => e = .returned (GT.val (f_composeSlot inner outer) ()) ∧ Chg NoB w0 w') := by
 refine Calls.run NoB Tryz.func211 ?_
 intro ac β S
 have hleouter : outer.length ≤ 4194304 := LRd.le houter
 refine S.gd 33 (.cons (Q_call fun w hw => c_impl_SlotAt w outer pouter (rd_of (S.arg houter) hw) inner.page) (.cons (Q_call fun w hw => c_impl_BothRights w inner.rights (f_slotAt outer inner.page).rights) .nil)) (inner.page == (-1)) (fun ac w β h1 g2 S => ?_) (fun ac w β h1 g2 S => ?_)
 ·exact S.gf 18 (.cons (Q_call fun w hw => c_impl_NoSlot w ) .nil) [GT.val (⟨-1, 0⟩ : TSlot) ()] (retV (p := ()) k0_impl_ComposeSlot)
 refine S.gd 5 .nil ((f_slotAt outer inner.page).page == (-1)) (fun ac w β h3 g4 S => ?_) (fun ac w β h3 g4 S => ?_)
 ·exact S.gf 13 (.cons (Q_call fun w hw => c_impl_NoSlot w ) .nil) [GT.val (⟨-1, 0⟩ : TSlot) ()] (retV (p := ()) k0_impl_ComposeSlot)
 refine S.gd 5 .nil ((f_bothRights inner.rights (f_slotAt outer inner.page).rights) == 0) (fun ac w β h5 g6 S => ?_) (fun ac w β h5 g6 S => ?_)
 ·exact S.gf 8 (.cons (Q_call fun w hw => c_impl_NoSlot w ) .nil) [GT.val (⟨-1, 0⟩ : TSlot) ()] (retV (p := ()) k0_impl_ComposeSlot)
 exact S.gf 13 (.cons (Q_sem (s := Instr.build 44 [(0, I (f_slotAt outer inner.page).page), (1, I (f_bothRights inner.rights (f_slotAt outer inner.page).rights))].toArray) (v := .agg [I (f_slotAt outer inner.page).page, I (f_bothRights inner.rights (f_slotAt outer inner.page).rights)].toArray) (fun w => by kernel_rfl)) .nil) [GT.val (⟨(f_slotAt outer inner.page).page, (f_bothRights inner.rights (f_slotAt outer inner.page).rights)⟩ : TSlot) ()] (retV (p := ()) k0_impl_ComposeSlot)

theorem k0_impl_Fill {p : Prop} (h : p := by clear S; (unfold f_fill; (repeat' split) <;> first | rfl | (exfalso; omega) | (exfalso; simp_all; done) | (exfalso; simp_all; omega) | (simp_all; done))) : p := h
theorem c_impl_Fill (w0 : World) (k : TKept) (pk : PKept) (hk : RD w0 k pk) (inner : List TSlot) (pinner : LP TSlot) (hinner : RD w0 inner pinner) (outer : List TSlot) (pouter : LP TSlot) (houter : RD w0 outer pouter) (page : Int) : Calls Tryz.prog 187 [GT.val k pk, slv inner.length pinner.1, slv outer.length pouter.1, I page].toArray w0 (Ret1 NoB w0 (f_fill k inner outer page : TKept)) := by
 refine Calls.run NoB Tryz.func187 ?_
 intro ac β S
 have hlek_known : k.known.length ≤ 4194304 := LRd.le (RKept.known (d := k) hk)
 have hlek_slots : k.slots.length ≤ 4194304 := LRd.le (RKept.slots (d := k) hk)
 have hleinner : inner.length ≤ 4194304 := LRd.le hinner
 have hleouter : outer.length ≤ 4194304 := LRd.le houter
 refine S.go 9 .nil fun ac w β S => S.K1 (r := k) (d := 11) (c_impl_copyKept w k pk (S.rd (S.arg hk))) fun ac w N q1 F2 S up o3 d4 => ?_
 clear up d4
 obtain ⟨F5, F8, o6, o9, _, _, d11⟩ := sp_Kept o3
 refine S.gb 13 (.cons (Q_call fun w hw => c_impl_has w page (k.known.length : Int) (by omega)) .nil) (f_within page 0 ((k.known.length : Int) - 1)) (fun ac w β h12 S => ?_) (fun ac w β h12 S => ?_)
 ·have g13 := within_t h12
  refine S.gb 7 (.cons (Q_call fun w hw => c_impl_has w page (k.slots.length : Int) (by omega)) .nil) (f_within page 0 ((k.slots.length : Int) - 1)) (fun ac w β h14 S => ?_) (fun ac w β h14 S => ?_)
  ·have g15 := within_t h14
   refine S.gb 7 (.cons (Q_call fun w hw => c_impl_has w page (inner.length : Int) (by omega)) .nil) (f_within page 0 ((inner.length : Int) - 1)) (fun ac w β h16 S => ?_) (fun ac w β h16 S => ?_)
   ·have g17 := within_t h16
    refine S.go 7 (.cons (qt o6.rn page Tryz.underlying66) .nil) fun ac w β S => S.SF (α := Bool) o6 (t := 4) (k := page.toNat) (j := 0) (off := q1.known.1.off + page.toNat * 1) (v := B true) (y := true) (q := ()) (fun _ _ _ => ⟨NoB, trivial, fun _ h => False.elim h⟩) fun w N F19 q20 S up o18 d21 s22 n23 => ?_
    have d24 := d21 _ (Disj.symm d11) (fun b _ h => False.elim h) o9.sub
    replace o9 := o9.upF (Disj.symm d11) up
    clear up d21 o6 n23
    have l25 : (k.known.set page.toNat true).length = k.known.length := List.length_set
    replace S := S.z (σ' := ⟨[(1, .v (slv inner.length pinner.1)), (2, .v (slv outer.length pouter.1)), (3, .v (I page)), (8, .p 1 0), (9, .p 2 0), (33, .v (pt q1.known.1.b (q1.known.1.off + page.toNat * 1)))], [GT.cells k pk, Zc TKept, [slv k.known.length q1.known.1, slv k.slots.length q1.slots.1]]⟩)
    replace S := S.cast (σ' := ⟨[(1, .v (slv inner.length pinner.1)), (2, .v (slv outer.length pouter.1)), (3, .v (I page)), (8, .p 1 0), (9, .p 2 0), (33, .v (pt q1.known.1.b (q1.known.1.off + page.toNat * 1)))], [GT.cells k pk, Zc TKept, [slv (k.known.set page.toNat true).length q1.known.1, slv k.slots.length q1.slots.1]]⟩) (by rw [show (k.known.set page.toNat true).length = k.known.length by omega])
    refine S.is fun S => ?_
    refine S.go 2 .nil fun ac w β S => ?_
    refine drw ?_
    refine S.draw0 (f := 11) 10 (by kernel_rfl) (by kernel_rfl) fun w S => ?_
    refine S.hq 0 [0] [] [(34, .p 2 1)] .nil fun ac S => ?_
    refine S.hq 1 [1] [] [(35, .v (slv k.slots.length q1.slots.1))] .nil fun ac S => ?_
    refine S.hq 2 [2] [] [(36, .v (I page))] .nil fun ac S => ?_
    refine S.hq 3 [3] [] [(37, .v (slv inner.length pinner.1))] .nil fun ac S => ?_
    refine S.hq 4 [4] [] [(38, .v (I page))] .nil fun ac S => ?_
    refine S.hq 5 [5] [] [(39, .v (pt pinner.1.b (pinner.1.off + page.toNat * 2)))] (.cons (qt (S.arg hinner) page Tryz.underlying45) .nil) fun ac S => ?_
    refine S.hq 6 [6] [] [(40, .v (GT.val (el inner page.toNat) ()))] (.cons (qs (S.arg hinner) 44 page.toNat) .nil) fun ac S => ?_
    refine S.hq 7 [7] [] [(41, .v (slv outer.length pouter.1))] .nil fun ac S => ?_
    refine S.sq 8 [] [(42, .v (GT.val (f_composeSlot (el inner page.toNat) outer) ()))] 3 [] (.cons (Q_call fun w hw => c_impl_ComposeSlot w (el inner page.toNat) outer pouter (rd_of (S.arg houter) hw)) .nil) fun ac w β S => ?_
    refine S.hq 9 [9] [] [(43, .v (pt q1.slots.1.b (q1.slots.1.off + page.toNat * 2)))] (.cons (qt o9.rn page Tryz.underlying45) .nil) fun ac S => ?_
    refine WD.one (i := 10) (by kernel_rfl) ?_
    have e26 : RSlot (el k.slots page.toNat) := (LRd.el o9.rn page.toNat (by omega))
    refine id (S.sF (α := TSlot) o9 (t := 44) (k := page.toNat) (j := 0) (off := q1.slots.1.off + page.toNat * 2) (v := GT.val (f_composeSlot (el inner page.toNat) outer) ()) (y := (f_composeSlot (el inner page.toNat) outer)) (q := ()) (fun _ _ _ => ⟨NoB, (compose_r (S.arg houter) (el inner page.toNat)), fun _ h => False.elim h⟩) fun w N F28 q29 S up o27 d30 s31 n32 => ?_)
    refine WD.last (by kernel_rfl) ?_
    have d33 := d30 _ (Disj.symm d24) (fun b _ h => False.elim h) o18.sub
    replace o18 := o18.upF (Disj.symm d24) up
    clear up d30 o9 n32
    have l34 : (k.slots.set page.toNat (f_composeSlot (el inner page.toNat) outer)).length = k.slots.length := List.length_set
    replace S := S.z (σ' := ⟨[(8, .p 1 0), (9, .p 2 0), (42, .v (GT.val (f_composeSlot (el inner page.toNat) outer) ())), (43, .v (pt q1.slots.1.b (q1.slots.1.off + page.toNat * 2)))], [GT.cells k pk, Zc TKept, [slv (k.known.set page.toNat true).length q1.known.1, slv k.slots.length q1.slots.1]]⟩)
    replace S := S.cast (σ' := ⟨[(8, .p 1 0), (9, .p 2 0), (42, .v (GT.val (f_composeSlot (el inner page.toNat) outer) ())), (43, .v (pt q1.slots.1.b (q1.slots.1.off + page.toNat * 2)))], [GT.cells k pk, Zc TKept, [slv (k.known.set page.toNat true).length q1.known.1, slv (k.slots.set page.toNat (f_composeSlot (el inner page.toNat) outer)).length q1.slots.1]]⟩) (by rw [show (k.slots.set page.toNat (f_composeSlot (el inner page.toNat) outer)).length = k.slots.length by omega])
    refine WD.done (by kernel_rfl) ?_ _
    refine S.ex fun S => ?_
    refine S.gr 8 .nil [GT.val (⟨(k.known.set page.toNat true), (k.slots.set page.toNat (f_composeSlot (el inner page.toNat) outer))⟩ : TKept) (⟨(q1.known.1, q20), (q1.slots.1, q29)⟩ : PKept)] fun ac w β S => ?_
    have o35 := ow_Kept (x := (⟨(k.known.set page.toNat true), (k.slots.set page.toNat (f_composeSlot (el inner page.toNat) outer))⟩ : TKept)) (p := (⟨(q1.known.1, q20), (q1.slots.1, q29)⟩ : PKept)) o18 o27 d33 
    exact ret1_of S (show f_fill k inner outer page = (⟨(k.known.set page.toNat true), (k.slots.set page.toNat (f_composeSlot (el inner page.toNat) outer))⟩ : TKept) from k0_impl_Fill) rfl o35
   have g36 := within_f h16
   refine S.gr 10 .nil [GT.val k q1] fun ac w β S => ?_
   have o37 := ow_Kept (x := k) (p := q1) o6 o9 d11 
   exact ret1_of S (show f_fill k inner outer page = k from k0_impl_Fill) rfl o37
  have g38 := within_f h14
  refine S.gr 17 .nil [GT.val k q1] fun ac w β S => ?_
  have o39 := ow_Kept (x := k) (p := q1) o6 o9 d11 
  exact ret1_of S (show f_fill k inner outer page = k from k0_impl_Fill) rfl o39
 have g40 := within_f h12
 refine S.gr 24 .nil [GT.val k q1] fun ac w β S => ?_
 have o41 := ow_Kept (x := k) (p := q1) o6 o9 d11 
 exact ret1_of S (show f_fill k inner outer page = k from k0_impl_Fill) rfl o41

theorem c_impl_PutEntry (w0 : World) (b : List TEntry) (pb : LP TEntry) (hb : RD w0 b pb) (e : TEntry) (he : REntry e) (pre0 : b.length ≤ 6) : Calls Tryz.prog 188 [slv b.length pb.1, GT.val e ()].toArray w0 (Ret1 NoB w0 (f_putEntry b e : List TEntry)) := by
 refine Calls.run NoB Tryz.func188 ?_
 intro ac β S
 have hfl : (f_flushPage b e.tag e.page).length ≤ b.length := without_len _ _
 have hfa : (f_flushPage b e.tag e.page ++ [e]).length = (f_flushPage b e.tag e.page).length + 1 := by simp
 have hleb : b.length ≤ 4194304 := LRd.le hb
 refine S.go 7 .nil fun ac w β S => ?_
 refine drw ?_
 let σ1 : Sy := ⟨[(0, .v (slv b.length pb.1)), (3, .p 0 0)], [GT.cells e ()]⟩
 obtain ⟨u0, N0, β0, S⟩ : ∃ u0 N0 β0, St Tryz.prog Tryz.f188.ntmps w0 NoB u0 N0 β0 σ1 ac w := ⟨_, _, _, S.z⟩
 refine wp_region_cut (fun ac w => ∃ q37 F38 u N β, St Tryz.prog Tryz.f188.ntmps w0 NoB u N β (σ1.dl [0, 3] [(5, .v (slv ((f_flushPage b e.tag e.page) ++ [e]).length q37.1))] 0 []) ac w ∧ Ow w0 NoB u N F38 ((f_flushPage b e.tag e.page) ++ [e]) q37) ?_ ?_
 ·refine S.draw0 (f := 10) 10 (by kernel_rfl) (by kernel_rfl) fun w S => ?_
  refine S.hq 0 [] [] [(6, .v (slv b.length pb.1))] .nil fun ac S => ?_
  refine S.hq 1 [] [] [(7, .p 0 0)] .nil fun ac S => ?_
  refine S.hq 2 [] [] [(8, .v (I e.tag))] .nil fun ac S => ?_
  refine S.hq 3 [] [] [(9, .p 0 1)] .nil fun ac S => ?_
  refine S.hq 4 [] [] [(10, .v (I e.page))] .nil fun ac S => ?_
  refine S.hq 6 [] [] [(12, .v (GT.val e ()))] .nil fun ac S => ?_
  refine WD.nameW fun W hW => ?_
  refine WD.castW (l' := mkL 10 [0, 1, 2, 3, 4, 6]) (by kernel_rfl) ?_
  have hK39 ac w q37 F38 u N β (S : St Tryz.prog Tryz.f188.ntmps w0 NoB u N β (σ1.dl [0, 3] [(5, .v (slv ((f_flushPage b e.tag e.page) ++ [e]).length q37.1))] 1 []) ac w) (o36 : Ow w0 NoB u N F38 ((f_flushPage b e.tag e.page) ++ [e]) q37) (hNN : NN N0 u0 N u) (hBB : BB σ1.bx.length β0 β) : W 0 (mkL 10 [0, 1, 2, 3, 4, 5, 6, 7, 8, 9]) ac w := by
   exact od hW ⟨rfl, q37, F38, _, _, _, S.z, o36⟩
  have hK40 ac w q8 F9 q16 F17 u N β (S : St Tryz.prog Tryz.f188.ntmps w0 NoB u N β (σ1.dl [0, 3] [(11, .v (slv (f_flushPage b e.tag e.page).length q8.1)), (13, .v (slv 1 q16.1))] 1 []) ac w) (o7 : Ow w0 NoB u N F9 (f_flushPage b e.tag e.page) q8) (o15 : Ow w0 NoB u N F17 ([e]) q16) (d41 : Disj F9 F17) (hNN : ∀ b, N0 b → N b ∧ u.heap[b]? = u0.heap[b]? ∧ ¬ F9 b) (hBB : BB σ1.bx.length β0 β) : W 2 (mkL 10 [0, 1, 2, 3, 4, 5, 6, 7]) ac w := by
   refine ox1 hW 8 ?_
   refine id (S.appFlat (α := TEntry) o7 o15.rn (fun _ _ h => h) (by' := 32) (d := 14) (lx := (f_flushPage b e.tag e.page).length) (ly := 1) rfl rfl (by kernel_rfl) (show _ ≤ 4194304 by simp only [List.length_append, List.length_cons, List.length_nil]; omega) fun ac w N q42 F43 S up o44 d45 => ?_)
   have hb46 := fun b h => (⟨(up b (hNN b h).1 (hNN b h).2.2).1, (up b (hNN b h).1 (hNN b h).2.2).2.trans (hNN b h).2.1⟩ : _ ∧ _)
   refine WD.sc S hb46 hBB fun hC => ?_
   replace o15 := o15.upF (Disj.symm d41) up
   clear up d45
   exact S.wh hW [9] hC fun _ S => hK39 _ _ q42 F43 _ _ _ S o44 hb46 hBB
  have hK48 ac w q8 F9 u N β (S : St Tryz.prog Tryz.f188.ntmps w0 NoB u N β (σ1.dl [0, 3] [(11, .v (slv (f_flushPage b e.tag e.page).length q8.1)), (12, .v (GT.val e ()))] 1 []) ac w) (o7 : Ow w0 NoB u N F9 (f_flushPage b e.tag e.page) q8) (hNN : ∀ b, N0 b → N b ∧ u.heap[b]? = u0.heap[b]? ∧ ¬ F9 b) (hBB : BB σ1.bx.length β0 β) : W 3 (mkL 10 [0, 1, 2, 3, 4, 5, 6]) ac w := by
   refine ox1 hW 7 ?_
   refine id (S.bs1 (α := TEntry) (x := e) (p := ()) (F := NoB) he (fun b h => False.elim h) (fun b h => False.elim h) (d := 13) (by kernel_rfl) fun ac w N q49 F50 S up o51 d52 => ?_)
   have hb53 := fun b h => (⟨(up b (hNN b h).1).1, (up b (hNN b h).1).2.trans (hNN b h).2.1, (hNN b h).2.2⟩ : _ ∧ _ ∧ _)
   refine WD.sc S (fun b h => ⟨(hb53 b h).1, (hb53 b h).2.1⟩) hBB fun hC => ?_
   have d54 := d52 _ (fun b _ h => False.elim h) o7.sub
   replace o7 := o7.up up
   clear up d52
   exact S.wh hW [] hC fun _ S => hK40 _ _ q8 F9 q49 F50 _ _ _ S o7 o51 d54 hb53 hBB
  have hK55 ac w q16 F17 u N β (S : St Tryz.prog Tryz.f188.ntmps w0 NoB u N β (σ1.dl [0, 3] [(6, .v (slv b.length pb.1)), (8, .v (I e.tag)), (10, .v (I e.page)), (13, .v (slv 1 q16.1))] 1 []) ac w) (o15 : Ow w0 NoB u N F17 ([e]) q16) (hNN : NN N0 u0 N u) (hBB : BB σ1.bx.length β0 β) : W 3 (mkL 10 [0, 1, 2, 3, 4, 6, 7]) ac w := by
   refine ox1 hW 5 ?_
   refine id (S.k1 11 (c_impl_FlushPage w b pb (S.rd (S.arg hb)) e.tag (REntry.tag (d := e) he) e.page (REntry.page (d := e) he)) fun ac w N q56 F57 S up o58 d59 => ?_)
   have hb60 := fun b h => (⟨(up b (hNN b h).1).1, (up b (hNN b h).1).2.trans (hNN b h).2, d59 b (hNN b h).1⟩ : _ ∧ _ ∧ _)
   refine WD.sc S (fun b h => ⟨(hb60 b h).1, (hb60 b h).2.1⟩) hBB fun hC => ?_
   have d61 := Disj.w d59 o15.sub
   replace o15 := o15.up up
   clear up d59
   exact S.wh hW [] hC fun _ S => hK40 _ _ q56 F57 q16 F17 _ _ _ S o58 o15 (Disj.symm d61) hb60 hBB
  have hNN : NN N0 u0 N0 u0 := fun b h => ⟨h, rfl⟩
  have hBB : BB σ1.bx.length β0 β0 := fun _ _ => rfl
  refine ox2 hW 5 7 ?_ ?_
  ·refine id (S.k1 11 (c_impl_FlushPage w b pb (S.rd (S.arg hb)) e.tag (REntry.tag (d := e) he) e.page (REntry.page (d := e) he)) fun ac w N q62 F63 S up o64 d65 => ?_)
   have hb66 := fun b h => (⟨(up b (hNN b h).1).1, (up b (hNN b h).1).2.trans (hNN b h).2, d65 b (hNN b h).1⟩ : _ ∧ _ ∧ _)
   refine WD.sc S (fun b h => ⟨(hb66 b h).1, (hb66 b h).2.1⟩) hBB fun hC => ?_
   clear up d65
   exact S.wh hW [] hC fun _ S => hK48 _ _ q62 F63 _ _ _ S o64 hb66 hBB
  ·refine id (S.bs1 (α := TEntry) (x := e) (p := ()) (F := NoB) he (fun b h => False.elim h) (fun b h => False.elim h) (d := 13) (by kernel_rfl) fun ac w N q67 F68 S up o69 d70 => ?_)
   have hb71 := fun b h => (⟨(up b (hNN b h).1).1, (up b (hNN b h).1).2.trans (hNN b h).2⟩ : _ ∧ _)
   refine WD.sc S hb71 hBB fun hC => ?_
   clear up d70
   exact S.wh hW [] hC fun _ S => hK55 _ _ q67 F68 _ _ _ S o69 hb71 hBB
 clear S
 rintro ac w ⟨q37, F38, u, N, β, S, o36⟩
 refine S.ex fun S => ?_
 refine S.go 8 (.cons (qm (((f_flushPage b e.tag e.page) ++ [e]).length : Int) 6) .nil) fun ac w β S => ?_
 replace S := S.z (σ' := ⟨[(15, .v (slv ((f_flushPage b e.tag e.page) ++ [e]).length q37.1)), (19, .v (I (if ((((f_flushPage b e.tag e.page) ++ [e]).length : Int) - 6) > 0 then ((((f_flushPage b e.tag e.page) ++ [e]).length : Int) - 6) else 0)))], []⟩)
 replace S := S.cast (σ' := ⟨[(15, .v (slv ((f_flushPage b e.tag e.page) ++ [e]).length q37.1)), (19, .v (I (((f_flushPage b e.tag e.page ++ [e]).length - 6 : Nat) : Int)))], []⟩) (by rw [show (((f_flushPage b e.tag e.page ++ [e]).length - 6 : Nat) : Int) = (if ((((f_flushPage b e.tag e.page) ++ [e]).length : Int) - 6) > 0 then ((((f_flushPage b e.tag e.page) ++ [e]).length : Int) - 6) else 0) by (repeat' split) <;> omega])
 have l72 : ((((f_flushPage b e.tag e.page) ++ [e]).drop ((f_flushPage b e.tag e.page ++ [e]).length - 6)).take (((f_flushPage b e.tag e.page) ++ [e]).length - ((f_flushPage b e.tag e.page ++ [e]).length - 6))).length = ((f_flushPage b e.tag e.page) ++ [e]).length - ((f_flushPage b e.tag e.page ++ [e]).length - 6) := by first | (simp; done) | (simp; omega)
 refine S.is fun S => ?_
 refine S.gr 5 (.cons (Q_slice o36.rn (l := ((f_flushPage b e.tag e.page) ++ [e]).length) (a := ((f_flushPage b e.tag e.page ++ [e]).length - 6)) (b := ((f_flushPage b e.tag e.page) ++ [e]).length) rfl (.inr rfl) (.inl ⟨rfl, rfl⟩) (by omega) (by omega) Tryz.underlying58 (by kernel_rfl)) .nil) [slv (((f_flushPage b e.tag e.page) ++ [e]).length - ((f_flushPage b e.tag e.page ++ [e]).length - 6) : Nat) (q37.1.sl ((f_flushPage b e.tag e.page ++ [e]).length - 6) 4)] fun ac w β S => ?_
 have o73 : Ow w0 NoB _ _ F38 ((((f_flushPage b e.tag e.page) ++ [e]).drop ((f_flushPage b e.tag e.page ++ [e]).length - 6)).take (((f_flushPage b e.tag e.page) ++ [e]).length - ((f_flushPage b e.tag e.page ++ [e]).length - 6))) (q37.1.sl ((f_flushPage b e.tag e.page ++ [e]).length - 6) 4, fun i => q37.2 (((f_flushPage b e.tag e.page ++ [e]).length - 6) + i)) := Ow.sl o36 (a := ((f_flushPage b e.tag e.page ++ [e]).length - 6)) (b := ((f_flushPage b e.tag e.page) ++ [e]).length) (by omega) (by omega)
 exact ret1_of S (show f_putEntry b e = ((((f_flushPage b e.tag e.page) ++ [e]).drop ((f_flushPage b e.tag e.page ++ [e]).length - 6)).take (((f_flushPage b e.tag e.page) ++ [e]).length - ((f_flushPage b e.tag e.page ++ [e]).length - 6))) by clear S; (first | exact put_eq (by omega) | exact put_all (by omega))) (show slv (((f_flushPage b e.tag e.page) ++ [e]).length - ((f_flushPage b e.tag e.page ++ [e]).length - 6) : Nat) (q37.1.sl ((f_flushPage b e.tag e.page ++ [e]).length - 6) 4) = GT.val ((((f_flushPage b e.tag e.page) ++ [e]).drop ((f_flushPage b e.tag e.page ++ [e]).length - 6)).take (((f_flushPage b e.tag e.page) ++ [e]).length - ((f_flushPage b e.tag e.page ++ [e]).length - 6))) ((q37.1.sl ((f_flushPage b e.tag e.page ++ [e]).length - 6) 4, fun i => q37.2 (((f_flushPage b e.tag e.page ++ [e]).length - 6) + i)) : LP TEntry) from congrArg (fun z => slv z (q37.1.sl ((f_flushPage b e.tag e.page ++ [e]).length - 6) 4)) (show (((f_flushPage b e.tag e.page) ++ [e]).length - ((f_flushPage b e.tag e.page ++ [e]).length - 6) : Nat) = ((((f_flushPage b e.tag e.page) ++ [e]).drop ((f_flushPage b e.tag e.page ++ [e]).length - 6)).take (((f_flushPage b e.tag e.page) ++ [e]).length - ((f_flushPage b e.tag e.page ++ [e]).length - 6))).length by omega)) o73

end Go.Proofs.YtgonaioedbphgaaGreat
