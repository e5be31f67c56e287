/- The walks: what each function that the laws reach computes (part 2). -/
import Derived.Test.YtlpaefknpmdaoaaGreatA3
import Derived.Test.YtlpaefknpmdaoaaGreatProg
import Derived.KernelRfl
namespace Go.Proofs.YtlpaefknpmdaoaaGreat
open Go
set_option linter.unusedVariables false
set_option linter.unusedSimpArgs false
set_option maxRecDepth 100000
set_option maxHeartbeats 2000000

theorem k0_spec_BareFlush {p : Prop} (h : p := by clear S; (first | (unfold f_bareFlush; rw [changed_out (by assumption)]; done) | (rw [flush_no (by assumption)]; done) | (rw [flush_in (by assumption) (by assumption)]; done))) : p := h
theorem c_spec_BareFlush (w0 : World) (b : TBare) (pb : PBare) (hb : RD w0 b pb) (g : Int) (page : Int) (hpage : In64 page) : Calls Tryz.prog 20 [GT.val b pb, I g, I page].toArray w0 (Ret2 NoB w0 ((f_bareFlush b g page).1 : TBare) ((f_bareFlush b g page).2 : Bool)) := by
 refine Calls.run NoB Tryz.func20 ?_
 intro ac β S
 have hleb_mem : b.mem.length ≤ 4194304 := LRd.le (RBare.mem (d := b) hb)
 have hleb_guests : b.guests.length ≤ 4194304 := LRd.le (RBare.guests (d := b) hb)
 have hleb_outs : b.outs.length ≤ 4194304 := LRd.le (RBare.outs (d := b) hb)
 have hlopage := hpage.lo; have hhipage := hpage.hi
 refine S.go 10 .nil fun ac w β S => S.K1 (r := b) (d := 9) (c_spec_l17Copy w b pb (S.rd (S.arg hb))) fun ac w N q1 F2 S up o3 d4 => ?_
 clear up d4
 have i14 : In64 b.pend := RBare.pend (d := b) o3.rn
 obtain ⟨F5, F8, F11, o6, o9, o12, _, _, _, d15, d16, d17⟩ := sp_Bare o3
 refine S.gb 11 (.cons (Q_call fun w hw => c_spec_l19Is w b q1 (rd_of (show GT.rd KK _ _ b q1 from ⟨o6.rn, o9.rn, o12.rn, i14⟩) hw) g) .nil) (!(f_l19Is b g)) (fun ac w β h18 S => ?_) (fun ac w β h18 S => ?_)
 ·have h19 := not_t h18
  refine S.gr 15 .nil [GT.val b q1, B false] fun ac w β S => ?_
  have o20 := ow_Bare (x := b) (p := q1) o6 o9 o12 d15 d16 d17 i14
  exact ret2_of (p' := ()) S (show (f_bareFlush b g page).1 = b from k0_spec_BareFlush) (show (f_bareFlush b g page).2 = false from k0_spec_BareFlush) rfl rfl o20 trivial
 have h21 := not_f h18
 have g22 := l19Is_t h21
 refine S.gb 6 (.cons (Q_call fun w hw => c_spec_l01In w page 0 3) .nil) (!(f_within page 0 3)) (fun ac w β h23 S => ?_) (fun ac w β h23 S => ?_)
 ·have h24 := not_t h23
  have g25 := within_f h24
  refine S.gr 9 .nil [GT.val b q1, B false] fun ac w β S => ?_
  have o26 := ow_Bare (x := b) (p := q1) o6 o9 o12 d15 d16 d17 i14
  exact ret2_of (p' := ()) S (show (f_bareFlush b g page).1 = b from k0_spec_BareFlush) (show (f_bareFlush b g page).2 = false from k0_spec_BareFlush) rfl rfl o26 trivial
 have h27 := not_f h23
 have g28 := within_t h27
 refine S.go 4 .nil fun ac w β S => ?_
 refine drw ?_
 refine S.draw0 (f := 22) 21 (by kernel_rfl) (by kernel_rfl) fun w S => ?_
 refine S.hq 0 [0] [] [(20, .p 0 1)] .nil fun ac S => ?_
 refine S.hq 1 [1] [] [(21, .v (slv b.guests.length q1.guests.1))] .nil fun ac S => ?_
 refine S.hq 2 [2] [] [(22, .v (I g))] .nil fun ac S => ?_
 refine S.hq 3 [3] [] [(23, .p 0 1)] .nil fun ac S => ?_
 refine S.hq 4 [4] [] [(24, .v (slv b.guests.length q1.guests.1))] .nil fun ac S => ?_
 refine S.hq 5 [5] [] [(25, .v (I g))] .nil fun ac S => ?_
 refine S.hq 6 [6] [] [(26, .v (pt q1.guests.1.b (q1.guests.1.off + g.toNat * 15)))] (.cons (qt o9.rn g Tryz.underlying48) .nil) fun ac S => ?_
 refine S.hq 7 [7] [] [(27, .v (pt q1.guests.1.b (q1.guests.1.off + g.toNat * 15 + 4)))] .nil fun ac S => ?_
 refine S.hq 8 [8] [] [(28, .v (slv (el b.guests g.toNat).live.length (q1.guests.2 g.toNat).live.1))] (.cons (qc o9.rn 77 g.toNat 4 (slv (el b.guests g.toNat).live.length (q1.guests.2 g.toNat).live.1)) .nil) fun ac S => ?_
 refine S.hq 9 [9] [] [(29, .v (I page))] .nil fun ac S => ?_
 refine S.hq 10 [10] [] [(30, .p 0 1)] .nil fun ac S => ?_
 refine S.hq 11 [11] [] [(31, .v (slv b.guests.length q1.guests.1))] .nil fun ac S => ?_
 refine S.hq 12 [12] [] [(32, .v (I g))] .nil fun ac S => ?_
 refine S.hq 13 [13] [] [(33, .v (pt q1.guests.1.b (q1.guests.1.off + g.toNat * 15)))] (.cons (qt o9.rn g Tryz.underlying48) .nil) fun ac S => ?_
 refine S.hq 14 [14] [] [(34, .v (pt q1.guests.1.b (q1.guests.1.off + g.toNat * 15 + 3)))] .nil fun ac S => ?_
 refine S.hq 15 [15] [] [(35, .v (slv (el b.guests g.toNat).written.length (q1.guests.2 g.toNat).written.1))] (.cons (qc o9.rn 77 g.toNat 3 (slv (el b.guests g.toNat).written.length (q1.guests.2 g.toNat).written.1)) .nil) fun ac S => ?_
 refine S.hq 16 [16] [] [(36, .v (I page))] .nil fun ac S => ?_
 refine S.sq 17 [] [(37, .v (GT.val (f_slotAt (el b.guests g.toNat).written page) ()))] 2 [] (.cons (Q_call fun w hw => c_spec_SlotAt w (el b.guests g.toNat).written (q1.guests.2 g.toNat).written (rd_of (RGuest.written (d := (el b.guests g.toNat)) (LRd.el o9.rn g.toNat (by omega))) hw) page) .nil) fun ac w β S => ?_
 refine WD.one (i := 18) (by kernel_rfl) ?_
 refine id (S.k1 38 (c_spec_WithSlot w (el b.guests g.toNat).live (q1.guests.2 g.toNat).live (S.rd (RGuest.live (d := (el b.guests g.toNat)) (LRd.el o9.rn g.toNat (by omega)))) page (f_slotAt (el b.guests g.toNat).written page) (slotAt_r (RGuest.written (d := (el b.guests g.toNat)) (LRd.el o9.rn g.toNat (by omega))) page)) fun ac w N q29 F30 S up o31 d32 => ?_)
 refine WD.next S up (by kernel_rfl) ?_
 have d33 := Disj.w d32 o6.sub
 have d34 := Disj.w d32 o9.sub
 have d35 := Disj.w d32 o12.sub
 replace o6 := o6.up up
 replace o9 := o9.up up
 replace o12 := o12.up up
 clear up d32
 refine S.hq 19 [20, 19] [] [(39, .v (pt q1.guests.1.b (q1.guests.1.off + g.toNat * 15)))] (.cons (qt o9.rn g Tryz.underlying48) .nil) fun ac S => ?_
 refine S.hq 20 [20] [] [(40, .v (pt q1.guests.1.b (q1.guests.1.off + g.toNat * 15 + 4)))] .nil fun ac S => ?_
 refine WD.one (i := 21) (by kernel_rfl) ?_
 refine id (S.sE (α := TGuest) o9 (t := 77) (k := g.toNat) (j := 4) (off := q1.guests.1.off + g.toNat * 15 + 4) (v := slv (f_withSlot (el b.guests g.toNat).live page (f_slotAt (el b.guests g.toNat).written page)).length q29.1) (y := ({ el b.guests g.toNat with live := (f_withSlot (el b.guests g.toNat).live page (f_slotAt (el b.guests g.toNat).written page)) } : TGuest)) (q := ({ q1.guests.2 g.toNat with live := q29 } : PGuest)) (fun G g_ gF => ⟨_, owl_Guest_live g_ o31.own (fun b h h2 => d34 b (gF b h) h2), fun _ h => h⟩) d34 o31.sub o31.young fun w N F37 q38 S up o36 d39 s40 n41 => ?_)
 refine WD.last (by kernel_rfl) ?_
 have d42 := d39 _ d15 d33 o6.sub
 have d43 := d39 _ (Disj.symm d17) d35 o12.sub
 replace o6 := o6.upF d15 up
 replace o12 := o12.upF (Disj.symm d17) up
 clear up d39 o9 n41
 have l44 : (b.guests.set g.toNat ({ el b.guests g.toNat with live := (f_withSlot (el b.guests g.toNat).live page (f_slotAt (el b.guests g.toNat).written page)) })).length = b.guests.length := List.length_set
 replace S := S.z (σ' := ⟨[(3, .p 0 0), (6, .p 1 0), (38, .v (slv (f_withSlot (el b.guests g.toNat).live page (f_slotAt (el b.guests g.toNat).written page)).length q29.1)), (40, .v (pt q1.guests.1.b (q1.guests.1.off + g.toNat * 15 + 4)))], [[slv b.mem.length q1.mem.1, slv b.guests.length q1.guests.1, slv b.outs.length q1.outs.1, I b.pend], Zc TBare]⟩)
 replace S := S.cast (σ' := ⟨[(3, .p 0 0), (6, .p 1 0), (38, .v (slv (f_withSlot (el b.guests g.toNat).live page (f_slotAt (el b.guests g.toNat).written page)).length q29.1)), (40, .v (pt q1.guests.1.b (q1.guests.1.off + g.toNat * 15 + 4)))], [[slv b.mem.length q1.mem.1, slv (b.guests.set g.toNat ({ el b.guests g.toNat with live := (f_withSlot (el b.guests g.toNat).live page (f_slotAt (el b.guests g.toNat).written page)) })).length q1.guests.1, slv b.outs.length q1.outs.1, I b.pend], Zc TBare]⟩) (by rw [show (b.guests.set g.toNat ({ el b.guests g.toNat with live := (f_withSlot (el b.guests g.toNat).live page (f_slotAt (el b.guests g.toNat).written page)) })).length = b.guests.length by omega])
 refine WD.done (by kernel_rfl) ?_ _
 refine S.ex fun S => ?_
 refine S.gr 9 .nil [GT.val (⟨b.mem, (b.guests.set g.toNat ({ el b.guests g.toNat with live := (f_withSlot (el b.guests g.toNat).live page (f_slotAt (el b.guests g.toNat).written page)) })), b.outs, b.pend⟩ : TBare) (⟨q1.mem, (q1.guests.1, q38), q1.outs⟩ : PBare), B true] fun ac w β S => ?_
 have o45 := ow_Bare (x := (⟨b.mem, (b.guests.set g.toNat ({ el b.guests g.toNat with live := (f_withSlot (el b.guests g.toNat).live page (f_slotAt (el b.guests g.toNat).written page)) })), b.outs, b.pend⟩ : TBare)) (p := (⟨q1.mem, (q1.guests.1, q38), q1.outs⟩ : PBare)) o6 o36 o12 d42 d16 (Disj.symm d43) i14
 exact ret2_of (p' := ()) S (show (f_bareFlush b g page).1 = (⟨b.mem, (b.guests.set g.toNat ({ el b.guests g.toNat with live := (f_withSlot (el b.guests g.toNat).live page (f_slotAt (el b.guests g.toNat).written page)) })), b.outs, b.pend⟩ : TBare) from k0_spec_BareFlush) (show (f_bareFlush b g page).2 = true from k0_spec_BareFlush) rfl rfl o45 trivial

theorem k0_spec_BareAnswer {p : Prop} (h : p := by clear S; (first | (unfold f_bareAnswer; rw [changed_out (by assumption)]; done) | (rw [answer_noval (by assumption)]; done) | (rw [answer_call (by assumption) (by assumption) (by assumption)]; done) | (rw [answer_out (by assumption) (by assumption) (by assumption)]; done) | (rw [answer_none (by assumption) (by omega) (by omega)]; done))) : p := h
theorem c_spec_BareAnswer (w0 : World) (b : TBare) (pb : PBare) (hb : RD w0 b pb) (g : Int) (v : Int) (hv : In64 v) : Calls Tryz.prog 21 [GT.val b pb, I g, I v].toArray w0 (Ret2 NoB w0 ((f_bareAnswer b g v).1 : TBare) ((f_bareAnswer b g v).2 : Bool)) := by
 refine Calls.run NoB Tryz.func21 ?_
 intro ac β S
 have hleb_mem : b.mem.length ≤ 4194304 := LRd.le (RBare.mem (d := b) hb)
 have hleb_guests : b.guests.length ≤ 4194304 := LRd.le (RBare.guests (d := b) hb)
 have hleb_outs : b.outs.length ≤ 4194304 := LRd.le (RBare.outs (d := b) hb)
 have hlov := hv.lo; have hhiv := hv.hi
 refine S.go 10 .nil fun ac w β S => S.K1 (r := b) (d := 10) (c_spec_l17Copy w b pb (S.rd (S.arg hb))) fun ac w N q1 F2 S up o3 d4 => ?_
 clear up d4
 have i14 : In64 b.pend := RBare.pend (d := b) o3.rn
 obtain ⟨F5, F8, F11, o6, o9, o12, _, _, _, d15, d16, d17⟩ := sp_Bare o3
 refine S.gb 11 (.cons (Q_call fun w hw => c_spec_l19Is w b q1 (rd_of (show GT.rd KK _ _ b q1 from ⟨o6.rn, o9.rn, o12.rn, i14⟩) hw) g) .nil) (!(f_l19Is b g)) (fun ac w β h18 S => ?_) (fun ac w β h18 S => ?_)
 ·have h19 := not_t h18
  refine S.gr 15 .nil [GT.val b q1, B false] fun ac w β S => ?_
  have o20 := ow_Bare (x := b) (p := q1) o6 o9 o12 d15 d16 d17 i14
  exact ret2_of (p' := ()) S (show (f_bareAnswer b g v).1 = b from k0_spec_BareAnswer) (show (f_bareAnswer b g v).2 = false from k0_spec_BareAnswer) rfl rfl o20 trivial
 have h21 := not_f h18
 have g22 := l19Is_t h21
 refine S.gb 6 (.cons (Q_call fun w hw => c_spec_l01In w v 0 99) .nil) (!(f_within v 0 99)) (fun ac w β h23 S => ?_) (fun ac w β h23 S => ?_)
 ·have h24 := not_t h23
  have g25 := within_f h24
  refine S.gr 9 .nil [GT.val b q1, B false] fun ac w β S => ?_
  have o26 := ow_Bare (x := b) (p := q1) o6 o9 o12 d15 d16 d17 i14
  exact ret2_of (p' := ()) S (show (f_bareAnswer b g v).1 = b from k0_spec_BareAnswer) (show (f_bareAnswer b g v).2 = false from k0_spec_BareAnswer) rfl rfl o26 trivial
 have h27 := not_f h23
 have g28 := within_t h27
 refine S.gd 29 (.cons (qt o9.rn g Tryz.underlying48) (.cons (qs o9.rn 81 g.toNat) .nil)) ((el b.guests g.toNat).exit.kind == 2) (fun ac w β h29 g30 S => ?_) (fun ac w β h29 g30 S => ?_)
 ·refine S.go 9 .nil fun ac w β S => ?_
  refine drw ?_
  refine S.draw0 (f := 9) 8 (by kernel_rfl) (by kernel_rfl) fun w S => ?_
  refine S.hq 0 [0] [] [(36, .p 0 1)] .nil fun ac S => ?_
  refine S.hq 1 [1] [] [(37, .v (slv b.guests.length q1.guests.1))] .nil fun ac S => ?_
  refine S.hq 2 [2] [] [(38, .v (I g))] .nil fun ac S => ?_
  refine S.hq 3 [3] [] [(39, .v (GT.val (⟨(el b.guests g.toNat).prog, v, (el b.guests g.toNat).pc, (el b.guests g.toNat).written, (el b.guests g.toNat).live, (el b.guests g.toNat).ctl, (el b.guests g.toNat).pend, (el b.guests g.toNat).exit, (el b.guests g.toNat).halted, (el b.guests g.toNat).seen⟩ : TGuest) (⟨(q1.guests.2 g.toNat).prog, (q1.guests.2 g.toNat).written, (q1.guests.2 g.toNat).live, (q1.guests.2 g.toNat).seen⟩ : PGuest)))] .nil fun ac S => ?_
  refine S.hq 4 [4] [] [(40, .v (GT.val (⟨0, 0, false, 0⟩ : TExit) ()))] (.cons (Q_sem (s := Instr.build 79 [].toArray) (v := .agg [I 0, I 0, B false, I 0].toArray) (fun w => by kernel_rfl)) .nil) fun ac S => ?_
  refine WD.one (i := 5) (by kernel_rfl) ?_
  refine id (S.k1 41 (c_spec_Stopped w (⟨(el b.guests g.toNat).prog, v, (el b.guests g.toNat).pc, (el b.guests g.toNat).written, (el b.guests g.toNat).live, (el b.guests g.toNat).ctl, (el b.guests g.toNat).pend, (el b.guests g.toNat).exit, (el b.guests g.toNat).halted, (el b.guests g.toNat).seen⟩ : TGuest) (⟨(q1.guests.2 g.toNat).prog, (q1.guests.2 g.toNat).written, (q1.guests.2 g.toNat).live, (q1.guests.2 g.toNat).seen⟩ : PGuest) (S.rd (show GT.rd KK _ _ (⟨(el b.guests g.toNat).prog, v, (el b.guests g.toNat).pc, (el b.guests g.toNat).written, (el b.guests g.toNat).live, (el b.guests g.toNat).ctl, (el b.guests g.toNat).pend, (el b.guests g.toNat).exit, (el b.guests g.toNat).halted, (el b.guests g.toNat).seen⟩ : TGuest) (⟨(q1.guests.2 g.toNat).prog, (q1.guests.2 g.toNat).written, (q1.guests.2 g.toNat).live, (q1.guests.2 g.toNat).seen⟩ : PGuest) from ⟨(RGuest.prog (p := (q1.guests.2 g.toNat)) (d := (el b.guests g.toNat)) (LRd.el o9.rn g.toNat (by omega))), hv, (RGuest.pc (d := (el b.guests g.toNat)) (LRd.el o9.rn g.toNat (by omega))), (RGuest.written (p := (q1.guests.2 g.toNat)) (d := (el b.guests g.toNat)) (LRd.el o9.rn g.toNat (by omega))), (RGuest.live (p := (q1.guests.2 g.toNat)) (d := (el b.guests g.toNat)) (LRd.el o9.rn g.toNat (by omega))), (RGuest.ctl (d := (el b.guests g.toNat)) (LRd.el o9.rn g.toNat (by omega))), (RGuest.pend (d := (el b.guests g.toNat)) (LRd.el o9.rn g.toNat (by omega))), (RGuest.exit (d := (el b.guests g.toNat)) (LRd.el o9.rn g.toNat (by omega))), (RGuest.seen (p := (q1.guests.2 g.toNat)) (d := (el b.guests g.toNat)) (LRd.el o9.rn g.toNat (by omega)))⟩)) (⟨0, 0, false, 0⟩ : TExit) (show RExit (⟨0, 0, false, 0⟩ : TExit) from ⟨(show In64 0 from ⟨by decide, by decide⟩), (show In64 0 from ⟨by decide, by decide⟩), (show In64 0 from ⟨by decide, by decide⟩)⟩)) fun ac w N q31 F32 S up o33 d34 => ?_)
  refine WD.next S up (by kernel_rfl) ?_
  replace o6 := o6.up up
  replace o9 := o9.up up
  replace o12 := o12.up up
  clear up d34
  refine WD.one (i := 6) (by kernel_rfl) ?_
  refine id (S.k1 42 (c_spec_Moved w ({ (⟨(el b.guests g.toNat).prog, v, (el b.guests g.toNat).pc, (el b.guests g.toNat).written, (el b.guests g.toNat).live, (el b.guests g.toNat).ctl, (el b.guests g.toNat).pend, (el b.guests g.toNat).exit, (el b.guests g.toNat).halted, (el b.guests g.toNat).seen⟩ : TGuest) with exit := (⟨0, 0, false, 0⟩ : TExit) } : TGuest) q31 (S.rd o33.rn)) fun ac w N q38 F39 S up o40 d41 => ?_)
  refine WD.next S up (by kernel_rfl) ?_
  have d42 := Disj.w d41 o6.sub
  have d43 := Disj.w d41 o9.sub
  have d44 := Disj.w d41 o12.sub
  replace o6 := o6.up up
  replace o9 := o9.up up
  replace o12 := o12.up up
  clear up d41
  refine S.hq 7 [7] [] [(43, .v (pt q1.guests.1.b (q1.guests.1.off + g.toNat * 15)))] (.cons (qt o9.rn g Tryz.underlying48) .nil) fun ac S => ?_
  refine WD.one (i := 8) (by kernel_rfl) ?_
  refine id (S.sV (α := TGuest) o9 (t := 81) (k := g.toNat) (off := q1.guests.1.off + g.toNat * 15) o40 d43 fun w N F47 q48 S up o46 d49 s50 n51 => ?_)
  refine WD.last (by kernel_rfl) ?_
  have d52 := d49 _ d15 d42 o6.sub
  have d53 := d49 _ (Disj.symm d17) d44 o12.sub
  replace o6 := o6.upF d15 up
  replace o12 := o12.upF (Disj.symm d17) up
  clear up d49 o9 n51
  have l54 : (b.guests.set g.toNat (f_moved ({ (⟨(el b.guests g.toNat).prog, v, (el b.guests g.toNat).pc, (el b.guests g.toNat).written, (el b.guests g.toNat).live, (el b.guests g.toNat).ctl, (el b.guests g.toNat).pend, (el b.guests g.toNat).exit, (el b.guests g.toNat).halted, (el b.guests g.toNat).seen⟩ : TGuest) with exit := (⟨0, 0, false, 0⟩ : TExit) } : TGuest))).length = b.guests.length := List.length_set
  replace S := S.z (σ' := ⟨[(3, .p 0 0), (6, .p 1 0), (42, .v (GT.val (f_moved ({ (⟨(el b.guests g.toNat).prog, v, (el b.guests g.toNat).pc, (el b.guests g.toNat).written, (el b.guests g.toNat).live, (el b.guests g.toNat).ctl, (el b.guests g.toNat).pend, (el b.guests g.toNat).exit, (el b.guests g.toNat).halted, (el b.guests g.toNat).seen⟩ : TGuest) with exit := (⟨0, 0, false, 0⟩ : TExit) } : TGuest)) q38)), (43, .v (pt q1.guests.1.b (q1.guests.1.off + g.toNat * 15)))], [[slv b.mem.length q1.mem.1, slv b.guests.length q1.guests.1, slv b.outs.length q1.outs.1, I b.pend], Zc TBare, [slv (el b.guests g.toNat).prog.length (q1.guests.2 g.toNat).prog.1, I v, I (el b.guests g.toNat).pc, slv (el b.guests g.toNat).written.length (q1.guests.2 g.toNat).written.1, slv (el b.guests g.toNat).live.length (q1.guests.2 g.toNat).live.1, I (el b.guests g.toNat).ctl.traps, I (el b.guests g.toNat).ctl.post, B (el b.guests g.toNat).ctl.opn, I (el b.guests g.toNat).pend, I (el b.guests g.toNat).exit.kind, I (el b.guests g.toNat).exit.page, B (el b.guests g.toNat).exit.wr, I (el b.guests g.toNat).exit.n, B (el b.guests g.toNat).halted, slv (el b.guests g.toNat).seen.length (q1.guests.2 g.toNat).seen.1]]⟩)
  replace S := S.cast (σ' := ⟨[(3, .p 0 0), (6, .p 1 0), (42, .v (GT.val (f_moved ({ (⟨(el b.guests g.toNat).prog, v, (el b.guests g.toNat).pc, (el b.guests g.toNat).written, (el b.guests g.toNat).live, (el b.guests g.toNat).ctl, (el b.guests g.toNat).pend, (el b.guests g.toNat).exit, (el b.guests g.toNat).halted, (el b.guests g.toNat).seen⟩ : TGuest) with exit := (⟨0, 0, false, 0⟩ : TExit) } : TGuest)) q38)), (43, .v (pt q1.guests.1.b (q1.guests.1.off + g.toNat * 15)))], [[slv b.mem.length q1.mem.1, slv (b.guests.set g.toNat (f_moved ({ (⟨(el b.guests g.toNat).prog, v, (el b.guests g.toNat).pc, (el b.guests g.toNat).written, (el b.guests g.toNat).live, (el b.guests g.toNat).ctl, (el b.guests g.toNat).pend, (el b.guests g.toNat).exit, (el b.guests g.toNat).halted, (el b.guests g.toNat).seen⟩ : TGuest) with exit := (⟨0, 0, false, 0⟩ : TExit) } : TGuest))).length q1.guests.1, slv b.outs.length q1.outs.1, I b.pend], Zc TBare, [slv (el b.guests g.toNat).prog.length (q1.guests.2 g.toNat).prog.1, I v, I (el b.guests g.toNat).pc, slv (el b.guests g.toNat).written.length (q1.guests.2 g.toNat).written.1, slv (el b.guests g.toNat).live.length (q1.guests.2 g.toNat).live.1, I (el b.guests g.toNat).ctl.traps, I (el b.guests g.toNat).ctl.post, B (el b.guests g.toNat).ctl.opn, I (el b.guests g.toNat).pend, I (el b.guests g.toNat).exit.kind, I (el b.guests g.toNat).exit.page, B (el b.guests g.toNat).exit.wr, I (el b.guests g.toNat).exit.n, B (el b.guests g.toNat).halted, slv (el b.guests g.toNat).seen.length (q1.guests.2 g.toNat).seen.1]]⟩) (by rw [show (b.guests.set g.toNat (f_moved ({ (⟨(el b.guests g.toNat).prog, v, (el b.guests g.toNat).pc, (el b.guests g.toNat).written, (el b.guests g.toNat).live, (el b.guests g.toNat).ctl, (el b.guests g.toNat).pend, (el b.guests g.toNat).exit, (el b.guests g.toNat).halted, (el b.guests g.toNat).seen⟩ : TGuest) with exit := (⟨0, 0, false, 0⟩ : TExit) } : TGuest))).length = b.guests.length by omega])
  refine WD.done (by kernel_rfl) ?_ _
  refine S.ex fun S => ?_
  refine S.gr 9 .nil [GT.val (⟨b.mem, (b.guests.set g.toNat (f_moved ({ (⟨(el b.guests g.toNat).prog, v, (el b.guests g.toNat).pc, (el b.guests g.toNat).written, (el b.guests g.toNat).live, (el b.guests g.toNat).ctl, (el b.guests g.toNat).pend, (el b.guests g.toNat).exit, (el b.guests g.toNat).halted, (el b.guests g.toNat).seen⟩ : TGuest) with exit := (⟨0, 0, false, 0⟩ : TExit) } : TGuest))), b.outs, b.pend⟩ : TBare) (⟨q1.mem, (q1.guests.1, q48), q1.outs⟩ : PBare), B true] fun ac w β S => ?_
  have o55 := ow_Bare (x := (⟨b.mem, (b.guests.set g.toNat (f_moved ({ (⟨(el b.guests g.toNat).prog, v, (el b.guests g.toNat).pc, (el b.guests g.toNat).written, (el b.guests g.toNat).live, (el b.guests g.toNat).ctl, (el b.guests g.toNat).pend, (el b.guests g.toNat).exit, (el b.guests g.toNat).halted, (el b.guests g.toNat).seen⟩ : TGuest) with exit := (⟨0, 0, false, 0⟩ : TExit) } : TGuest))), b.outs, b.pend⟩ : TBare)) (p := (⟨q1.mem, (q1.guests.1, q48), q1.outs⟩ : PBare)) o6 o46 o12 d52 d16 (Disj.symm d53) i14
  exact ret2_of (p' := ()) S (show (f_bareAnswer b g v).1 = (⟨b.mem, (b.guests.set g.toNat (f_moved ({ (⟨(el b.guests g.toNat).prog, v, (el b.guests g.toNat).pc, (el b.guests g.toNat).written, (el b.guests g.toNat).live, (el b.guests g.toNat).ctl, (el b.guests g.toNat).pend, (el b.guests g.toNat).exit, (el b.guests g.toNat).halted, (el b.guests g.toNat).seen⟩ : TGuest) with exit := (⟨0, 0, false, 0⟩ : TExit) } : TGuest))), b.outs, b.pend⟩ : TBare) from k0_spec_BareAnswer) (show (f_bareAnswer b g v).2 = true from k0_spec_BareAnswer) rfl rfl o55 trivial
 refine S.gd 7 .nil ((el b.guests g.toNat).exit.kind == 3) (fun ac w β h56 g57 S => ?_) (fun ac w β h56 g57 S => ?_)
 ·refine S.go 5 .nil fun ac w β S => ?_
  refine drw ?_
  refine S.draw0 (f := 9) 8 (by kernel_rfl) (by kernel_rfl) fun w S => ?_
  refine S.hq 0 [0] [] [(36, .p 0 1)] .nil fun ac S => ?_
  refine S.hq 1 [1] [] [(37, .v (slv b.guests.length q1.guests.1))] .nil fun ac S => ?_
  refine S.hq 2 [2] [] [(38, .v (I g))] .nil fun ac S => ?_
  refine S.hq 3 [3] [] [(39, .v (GT.val (el b.guests g.toNat) (q1.guests.2 g.toNat)))] .nil fun ac S => ?_
  refine S.hq 4 [4] [] [(40, .v (GT.val (⟨0, 0, false, 0⟩ : TExit) ()))] (.cons (Q_sem (s := Instr.build 79 [].toArray) (v := .agg [I 0, I 0, B false, I 0].toArray) (fun w => by kernel_rfl)) .nil) fun ac S => ?_
  refine WD.one (i := 5) (by kernel_rfl) ?_
  refine id (S.k1 41 (c_spec_Stopped w (el b.guests g.toNat) (q1.guests.2 g.toNat) (S.rd (LRd.el o9.rn g.toNat (by omega))) (⟨0, 0, false, 0⟩ : TExit) (show RExit (⟨0, 0, false, 0⟩ : TExit) from ⟨(show In64 0 from ⟨by decide, by decide⟩), (show In64 0 from ⟨by decide, by decide⟩), (show In64 0 from ⟨by decide, by decide⟩)⟩)) fun ac w N q58 F59 S up o60 d61 => ?_)
  refine WD.next S up (by kernel_rfl) ?_
  replace o6 := o6.up up
  replace o9 := o9.up up
  replace o12 := o12.up up
  clear up d61
  refine WD.one (i := 6) (by kernel_rfl) ?_
  refine id (S.k1 42 (c_spec_Moved w ({ (el b.guests g.toNat) with exit := (⟨0, 0, false, 0⟩ : TExit) } : TGuest) q58 (S.rd o60.rn)) fun ac w N q65 F66 S up o67 d68 => ?_)
  refine WD.next S up (by kernel_rfl) ?_
  have d69 := Disj.w d68 o6.sub
  have d70 := Disj.w d68 o9.sub
  have d71 := Disj.w d68 o12.sub
  replace o6 := o6.up up
  replace o9 := o9.up up
  replace o12 := o12.up up
  clear up d68
  refine S.hq 7 [7] [] [(43, .v (pt q1.guests.1.b (q1.guests.1.off + g.toNat * 15)))] (.cons (qt o9.rn g Tryz.underlying48) .nil) fun ac S => ?_
  refine WD.one (i := 8) (by kernel_rfl) ?_
  refine id (S.sV (α := TGuest) o9 (t := 81) (k := g.toNat) (off := q1.guests.1.off + g.toNat * 15) o67 d70 fun w N F74 q75 S up o73 d76 s77 n78 => ?_)
  refine WD.last (by kernel_rfl) ?_
  have d79 := d76 _ d15 d69 o6.sub
  have d80 := d76 _ (Disj.symm d17) d71 o12.sub
  replace o6 := o6.upF d15 up
  replace o12 := o12.upF (Disj.symm d17) up
  clear up d76 o9 n78
  have l81 : (b.guests.set g.toNat (f_moved ({ (el b.guests g.toNat) with exit := (⟨0, 0, false, 0⟩ : TExit) } : TGuest))).length = b.guests.length := List.length_set
  replace S := S.z (σ' := ⟨[(3, .p 0 0), (6, .p 1 0), (42, .v (GT.val (f_moved ({ (el b.guests g.toNat) with exit := (⟨0, 0, false, 0⟩ : TExit) } : TGuest)) q65)), (43, .v (pt q1.guests.1.b (q1.guests.1.off + g.toNat * 15)))], [[slv b.mem.length q1.mem.1, slv b.guests.length q1.guests.1, slv b.outs.length q1.outs.1, I b.pend], Zc TBare, GT.cells (el b.guests g.toNat) (q1.guests.2 g.toNat)]⟩)
  replace S := S.cast (σ' := ⟨[(3, .p 0 0), (6, .p 1 0), (42, .v (GT.val (f_moved ({ (el b.guests g.toNat) with exit := (⟨0, 0, false, 0⟩ : TExit) } : TGuest)) q65)), (43, .v (pt q1.guests.1.b (q1.guests.1.off + g.toNat * 15)))], [[slv b.mem.length q1.mem.1, slv (b.guests.set g.toNat (f_moved ({ (el b.guests g.toNat) with exit := (⟨0, 0, false, 0⟩ : TExit) } : TGuest))).length q1.guests.1, slv b.outs.length q1.outs.1, I b.pend], Zc TBare, GT.cells (el b.guests g.toNat) (q1.guests.2 g.toNat)]⟩) (by rw [show (b.guests.set g.toNat (f_moved ({ (el b.guests g.toNat) with exit := (⟨0, 0, false, 0⟩ : TExit) } : TGuest))).length = b.guests.length by omega])
  refine WD.done (by kernel_rfl) ?_ _
  refine S.ex fun S => ?_
  refine S.gr 9 .nil [GT.val (⟨b.mem, (b.guests.set g.toNat (f_moved ({ (el b.guests g.toNat) with exit := (⟨0, 0, false, 0⟩ : TExit) } : TGuest))), b.outs, b.pend⟩ : TBare) (⟨q1.mem, (q1.guests.1, q75), q1.outs⟩ : PBare), B true] fun ac w β S => ?_
  have o82 := ow_Bare (x := (⟨b.mem, (b.guests.set g.toNat (f_moved ({ (el b.guests g.toNat) with exit := (⟨0, 0, false, 0⟩ : TExit) } : TGuest))), b.outs, b.pend⟩ : TBare)) (p := (⟨q1.mem, (q1.guests.1, q75), q1.outs⟩ : PBare)) o6 o73 o12 d79 d16 (Disj.symm d80) i14
  exact ret2_of (p' := ()) S (show (f_bareAnswer b g v).1 = (⟨b.mem, (b.guests.set g.toNat (f_moved ({ (el b.guests g.toNat) with exit := (⟨0, 0, false, 0⟩ : TExit) } : TGuest))), b.outs, b.pend⟩ : TBare) from k0_spec_BareAnswer) (show (f_bareAnswer b g v).2 = true from k0_spec_BareAnswer) rfl rfl o82 trivial
 refine S.gr 9 .nil [GT.val b q1, B false] fun ac w β S => ?_
 have o83 := ow_Bare (x := b) (p := q1) o6 o9 o12 d15 d16 d17 i14
 exact ret2_of (p' := ()) S (show (f_bareAnswer b g v).1 = b from k0_spec_BareAnswer) (show (f_bareAnswer b g v).2 = false from k0_spec_BareAnswer) rfl rfl o83 trivial

theorem k0_spec_BareResume {p : Prop} (h : p := by clear S; (first | (unfold f_bareResume; rw [changed_out (by assumption)]; done) | (rw [resume_fault (by assumption) (by assumption)]; done) | (rw [resume_halt (by assumption) (by assumption)]; done) | (rw [resume_none (by assumption) (by omega) (by omega)]; done))) : p := h
theorem c_spec_BareResume (w0 : World) (b : TBare) (pb : PBare) (hb : RD w0 b pb) (g : Int) : Calls Tryz.prog 22 [GT.val b pb, I g].toArray w0 (Ret2 NoB w0 ((f_bareResume b g).1 : TBare) ((f_bareResume b g).2 : Bool)) := by
 refine Calls.run NoB Tryz.func22 ?_
 intro ac β S
 have hleb_mem : b.mem.length ≤ 4194304 := LRd.le (RBare.mem (d := b) hb)
 have hleb_guests : b.guests.length ≤ 4194304 := LRd.le (RBare.guests (d := b) hb)
 have hleb_outs : b.outs.length ≤ 4194304 := LRd.le (RBare.outs (d := b) hb)
 refine S.go 10 .nil fun ac w β S => S.K1 (r := b) (d := 8) (c_spec_l17Copy w b pb (S.rd (S.arg hb))) fun ac w N q1 F2 S up o3 d4 => ?_
 clear up d4
 have i14 : In64 b.pend := RBare.pend (d := b) o3.rn
 obtain ⟨F5, F8, F11, o6, o9, o12, _, _, _, d15, d16, d17⟩ := sp_Bare o3
 refine S.gb 12 (.cons (Q_call fun w hw => c_spec_l19Is w b q1 (rd_of (show GT.rd KK _ _ b q1 from ⟨o6.rn, o9.rn, o12.rn, i14⟩) hw) g) .nil) (!(f_l19Is b g)) (fun ac w β h18 S => ?_) (fun ac w β h18 S => ?_)
 ·have h19 := not_t h18
  refine S.gr 9 .nil [GT.val b q1, B false] fun ac w β S => ?_
  have o20 := ow_Bare (x := b) (p := q1) o6 o9 o12 d15 d16 d17 i14
  exact ret2_of (p' := ()) S (show (f_bareResume b g).1 = b from k0_spec_BareResume) (show (f_bareResume b g).2 = false from k0_spec_BareResume) rfl rfl o20 trivial
 have h21 := not_f h18
 have g22 := l19Is_t h21
 refine S.gd 29 (.cons (qt o9.rn g Tryz.underlying48) (.cons (qs o9.rn 81 g.toNat) .nil)) ((el b.guests g.toNat).exit.kind == 1) (fun ac w β h23 g24 S => ?_) (fun ac w β h23 g24 S => ?_)
 ·refine S.go 1 .nil fun ac w β S => ?_
  refine drw ?_
  refine S.draw0 (f := 8) 7 (by kernel_rfl) (by kernel_rfl) fun w S => ?_
  refine S.hq 0 [0] [] [(25, .p 0 1)] .nil fun ac S => ?_
  refine S.hq 1 [1] [] [(26, .v (slv b.guests.length q1.guests.1))] .nil fun ac S => ?_
  refine S.hq 2 [2] [] [(27, .v (I g))] .nil fun ac S => ?_
  refine S.hq 3 [3] [] [(28, .v (GT.val (el b.guests g.toNat) (q1.guests.2 g.toNat)))] .nil fun ac S => ?_
  refine S.hq 4 [4] [] [(29, .v (GT.val (⟨0, 0, false, 0⟩ : TExit) ()))] (.cons (Q_sem (s := Instr.build 79 [].toArray) (v := .agg [I 0, I 0, B false, I 0].toArray) (fun w => by kernel_rfl)) .nil) fun ac S => ?_
  refine WD.one (i := 5) (by kernel_rfl) ?_
  refine id (S.k1 30 (c_spec_Stopped w (el b.guests g.toNat) (q1.guests.2 g.toNat) (S.rd (LRd.el o9.rn g.toNat (by omega))) (⟨0, 0, false, 0⟩ : TExit) (show RExit (⟨0, 0, false, 0⟩ : TExit) from ⟨(show In64 0 from ⟨by decide, by decide⟩), (show In64 0 from ⟨by decide, by decide⟩), (show In64 0 from ⟨by decide, by decide⟩)⟩)) fun ac w N q25 F26 S up o27 d28 => ?_)
  refine WD.next S up (by kernel_rfl) ?_
  have d29 := Disj.w d28 o6.sub
  have d30 := Disj.w d28 o9.sub
  have d31 := Disj.w d28 o12.sub
  replace o6 := o6.up up
  replace o9 := o9.up up
  replace o12 := o12.up up
  clear up d28
  refine S.hq 6 [6] [] [(31, .v (pt q1.guests.1.b (q1.guests.1.off + g.toNat * 15)))] (.cons (qt o9.rn g Tryz.underlying48) .nil) fun ac S => ?_
  refine WD.one (i := 7) (by kernel_rfl) ?_
  refine id (S.sV (α := TGuest) o9 (t := 81) (k := g.toNat) (off := q1.guests.1.off + g.toNat * 15) o27 d30 fun w N F33 q34 S up o32 d35 s36 n37 => ?_)
  refine WD.last (by kernel_rfl) ?_
  have d38 := d35 _ d15 d29 o6.sub
  have d39 := d35 _ (Disj.symm d17) d31 o12.sub
  replace o6 := o6.upF d15 up
  replace o12 := o12.upF (Disj.symm d17) up
  clear up d35 o9 n37
  have l40 : (b.guests.set g.toNat ({ (el b.guests g.toNat) with exit := (⟨0, 0, false, 0⟩ : TExit) } : TGuest)).length = b.guests.length := List.length_set
  replace S := S.z (σ' := ⟨[(2, .p 0 0), (4, .p 1 0), (30, .v (GT.val ({ (el b.guests g.toNat) with exit := (⟨0, 0, false, 0⟩ : TExit) } : TGuest) q25)), (31, .v (pt q1.guests.1.b (q1.guests.1.off + g.toNat * 15)))], [[slv b.mem.length q1.mem.1, slv b.guests.length q1.guests.1, slv b.outs.length q1.outs.1, I b.pend], Zc TBare, GT.cells (el b.guests g.toNat) (q1.guests.2 g.toNat)]⟩)
  replace S := S.cast (σ' := ⟨[(2, .p 0 0), (4, .p 1 0), (30, .v (GT.val ({ (el b.guests g.toNat) with exit := (⟨0, 0, false, 0⟩ : TExit) } : TGuest) q25)), (31, .v (pt q1.guests.1.b (q1.guests.1.off + g.toNat * 15)))], [[slv b.mem.length q1.mem.1, slv (b.guests.set g.toNat ({ (el b.guests g.toNat) with exit := (⟨0, 0, false, 0⟩ : TExit) } : TGuest)).length q1.guests.1, slv b.outs.length q1.outs.1, I b.pend], Zc TBare, GT.cells (el b.guests g.toNat) (q1.guests.2 g.toNat)]⟩) (by rw [show (b.guests.set g.toNat ({ (el b.guests g.toNat) with exit := (⟨0, 0, false, 0⟩ : TExit) } : TGuest)).length = b.guests.length by omega])
  refine WD.done (by kernel_rfl) ?_ _
  refine S.ex fun S => ?_
  refine S.gr 10 .nil [GT.val (⟨b.mem, (b.guests.set g.toNat ({ (el b.guests g.toNat) with exit := (⟨0, 0, false, 0⟩ : TExit) } : TGuest)), b.outs, b.pend⟩ : TBare) (⟨q1.mem, (q1.guests.1, q34), q1.outs⟩ : PBare), B true] fun ac w β S => ?_
  have o41 := ow_Bare (x := (⟨b.mem, (b.guests.set g.toNat ({ (el b.guests g.toNat) with exit := (⟨0, 0, false, 0⟩ : TExit) } : TGuest)), b.outs, b.pend⟩ : TBare)) (p := (⟨q1.mem, (q1.guests.1, q34), q1.outs⟩ : PBare)) o6 o32 o12 d38 d16 (Disj.symm d39) i14
  exact ret2_of (p' := ()) S (show (f_bareResume b g).1 = (⟨b.mem, (b.guests.set g.toNat ({ (el b.guests g.toNat) with exit := (⟨0, 0, false, 0⟩ : TExit) } : TGuest)), b.outs, b.pend⟩ : TBare) from k0_spec_BareResume) (show (f_bareResume b g).2 = true from k0_spec_BareResume) rfl rfl o41 trivial
 refine S.gd 7 .nil ((el b.guests g.toNat).exit.kind == 4) (fun ac w β h42 g43 S => ?_) (fun ac w β h42 g43 S => ?_)
 ·refine S.go 1 .nil fun ac w β S => ?_
  refine drw ?_
  refine S.draw0 (f := 9) 8 (by kernel_rfl) (by kernel_rfl) fun w S => ?_
  refine S.hq 0 [0] [] [(34, .p 0 1)] .nil fun ac S => ?_
  refine S.hq 1 [1] [] [(35, .v (slv b.guests.length q1.guests.1))] .nil fun ac S => ?_
  refine S.hq 2 [2] [] [(36, .v (I g))] .nil fun ac S => ?_
  refine S.hq 3 [3] [] [(37, .v (GT.val (el b.guests g.toNat) (q1.guests.2 g.toNat)))] .nil fun ac S => ?_
  refine S.hq 4 [4] [] [(38, .v (GT.val (⟨0, 0, false, 0⟩ : TExit) ()))] (.cons (Q_sem (s := Instr.build 79 [].toArray) (v := .agg [I 0, I 0, B false, I 0].toArray) (fun w => by kernel_rfl)) .nil) fun ac S => ?_
  refine WD.one (i := 5) (by kernel_rfl) ?_
  refine id (S.k1 39 (c_spec_Stopped w (el b.guests g.toNat) (q1.guests.2 g.toNat) (S.rd (LRd.el o9.rn g.toNat (by omega))) (⟨0, 0, false, 0⟩ : TExit) (show RExit (⟨0, 0, false, 0⟩ : TExit) from ⟨(show In64 0 from ⟨by decide, by decide⟩), (show In64 0 from ⟨by decide, by decide⟩), (show In64 0 from ⟨by decide, by decide⟩)⟩)) fun ac w N q44 F45 S up o46 d47 => ?_)
  refine WD.next S up (by kernel_rfl) ?_
  replace o6 := o6.up up
  replace o9 := o9.up up
  replace o12 := o12.up up
  clear up d47
  refine WD.one (i := 6) (by kernel_rfl) ?_
  refine id (S.k1 40 (c_spec_Held w ({ (el b.guests g.toNat) with exit := (⟨0, 0, false, 0⟩ : TExit) } : TGuest) q44 (S.rd o46.rn)) fun ac w N q51 F52 S up o53 d54 => ?_)
  refine WD.next S up (by kernel_rfl) ?_
  have d55 := Disj.w d54 o6.sub
  have d56 := Disj.w d54 o9.sub
  have d57 := Disj.w d54 o12.sub
  replace o6 := o6.up up
  replace o9 := o9.up up
  replace o12 := o12.up up
  clear up d54
  refine S.hq 7 [7] [] [(41, .v (pt q1.guests.1.b (q1.guests.1.off + g.toNat * 15)))] (.cons (qt o9.rn g Tryz.underlying48) .nil) fun ac S => ?_
  refine WD.one (i := 8) (by kernel_rfl) ?_
  refine id (S.sV (α := TGuest) o9 (t := 81) (k := g.toNat) (off := q1.guests.1.off + g.toNat * 15) o53 d56 fun w N F60 q61 S up o59 d62 s63 n64 => ?_)
  refine WD.last (by kernel_rfl) ?_
  have d65 := d62 _ d15 d55 o6.sub
  have d66 := d62 _ (Disj.symm d17) d57 o12.sub
  replace o6 := o6.upF d15 up
  replace o12 := o12.upF (Disj.symm d17) up
  clear up d62 o9 n64
  have l67 : (b.guests.set g.toNat (f_held ({ (el b.guests g.toNat) with exit := (⟨0, 0, false, 0⟩ : TExit) } : TGuest))).length = b.guests.length := List.length_set
  replace S := S.z (σ' := ⟨[(2, .p 0 0), (4, .p 1 0), (40, .v (GT.val (f_held ({ (el b.guests g.toNat) with exit := (⟨0, 0, false, 0⟩ : TExit) } : TGuest)) q51)), (41, .v (pt q1.guests.1.b (q1.guests.1.off + g.toNat * 15)))], [[slv b.mem.length q1.mem.1, slv b.guests.length q1.guests.1, slv b.outs.length q1.outs.1, I b.pend], Zc TBare, GT.cells (el b.guests g.toNat) (q1.guests.2 g.toNat)]⟩)
  replace S := S.cast (σ' := ⟨[(2, .p 0 0), (4, .p 1 0), (40, .v (GT.val (f_held ({ (el b.guests g.toNat) with exit := (⟨0, 0, false, 0⟩ : TExit) } : TGuest)) q51)), (41, .v (pt q1.guests.1.b (q1.guests.1.off + g.toNat * 15)))], [[slv b.mem.length q1.mem.1, slv (b.guests.set g.toNat (f_held ({ (el b.guests g.toNat) with exit := (⟨0, 0, false, 0⟩ : TExit) } : TGuest))).length q1.guests.1, slv b.outs.length q1.outs.1, I b.pend], Zc TBare, GT.cells (el b.guests g.toNat) (q1.guests.2 g.toNat)]⟩) (by rw [show (b.guests.set g.toNat (f_held ({ (el b.guests g.toNat) with exit := (⟨0, 0, false, 0⟩ : TExit) } : TGuest))).length = b.guests.length by omega])
  refine WD.done (by kernel_rfl) ?_ _
  refine S.ex fun S => ?_
  refine S.gr 10 .nil [GT.val (⟨b.mem, (b.guests.set g.toNat (f_held ({ (el b.guests g.toNat) with exit := (⟨0, 0, false, 0⟩ : TExit) } : TGuest))), b.outs, b.pend⟩ : TBare) (⟨q1.mem, (q1.guests.1, q61), q1.outs⟩ : PBare), B true] fun ac w β S => ?_
  have o68 := ow_Bare (x := (⟨b.mem, (b.guests.set g.toNat (f_held ({ (el b.guests g.toNat) with exit := (⟨0, 0, false, 0⟩ : TExit) } : TGuest))), b.outs, b.pend⟩ : TBare)) (p := (⟨q1.mem, (q1.guests.1, q61), q1.outs⟩ : PBare)) o6 o59 o12 d65 d16 (Disj.symm d66) i14
  exact ret2_of (p' := ()) S (show (f_bareResume b g).1 = (⟨b.mem, (b.guests.set g.toNat (f_held ({ (el b.guests g.toNat) with exit := (⟨0, 0, false, 0⟩ : TExit) } : TGuest))), b.outs, b.pend⟩ : TBare) from k0_spec_BareResume) (show (f_bareResume b g).2 = true from k0_spec_BareResume) rfl rfl o68 trivial
 refine S.gr 9 .nil [GT.val b q1, B false] fun ac w β S => ?_
 have o69 := ow_Bare (x := b) (p := q1) o6 o9 o12 d15 d16 d17 i14
 exact ret2_of (p' := ()) S (show (f_bareResume b g).1 = b from k0_spec_BareResume) (show (f_bareResume b g).2 = false from k0_spec_BareResume) rfl rfl o69 trivial

theorem k0_spec_PostIrq {p : Prop} (h : p := by clear S; (unfold f_postIrq; (repeat' split) <;> first | rfl | (exfalso; omega) | (exfalso; simp_all; done) | (exfalso; simp_all; omega))) : p := h
theorem c_spec_PostIrq (w0 : World) (p : Int) (hp : In64 p) (n : Int) : Calls Tryz.prog 74 [I p, I n].toArray w0 (fun e w' => e = .returned (.tuple #[I (f_postIrq p n).1, B (f_postIrq p n).2]) ∧ Chg NoB w0 w') := by
 refine Calls.run NoB Tryz.func74 ?_
 intro ac β S
 have hlop := hp.lo; have hhip := hp.hi
 refine S.gb 13 (.cons (Q_call fun w hw => c_spec_PendOk w p) .nil) (!(f_within p 0 255)) (fun ac w β h1 S => ?_) (fun ac w β h1 S => ?_)
 ·have h2 := not_t h1
  have g3 := within_f h2
  exact S.gf 15 .nil [I p, B false] (ret2v (eqI (show p = (f_postIrq p n).1 from k0_spec_PostIrq)) (eqB (show false = (f_postIrq p n).2 from k0_spec_PostIrq)))
 have h4 := not_f h1
 have g5 := within_t h4
 refine S.gb 6 (.cons (Q_call fun w hw => c_spec_l01In w n 0 7) .nil) (!(f_within n 0 7)) (fun ac w β h6 S => ?_) (fun ac w β h6 S => ?_)
 ·have h7 := not_t h6
  have g8 := within_f h7
  exact S.gf 9 .nil [I p, B false] (ret2v (eqI (show p = (f_postIrq p n).1 from k0_spec_PostIrq)) (eqB (show false = (f_postIrq p n).2 from k0_spec_PostIrq)))
 have h9 := not_f h6
 have g10 := within_t h9
 exact S.gf 15 (.cons (Q_convu (s := 3) (d := 131) (x := n) Tryz.underlying3 Tryz.underlying131 (by omega) (by omega)) (.cons (Q_shl (yk := .u64) (x := 1) (y := n) (by omega)) (.cons (Q_lor64 (x := p) (y := (shl64 1 n))) .nil))) [I (lor64 p (shl64 1 n)), B true] (ret2v (eqI (show (lor64 p (shl64 1 n)) = (f_postIrq p n).1 from k0_spec_PostIrq)) (eqB (show true = (f_postIrq p n).2 from k0_spec_PostIrq)))

theorem k0_spec_BareInject {p : Prop} (h : p := by clear S; (first | (rw [inject_out (by assumption)]; done) | (rw [inject_in (by assumption)]; done))) : p := h
theorem c_spec_BareInject (w0 : World) (b : TBare) (pb : PBare) (hb : RD w0 b pb) (g : Int) (n : Int) : Calls Tryz.prog 23 [GT.val b pb, I g, I n].toArray w0 (Ret2 NoB w0 ((f_bareInject b g n).1 : TBare) ((f_bareInject b g n).2 : Bool)) := by
 refine Calls.run NoB Tryz.func23 ?_
 intro ac β S
 have hleb_mem : b.mem.length ≤ 4194304 := LRd.le (RBare.mem (d := b) hb)
 have hleb_guests : b.guests.length ≤ 4194304 := LRd.le (RBare.guests (d := b) hb)
 have hleb_outs : b.outs.length ≤ 4194304 := LRd.le (RBare.outs (d := b) hb)
 refine S.go 10 .nil fun ac w β S => S.K1 (r := b) (d := 11) (c_spec_l17Copy w b pb (S.rd (S.arg hb))) fun ac w N q1 F2 S up o3 d4 => ?_
 clear up d4
 have i14 : In64 b.pend := RBare.pend (d := b) o3.rn
 obtain ⟨F5, F8, F11, o6, o9, o12, _, _, _, d15, d16, d17⟩ := sp_Bare o3
 refine S.gb 12 (.cons (Q_call fun w hw => c_spec_l19Is w b q1 (rd_of (show GT.rd KK _ _ b q1 from ⟨o6.rn, o9.rn, o12.rn, i14⟩) hw) g) .nil) (!(f_l19Is b g)) (fun ac w β h18 S => ?_) (fun ac w β h18 S => ?_)
 ·have h19 := not_t h18
  refine S.gr 9 .nil [GT.val b q1, B false] fun ac w β S => ?_
  have o20 := ow_Bare (x := b) (p := q1) o6 o9 o12 d15 d16 d17 i14
  exact ret2_of (p' := ()) S (show (f_bareInject b g n).1 = b from k0_spec_BareInject) (show (f_bareInject b g n).2 = false from k0_spec_BareInject) rfl rfl o20 trivial
 have h21 := not_f h18
 have g22 := l19Is_t h21
 refine S.go 28 (.cons (qt o9.rn g Tryz.underlying48) (.cons (qc o9.rn 3 g.toNat 8 (I (el b.guests g.toNat).pend)) (.cons (Q_call fun w hw => c_spec_PostIrq w (el b.guests g.toNat).pend (RGuest.pend (d := (el b.guests g.toNat)) (LRd.el o9.rn g.toNat (by omega))) n) (.cons (qt o9.rn g Tryz.underlying48) .nil)))) fun ac w β S => S.SF (α := TGuest) o9 (t := 3) (k := g.toNat) (j := 8) (off := q1.guests.1.off + g.toNat * 15 + 8) (v := I (f_postIrq (el b.guests g.toNat).pend n).1) (y := ({ el b.guests g.toNat with pend := (f_postIrq (el b.guests g.toNat).pend n).1 } : TGuest)) (q := (q1.guests.2 g.toNat)) (fun G g_ _ => ⟨G, ows_Guest_pend g_ (postIrq_in64 (RGuest.pend (d := (el b.guests g.toNat)) (LRd.el o9.rn g.toNat (by omega)))), fun _ h => .inl h⟩) fun w N F24 q25 S up o23 d26 s27 n28 => ?_
 have d29 := d26 _ d15 (fun b _ h => False.elim h) o6.sub
 have d30 := d26 _ (Disj.symm d17) (fun b _ h => False.elim h) o12.sub
 replace o6 := o6.upF d15 up
 replace o12 := o12.upF (Disj.symm d17) up
 clear up d26 o9 n28
 have l31 : (b.guests.set g.toNat ({ el b.guests g.toNat with pend := (f_postIrq (el b.guests g.toNat).pend n).1 })).length = b.guests.length := List.length_set
 replace S := S.z (σ' := ⟨[(3, .p 0 0), (6, .p 1 0), (9, .v (B (f_postIrq (el b.guests g.toNat).pend n).2)), (31, .v (I (f_postIrq (el b.guests g.toNat).pend n).1)), (33, .v (pt q1.guests.1.b (q1.guests.1.off + g.toNat * 15 + 8)))], [[slv b.mem.length q1.mem.1, slv b.guests.length q1.guests.1, slv b.outs.length q1.outs.1, I b.pend], Zc TBare]⟩)
 replace S := S.cast (σ' := ⟨[(3, .p 0 0), (6, .p 1 0), (9, .v (B (f_postIrq (el b.guests g.toNat).pend n).2)), (31, .v (I (f_postIrq (el b.guests g.toNat).pend n).1)), (33, .v (pt q1.guests.1.b (q1.guests.1.off + g.toNat * 15 + 8)))], [[slv b.mem.length q1.mem.1, slv (b.guests.set g.toNat ({ el b.guests g.toNat with pend := (f_postIrq (el b.guests g.toNat).pend n).1 })).length q1.guests.1, slv b.outs.length q1.outs.1, I b.pend], Zc TBare]⟩) (by rw [show (b.guests.set g.toNat ({ el b.guests g.toNat with pend := (f_postIrq (el b.guests g.toNat).pend n).1 })).length = b.guests.length by omega])
 refine S.is fun S => ?_
 refine S.gr 11 .nil [GT.val (⟨b.mem, (b.guests.set g.toNat ({ el b.guests g.toNat with pend := (f_postIrq (el b.guests g.toNat).pend n).1 })), b.outs, b.pend⟩ : TBare) (⟨q1.mem, (q1.guests.1, q25), q1.outs⟩ : PBare), B (f_postIrq (el b.guests g.toNat).pend n).2] fun ac w β S => ?_
 have o32 := ow_Bare (x := (⟨b.mem, (b.guests.set g.toNat ({ el b.guests g.toNat with pend := (f_postIrq (el b.guests g.toNat).pend n).1 })), b.outs, b.pend⟩ : TBare)) (p := (⟨q1.mem, (q1.guests.1, q25), q1.outs⟩ : PBare)) o6 o23 o12 d29 d16 (Disj.symm d30) i14
 exact ret2_of (p' := ()) S (show (f_bareInject b g n).1 = (⟨b.mem, (b.guests.set g.toNat ({ el b.guests g.toNat with pend := (f_postIrq (el b.guests g.toNat).pend n).1 })), b.outs, b.pend⟩ : TBare) from k0_spec_BareInject) (show (f_bareInject b g n).2 = (f_postIrq (el b.guests g.toNat).pend n).2 from k0_spec_BareInject) rfl rfl o32 trivial

theorem c_spec_CtlOf (w0 : World) (a : TAct) (ha : RAct a) : Calls Tryz.prog 25 [GT.val a ()].toArray w0 (fun e w' => e = .returned (GT.val (f_ctlOf a) ()) ∧ Chg NoB w0 w') := by
 refine Calls.run NoB Tryz.func25 ?_
 intro ac β S
 exact S.gf 20 (.cons (Q_sem (s := Instr.build 59 [(0, I a.x), (1, I a.y), (2, B (a.z == 1))].toArray) (v := .agg [I a.x, I a.y, B (a.z == 1)].toArray) (fun w => by kernel_rfl)) .nil) [GT.val (⟨a.x, a.y, (a.z == 1)⟩ : TCtl) ()] (retV (p := ()) (by clear S; rfl))

theorem k0_spec_BareCtl {p : Prop} (h : p := by clear S; (first | (unfold f_bareCtl f_changed; rw [if_neg (by rintro ⟨h1, h2, h3⟩; (have h4 := l19Is_mk h1 h2); simp_all)]; done) | (unfold f_bareCtl f_changed; (have h1 := l19Is_t (by assumption)); rw [if_pos ⟨h1.1, h1.2, by assumption⟩]; done))) : p := h
theorem c_spec_BareCtl (w0 : World) (b : TBare) (pb : PBare) (hb : RD w0 b pb) (g : Int) (c : TCtl) (hc : RCtl c) : Calls Tryz.prog 24 [GT.val b pb, I g, GT.val c ()].toArray w0 (Ret2 NoB w0 ((f_bareCtl b g c).1 : TBare) ((f_bareCtl b g c).2 : Bool)) := by
 refine Calls.run NoB Tryz.func24 ?_
 intro ac β S
 have hleb_mem : b.mem.length ≤ 4194304 := LRd.le (RBare.mem (d := b) hb)
 have hleb_guests : b.guests.length ≤ 4194304 := LRd.le (RBare.guests (d := b) hb)
 have hleb_outs : b.outs.length ≤ 4194304 := LRd.le (RBare.outs (d := b) hb)
 refine S.go 11 .nil fun ac w β S => S.K1 (r := b) (d := 9) (c_spec_l17Copy w b pb (S.rd (S.arg hb))) fun ac w N q1 F2 S up o3 d4 => ?_
 clear up d4
 have i14 : In64 b.pend := RBare.pend (d := b) o3.rn
 obtain ⟨F5, F8, F11, o6, o9, o12, _, _, _, d15, d16, d17⟩ := sp_Bare o3
 refine S.gb 11 (.cons (Q_call fun w hw => c_spec_l19Is w b q1 (rd_of (show GT.rd KK _ _ b q1 from ⟨o6.rn, o9.rn, o12.rn, i14⟩) hw) g) .nil) (!(f_l19Is b g)) (fun ac w β h18 S => ?_) (fun ac w β h18 S => ?_)
 ·have h19 := not_t h18
  refine S.gr 15 .nil [GT.val b q1, B false] fun ac w β S => ?_
  have o20 := ow_Bare (x := b) (p := q1) o6 o9 o12 d15 d16 d17 i14
  exact ret2_of (p' := ()) S (show (f_bareCtl b g c).1 = b from k0_spec_BareCtl) (show (f_bareCtl b g c).2 = false from k0_spec_BareCtl) rfl rfl o20 trivial
 have h21 := not_f h18
 have g22 := l19Is_t h21
 refine S.gb 6 (.cons (Q_call fun w hw => c_spec_CtlOk w c) .nil) (!(f_ctlOk c)) (fun ac w β h23 S => ?_) (fun ac w β h23 S => ?_)
 ·have h24 := not_t h23
  refine S.gr 9 .nil [GT.val b q1, B false] fun ac w β S => ?_
  have o25 := ow_Bare (x := b) (p := q1) o6 o9 o12 d15 d16 d17 i14
  exact ret2_of (p' := ()) S (show (f_bareCtl b g c).1 = b from k0_spec_BareCtl) (show (f_bareCtl b g c).2 = false from k0_spec_BareCtl) rfl rfl o25 trivial
 have h26 := not_f h23
 refine S.go 11 (.cons (qt o9.rn g Tryz.underlying48) .nil) fun ac w β S => S.SF (α := TGuest) o9 (t := 59) (k := g.toNat) (j := 5) (off := q1.guests.1.off + g.toNat * 15 + 5) (v := GT.val c ()) (y := ({ el b.guests g.toNat with ctl := c } : TGuest)) (q := (q1.guests.2 g.toNat)) (fun G g_ _ => ⟨G, ows_Guest_ctl g_ hc, fun _ h => .inl h⟩) fun w N F28 q29 S up o27 d30 s31 n32 => ?_
 have d33 := d30 _ d15 (fun b _ h => False.elim h) o6.sub
 have d34 := d30 _ (Disj.symm d17) (fun b _ h => False.elim h) o12.sub
 replace o6 := o6.upF d15 up
 replace o12 := o12.upF (Disj.symm d17) up
 clear up d30 o9 n32
 have l35 : (b.guests.set g.toNat ({ el b.guests g.toNat with ctl := c })).length = b.guests.length := List.length_set
 replace S := S.z (σ' := ⟨[(3, .p 0 0), (6, .p 2 0), (23, .v (GT.val c ())), (25, .v (pt q1.guests.1.b (q1.guests.1.off + g.toNat * 15 + 5)))], [[slv b.mem.length q1.mem.1, slv b.guests.length q1.guests.1, slv b.outs.length q1.outs.1, I b.pend], GT.cells c (), Zc TBare]⟩)
 replace S := S.cast (σ' := ⟨[(3, .p 0 0), (6, .p 2 0), (23, .v (GT.val c ())), (25, .v (pt q1.guests.1.b (q1.guests.1.off + g.toNat * 15 + 5)))], [[slv b.mem.length q1.mem.1, slv (b.guests.set g.toNat ({ el b.guests g.toNat with ctl := c })).length q1.guests.1, slv b.outs.length q1.outs.1, I b.pend], GT.cells c (), Zc TBare]⟩) (by rw [show (b.guests.set g.toNat ({ el b.guests g.toNat with ctl := c })).length = b.guests.length by omega])
 refine S.is fun S => ?_
 refine S.gr 10 .nil [GT.val (⟨b.mem, (b.guests.set g.toNat ({ el b.guests g.toNat with ctl := c })), b.outs, b.pend⟩ : TBare) (⟨q1.mem, (q1.guests.1, q29), q1.outs⟩ : PBare), B true] fun ac w β S => ?_
 have o36 := ow_Bare (x := (⟨b.mem, (b.guests.set g.toNat ({ el b.guests g.toNat with ctl := c })), b.outs, b.pend⟩ : TBare)) (p := (⟨q1.mem, (q1.guests.1, q29), q1.outs⟩ : PBare)) o6 o27 o12 d33 d16 (Disj.symm d34) i14
 exact ret2_of (p' := ()) S (show (f_bareCtl b g c).1 = (⟨b.mem, (b.guests.set g.toNat ({ el b.guests g.toNat with ctl := c })), b.outs, b.pend⟩ : TBare) from k0_spec_BareCtl) (show (f_bareCtl b g c).2 = true from k0_spec_BareCtl) rfl rfl o36 trivial

theorem k0_spec_BarePoke {p : Prop} (h : p := by clear S; (first | (unfold f_barePoke; (repeat' split) <;> first | rfl | (exfalso; omega) | (exfalso; simp_all; done) | (exfalso; simp_all; omega) | (simp_all; done)))) : p := h
theorem c_spec_BarePoke (w0 : World) (b : TBare) (pb : PBare) (hb : RD w0 b pb) (page : Int) (cell : Int) (v : Int) (hv : In64 v) : Calls Tryz.prog 26 [GT.val b pb, I page, I cell, I v].toArray w0 (Ret2 NoB w0 ((f_barePoke b page cell v).1 : TBare) ((f_barePoke b page cell v).2 : Bool)) := by
 refine Calls.run NoB Tryz.func26 ?_
 intro ac β S
 have hleb_mem : b.mem.length ≤ 4194304 := LRd.le (RBare.mem (d := b) hb)
 have hleb_guests : b.guests.length ≤ 4194304 := LRd.le (RBare.guests (d := b) hb)
 have hleb_outs : b.outs.length ≤ 4194304 := LRd.le (RBare.outs (d := b) hb)
 have hlov := hv.lo; have hhiv := hv.hi
 refine S.go 10 .nil fun ac w β S => S.K1 (r := b) (d := 11) (c_spec_l17Copy w b pb (S.rd (S.arg hb))) fun ac w N q1 F2 S up o3 d4 => ?_
 clear up d4
 have i14 : In64 b.pend := RBare.pend (d := b) o3.rn
 obtain ⟨F5, F8, F11, o6, o9, o12, _, _, _, d15, d16, d17⟩ := sp_Bare o3
 refine S.gb 10 (.cons (Q_call fun w hw => c_spec_BareOk w b q1 (rd_of (show GT.rd KK _ _ b q1 from ⟨o6.rn, o9.rn, o12.rn, i14⟩) hw)) .nil) (!(f_bareOk b)) (fun ac w β h18 S => ?_) (fun ac w β h18 S => ?_)
 ·have h19 := not_t h18
  refine S.gr 25 .nil [GT.val b q1, B false] fun ac w β S => ?_
  have o20 := ow_Bare (x := b) (p := q1) o6 o9 o12 d15 d16 d17 i14
  exact ret2_of (p' := ()) S (show (f_barePoke b page cell v).1 = b from k0_spec_BarePoke) (show (f_barePoke b page cell v).2 = false from k0_spec_BarePoke) rfl rfl o20 trivial
 have h21 := not_f h18
 have g22 := bareOk_t h21
 refine S.gb 5 (.cons (Q_call fun w hw => c_spec_l01In w page 0 7) .nil) (!(f_within page 0 7)) (fun ac w β h23 S => ?_) (fun ac w β h23 S => ?_)
 ·have h24 := not_t h23
  have g25 := within_f h24
  refine S.gr 20 .nil [GT.val b q1, B false] fun ac w β S => ?_
  have o26 := ow_Bare (x := b) (p := q1) o6 o9 o12 d15 d16 d17 i14
  exact ret2_of (p' := ()) S (show (f_barePoke b page cell v).1 = b from k0_spec_BarePoke) (show (f_barePoke b page cell v).2 = false from k0_spec_BarePoke) rfl rfl o26 trivial
 have h27 := not_f h23
 have g28 := within_t h27
 refine S.gb 5 (.cons (Q_call fun w hw => c_spec_l01In w cell 0 3) .nil) (!(f_within cell 0 3)) (fun ac w β h29 S => ?_) (fun ac w β h29 S => ?_)
 ·have h30 := not_t h29
  have g31 := within_f h30
  refine S.gr 15 .nil [GT.val b q1, B false] fun ac w β S => ?_
  have o32 := ow_Bare (x := b) (p := q1) o6 o9 o12 d15 d16 d17 i14
  exact ret2_of (p' := ()) S (show (f_barePoke b page cell v).1 = b from k0_spec_BarePoke) (show (f_barePoke b page cell v).2 = false from k0_spec_BarePoke) rfl rfl o32 trivial
 have h33 := not_f h29
 have g34 := within_t h33
 refine S.gb 6 (.cons (Q_call fun w hw => c_spec_l01In w v 0 99) .nil) (!(f_within v 0 99)) (fun ac w β h35 S => ?_) (fun ac w β h35 S => ?_)
 ·have h36 := not_t h35
  have g37 := within_f h36
  refine S.gr 9 .nil [GT.val b q1, B false] fun ac w β S => ?_
  have o38 := ow_Bare (x := b) (p := q1) o6 o9 o12 d15 d16 d17 i14
  exact ret2_of (p' := ()) S (show (f_barePoke b page cell v).1 = b from k0_spec_BarePoke) (show (f_barePoke b page cell v).2 = false from k0_spec_BarePoke) rfl rfl o38 trivial
 have h39 := not_f h35
 have g40 := within_t h39
 refine S.go 10 .nil fun ac w β S => S.K1 (r := f_withCell b.mem page cell v) (d := 36) (c_spec_WithCell w b.mem q1.mem (S.rd o6.rn) page cell v hv) fun ac w N q41 F42 S up o43 d44 => ?_
 have d46 := Disj.w d44 o9.sub
 have d47 := Disj.w d44 o12.sub
 replace o9 := o9.up up
 replace o12 := o12.up up
 clear up d44
 refine S.gr 12 .nil [GT.val (⟨(f_withCell b.mem page cell v), b.guests, b.outs, b.pend⟩ : TBare) (⟨q41, q1.guests, q1.outs⟩ : PBare), B true] fun ac w β S => ?_
 have o48 := ow_Bare (x := (⟨(f_withCell b.mem page cell v), b.guests, b.outs, b.pend⟩ : TBare)) (p := (⟨q41, q1.guests, q1.outs⟩ : PBare)) o43 o9 o12 (Disj.symm d46) (Disj.symm d47) d17 i14
 exact ret2_of (p' := ()) S (show (f_barePoke b page cell v).1 = (⟨(f_withCell b.mem page cell v), b.guests, b.outs, b.pend⟩ : TBare) from k0_spec_BarePoke) (show (f_barePoke b page cell v).2 = true from k0_spec_BarePoke) rfl rfl o48 trivial

theorem k0_spec_Posts {p : Prop} (h : p := by clear S; first | rfl | (simp [f_posts, *]; done) | (simp [f_posts, *]; omega) | (simp_all [f_posts]; done) | (simp_all [f_posts]; omega)) : p := h
theorem c_spec_Posts (w0 : World) (c : TCtl) (n : Int) : Calls Tryz.prog 123 [GT.val c (), I n].toArray w0 (fun e w' => e = .returned (B (f_posts c n)) ∧ Chg NoB w0 w') := by
 refine Calls.run NoB Tryz.func123 ?_
 intro ac β S
 refine S.gb 11 (.cons (Q_call fun w hw => c_spec_CtlOk w c) .nil) (f_ctlOk c) (fun ac w β h1 S => ?_) (fun ac w β h1 S => ?_)
 ·refine S.gb 4 (.cons (Q_call fun w hw => c_spec_l01In w n 0 7) .nil) (f_within n 0 7) (fun ac w β h2 S => ?_) (fun ac w β h2 S => ?_)
  ·have g3 := within_t h2
   exact S.gf 12 (.cons (Q_convu (s := 3) (d := 131) (x := n) Tryz.underlying3 Tryz.underlying131 (by omega) (by omega)) (.cons (Q_shr (yk := .u64) (x := c.post) (y := n) (by omega)) (.cons (Q_land64 (x := (shr64 c.post n)) (y := 1)) .nil))) [B ((land64 (shr64 c.post n) 1) == 1)] (retB k0_spec_Posts)
  have g4 := within_f h2
  exact S.gf 12 .nil [B false] (retB k0_spec_Posts)
 exact S.gf 16 .nil [B false] (retB k0_spec_Posts)

theorem c_spec_PostedTo (w0 : World) (b : TBare) (pb : PBare) (hb : RD w0 b pb) (n : Int) : Calls Tryz.prog 76 [GT.val b pb, I n].toArray w0 (Ret1 NoB w0 (f_postedTo b n : List Int)) := by
 refine Calls.run NoB Tryz.func76 ?_
 intro ac β S
 have hleb_mem : b.mem.length ≤ 4194304 := LRd.le (RBare.mem (d := b) hb)
 have hleb_guests : b.guests.length ≤ 4194304 := LRd.le (RBare.guests (d := b) hb)
 have hleb_outs : b.outs.length ≤ 4194304 := LRd.le (RBare.outs (d := b) hb)
 refine S.go 8 .nil fun ac w β S => S.B0 (α := Int) (d := 7) fun ac w N q1 F2 S up o3 d4 => ?_
 clear up d4
 refine S.go 10 .nil fun ac w β S => ?_
 refine lp (fun mm ac w => ∃ (k : Nat) (acc : List Int) (q5 : _) (F6 : _) (u : _) (N : _) (β : _), mm = b.guests.length - k ∧ (k ≤ b.guests.length) ∧ (acc = f_idx k (fun i => f_posts (el b.guests i).ctl n)) ∧ St Tryz.prog Tryz.f76.ntmps w0 NoB u N β ⟨[(1, .v (I n)), (2, .p 0 0), (5, .v (slv acc.length q5.1)), (6, .v (I (k : Int)))], [GT.cells b pb]⟩ ac w ∧ Ow w0 NoB u N F6 acc q5) _ ⟨0, ([] : List Int), q1, F2, _, _, _, rfl, o0, (by rfl), S.z, o3⟩ ?_
 clear S o3
 rintro f8 mm hf9 ac w ⟨k, acc, q5, F6, u, N, β, rfl, hk, hacc, S, o7⟩
 refine S.rs fun S => ?_
 have hlacc : acc.length ≤ k := by rw [hacc]; exact idx_len _ _
 refine S.gd 10 .nil (decide ((k : Int) < (b.guests.length : Int))) (fun ac w β h10 g11 S => ?_) (fun ac w β h10 g11 S => ?_)
 ·refine S.gb 17 (.cons (qn (RBare.guests (d := b) (S.arg hb)) k Tryz.underlying48) (.cons (Q_sub_el (RBare.guests (d := b) (S.arg hb)) (t := 59) (k := k) (j := 5) (s := 3) (by omega) (by kernel_rfl) (by kernel_rfl) (by decide)) (.cons (Q_call fun w hw => c_spec_Posts w (el b.guests k).ctl n) .nil))) (f_posts (el b.guests k).ctl n) (fun ac w β h12 S => ?_) (fun ac w β h12 S => ?_)
  ·refine S.go 4 .nil fun ac w β S => S.B1 (α := Int) (x := (k : Int)) (p := ()) (F := NoB) ⟨by omega, by omega⟩ (fun b h => False.elim h) (fun b h => False.elim h) (d := 25) fun ac w N q13 F14 S up o15 d16 => ?_
   replace o7 := o7.up up
   clear up d16
   refine S.AF (α := Int) o7 o15.rn (fun _ _ h => h) (by' := 8) (d := 26) (lx := acc.length) (ly := 1) rfl rfl (show _ ≤ 4194304 by simp only [List.length_append, List.length_cons, List.length_nil]; omega) fun ac w N q18 F19 S up o20 d21 => ?_
   clear up d21
   refine S.ge 9 (.cons (qp (k : Int) 1) .nil) f8 fun ac w β S => hf9.of (b.guests.length - (k + 1)) _ _ (by omega) ⟨k + 1, (acc ++ [(k : Int)]), q18, F19, _, _, _, rfl, ?_, ?_, S.z, o20⟩
   ·exact oz
   ·clear S; (first | (rw [idx_step_t (by first | assumption | (simp [*]; done) | (simp; omega)), hacc]; done) | (rw [idx_step_f (by first | assumption | (simp [*]; done) | (simp; omega)), hacc]; done) | (rw [idx_step_t (by simp_all <;> fail), hacc]; done) | (rw [idx_step_f (by simp_all <;> fail), hacc]; done))
  refine S.ge 9 (.cons (qp (k : Int) 1) .nil) f8 fun ac w β S => hf9.of (b.guests.length - (k + 1)) _ _ (by omega) ⟨k + 1, acc, q5, F6, _, _, _, rfl, ?_, ?_, S.z, o7⟩
  ·exact oz
  ·clear S; (first | (rw [idx_step_t (by first | assumption | (simp [*]; done) | (simp; omega)), hacc]; done) | (rw [idx_step_f (by first | assumption | (simp [*]; done) | (simp; omega)), hacc]; done) | (rw [idx_step_t (by simp_all <;> fail), hacc]; done) | (rw [idx_step_f (by simp_all <;> fail), hacc]; done))
 refine S.gr 13 .nil [slv acc.length q5.1] fun ac w β S => ?_
 exact ret1_of S (show f_postedTo b n = acc by clear S; (unfold f_postedTo; rw [hacc, show b.guests.length = k by omega])) rfl o7

theorem k0_spec_BarePost {p : Prop} (h : p := by clear S; (first | (unfold f_barePost; rw [if_neg (by simp_all)]; done) | (unfold f_barePost; rw [if_pos ⟨by assumption, by omega, by omega⟩]; done) | (unfold f_barePost; rw [if_pos ⟨by assumption, by omega, by omega⟩, show (f_postedTo b n).foldl (stepPost n) b.guests = gs by rw [hg, take_all (by omega)], if_pos (by omega)]; done) | (unfold f_barePost; rw [if_pos ⟨by assumption, by omega, by omega⟩, show (f_postedTo b n).foldl (stepPost n) b.guests = gs by rw [hg, take_all (by omega)], if_neg (by omega)]; done))) : p := h
theorem c_spec_BarePost (w0 : World) (b : TBare) (pb : PBare) (hb : RD w0 b pb) (n : Int) : Calls Tryz.prog 27 [GT.val b pb, I n].toArray w0 (Ret2 NoB w0 ((f_barePost b n).1 : TBare) ((f_barePost b n).2 : Bool)) := by
 refine Calls.run NoB Tryz.func27 ?_
 intro ac β S
 have hleb_mem : b.mem.length ≤ 4194304 := LRd.le (RBare.mem (d := b) hb)
 have hleb_guests : b.guests.length ≤ 4194304 := LRd.le (RBare.guests (d := b) hb)
 have hleb_outs : b.outs.length ≤ 4194304 := LRd.le (RBare.outs (d := b) hb)
 refine S.go 10 .nil fun ac w β S => S.K1 (r := b) (d := 9) (c_spec_l17Copy w b pb (S.rd (S.arg hb))) fun ac w N q1 F2 S up o3 d4 => ?_
 clear up d4
 have i14 : In64 b.pend := RBare.pend (d := b) o3.rn
 obtain ⟨F5, F8, F11, o6, o9, o12, _, _, _, d15, d16, d17⟩ := sp_Bare o3
 refine S.gb 10 (.cons (Q_call fun w hw => c_spec_BareOk w b q1 (rd_of (show GT.rd KK _ _ b q1 from ⟨o6.rn, o9.rn, o12.rn, i14⟩) hw)) .nil) (!(f_bareOk b)) (fun ac w β h18 S => ?_) (fun ac w β h18 S => ?_)
 ·have h19 := not_t h18
  refine S.gr 15 .nil [GT.val b q1, B false] fun ac w β S => ?_
  have o20 := ow_Bare (x := b) (p := q1) o6 o9 o12 d15 d16 d17 i14
  exact ret2_of (p' := ()) S (show (f_barePost b n).1 = b from k0_spec_BarePost) (show (f_barePost b n).2 = false from k0_spec_BarePost) rfl rfl o20 trivial
 have h21 := not_f h18
 have g22 := bareOk_t h21
 refine S.gb 6 (.cons (Q_call fun w hw => c_spec_l01In w n 0 7) .nil) (!(f_within n 0 7)) (fun ac w β h23 S => ?_) (fun ac w β h23 S => ?_)
 ·have h24 := not_t h23
  have g25 := within_f h24
  refine S.gr 9 .nil [GT.val b q1, B false] fun ac w β S => ?_
  have o26 := ow_Bare (x := b) (p := q1) o6 o9 o12 d15 d16 d17 i14
  exact ret2_of (p' := ()) S (show (f_barePost b n).1 = b from k0_spec_BarePost) (show (f_barePost b n).2 = false from k0_spec_BarePost) rfl rfl o26 trivial
 have h27 := not_f h23
 have g28 := within_t h27
 refine S.go 7 .nil fun ac w β S => S.K1 (r := f_postedTo b n) (d := 21) (c_spec_PostedTo w b q1 (S.rd (show GT.rd KK _ _ b q1 from ⟨o6.rn, o9.rn, o12.rn, i14⟩)) n) fun ac w N q29 F30 S up o31 d32 => ?_
 have d34 := Disj.w d32 o9.sub
 replace o6 := o6.up up
 replace o9 := o9.up up
 replace o12 := o12.up up
 clear up d32
 refine S.go 10 .nil fun ac w β S => ?_
 refine lp (fun mm ac w => ∃ (k : Nat) (gs : List TGuest) (q36 : _) (F37 : _) (u : _) (N : _) (β : _), mm = (f_postedTo b n).length - k ∧ (k ≤ (f_postedTo b n).length) ∧ (gs = ((f_postedTo b n).take k).foldl (stepPost n) b.guests) ∧ (gs.length = b.guests.length) ∧ St Tryz.prog Tryz.f27.ntmps w0 NoB u N β ⟨[(1, .v (I n)), (2, .p 0 0), (4, .p 1 0), (6, .v (slv (f_postedTo b n).length q29.1)), (7, .v (I (k : Int)))], [[slv b.mem.length q1.mem.1, slv gs.length q36.1, slv b.outs.length q1.outs.1, I b.pend], Zc TBare]⟩ ac w ∧ Ow w0 NoB u N F37 gs q36 ∧ Ow w0 NoB u N F5 b.mem q1.mem ∧ Ow w0 NoB u N F11 b.outs q1.outs ∧ Ow w0 NoB u N F30 (f_postedTo b n) q29 ∧ Disj F37 F5 ∧ Disj F37 F11 ∧ Disj F37 F30) _ ⟨0, b.guests, q1.guests, F8, _, _, _, rfl, o0, (by rfl), (by rfl), S.z, o9, o6, o12, o31, (Disj.symm d15), d17, d34⟩ ?_
 clear S o12 o31 o6 o9
 rintro f42 mm hf43 ac w ⟨k, gs, q36, F37, u, N, β, rfl, hk, hg, hgl, S, o38, o6, o12, o31, d39, d40, d41⟩
 refine S.rs fun S => ?_
 have hix := postedTo_bd (b := b) (n := n) (k := k) (by omega)
 have hpl : (f_postedTo b n).length ≤ b.guests.length := idx_len _ _
 refine S.gd 9 .nil (decide ((k : Int) < ((f_postedTo b n).length : Int))) (fun ac w β h44 g45 S => ?_) (fun ac w β h44 g45 S => ?_)
 ·refine S.go 5 .nil fun ac w β S => ?_
  refine drw ?_
  let σ46 : Sy := ⟨[(1, .v (I n)), (2, .p 0 0), (4, .p 1 0), (6, .v (slv (f_postedTo b n).length q29.1)), (7, .v (I (k : Int))), (25, .v (B true))], [[slv b.mem.length q1.mem.1, slv gs.length q36.1, slv b.outs.length q1.outs.1, I b.pend], Zc TBare]⟩
  obtain ⟨u0, N0, β0, S, o38, o6, o12, o31⟩ : ∃ u0 N0 β0, St Tryz.prog Tryz.f27.ntmps w0 NoB u0 N0 β0 σ46 ac w ∧ Ow w0 NoB u0 N0 F37 gs q36 ∧ Ow w0 NoB u0 N0 F5 b.mem q1.mem ∧ Ow w0 NoB u0 N0 F11 b.outs q1.outs ∧ Ow w0 NoB u0 N0 F30 (f_postedTo b n) q29 := ⟨_, _, _, S.z, o38, o6, o12, o31⟩
  refine wp_region_cut (fun ac w => ∃ q59 F60 u N β, St Tryz.prog Tryz.f27.ntmps w0 NoB u N β (σ46.dl [25] [] 2 [(0, [slv b.mem.length q1.mem.1, slv (gs.set (el (f_postedTo b n) k).toNat ({ el gs (el (f_postedTo b n) k).toNat with pend := (f_postIrq (el gs (el (f_postedTo b n) k).toNat).pend n).1 })).length q59.1, slv b.outs.length q1.outs.1, I b.pend])]) ac w ∧ Ow w0 NoB u N F5 b.mem q1.mem ∧ Ow w0 NoB u N F11 b.outs q1.outs ∧ Ow w0 NoB u N F30 (f_postedTo b n) q29 ∧ Ow w0 NoB u N F60 (gs.set (el (f_postedTo b n) k).toNat ({ el gs (el (f_postedTo b n) k).toNat with pend := (f_postIrq (el gs (el (f_postedTo b n) k).toNat).pend n).1 })) q59 ∧ Disj F5 F60 ∧ Disj F11 F60 ∧ Disj F30 F60 ∧ In64 b.pend) ?_ ?_
  ·refine S.draw0 (f := 23) 22 (by kernel_rfl) (by kernel_rfl) fun w S => ?_
   refine S.hq 0 [0] [] [(29, .p 0 1)] .nil fun ac S => ?_
   refine S.hq 1 [1] [] [(30, .v (slv gs.length q36.1))] .nil fun ac S => ?_
   refine S.hq 2 [2] [] [(31, .v (slv (f_postedTo b n).length q29.1))] .nil fun ac S => ?_
   refine S.hq 3 [3] [] [(32, .v (I (k : Int)))] .nil fun ac S => ?_
   refine S.hq 4 [4] [] [(33, .v (pt q29.1.b (q29.1.off + k * 1)))] (.cons (qn o31.rn k Tryz.underlying41) .nil) fun ac S => ?_
   refine S.hq 5 [5] [] [(34, .v (I (el (f_postedTo b n) k)))] (.cons (qx o31.rn 3 k) .nil) fun ac S => ?_
   refine S.hq 6 [6] [] [(35, .p 0 1)] .nil fun ac S => ?_
   refine S.hq 7 [7] [] [(36, .v (slv gs.length q36.1))] .nil fun ac S => ?_
   refine S.hq 8 [8] [] [(37, .v (slv (f_postedTo b n).length q29.1))] .nil fun ac S => ?_
   refine S.hq 9 [9] [] [(38, .v (I (k : Int)))] .nil fun ac S => ?_
   refine S.hq 10 [10] [] [(39, .v (pt q29.1.b (q29.1.off + k * 1)))] (.cons (qn o31.rn k Tryz.underlying41) .nil) fun ac S => ?_
   refine S.hq 11 [11] [] [(40, .v (I (el (f_postedTo b n) k)))] (.cons (qx o31.rn 3 k) .nil) fun ac S => ?_
   refine S.hq 12 [12] [] [(41, .v (pt q36.1.b (q36.1.off + (el (f_postedTo b n) k).toNat * 15)))] (.cons (qt o38.rn (el (f_postedTo b n) k) Tryz.underlying48) .nil) fun ac S => ?_
   refine S.hq 13 [13] [] [(42, .v (pt q36.1.b (q36.1.off + (el (f_postedTo b n) k).toNat * 15 + 8)))] .nil fun ac S => ?_
   refine S.hq 14 [14] [] [(43, .v (I (el gs (el (f_postedTo b n) k).toNat).pend))] (.cons (qc o38.rn 3 ((el (f_postedTo b n) k).toNat) 8 (I (el gs (el (f_postedTo b n) k).toNat).pend)) .nil) fun ac S => ?_
   refine S.hq 15 [15] [] [(44, .v (I n))] .nil fun ac S => ?_
   refine WD.nameW fun W hW => ?_
   refine WD.castW (l' := mkL 23 [0, 1, 2, 3, 4, 5, 6, 7, 8, 9, 10, 11, 12, 13, 14, 15]) (by kernel_rfl) ?_
   have hK61 ac w q59 F60 u N β (S : St Tryz.prog Tryz.f27.ntmps w0 NoB u N β (σ46.dl [25] [] 2 [(0, [slv b.mem.length q1.mem.1, slv (gs.set (el (f_postedTo b n) k).toNat ({ el gs (el (f_postedTo b n) k).toNat with pend := (f_postIrq (el gs (el (f_postedTo b n) k).toNat).pend n).1 })).length q59.1, slv b.outs.length q1.outs.1, I b.pend])]) ac w) (o6 : Ow w0 NoB u N F5 b.mem q1.mem) (o12 : Ow w0 NoB u N F11 b.outs q1.outs) (o31 : Ow w0 NoB u N F30 (f_postedTo b n) q29) (o58 : Ow w0 NoB u N F60 (gs.set (el (f_postedTo b n) k).toNat ({ el gs (el (f_postedTo b n) k).toNat with pend := (f_postIrq (el gs (el (f_postedTo b n) k).toNat).pend n).1 })) q59) (d62 : Disj F5 F60) (d63 : Disj F11 F60) (d64 : Disj F30 F60) (i47 : In64 b.pend) : W 0 (mkL 23 [0, 1, 2, 3, 4, 5, 6, 7, 8, 9, 10, 11, 12, 13, 14, 15, 16, 17, 18, 19, 20, 21, 22]) ac w := by
    exact od hW ⟨rfl, q59, F60, _, _, _, S.z, o6, o12, o31, o58, d62, d63, d64, i47⟩
   have hK65 ac w u N β (S : St Tryz.prog Tryz.f27.ntmps w0 NoB u N β (σ46.dl [25] [(46, .v (I (f_postIrq (el gs (el (f_postedTo b n) k).toNat).pend n).1)), (49, .v (pt q36.1.b (q36.1.off + (el (f_postedTo b n) k).toNat * 15 + 8)))] 2 []) ac w) (o38 : Ow w0 NoB u N F37 gs q36) (o6 : Ow w0 NoB u N F5 b.mem q1.mem) (o12 : Ow w0 NoB u N F11 b.outs q1.outs) (o31 : Ow w0 NoB u N F30 (f_postedTo b n) q29) (i47 : In64 b.pend) (hNN : NN N0 u0 N u) (hBB : BB σ46.bx.length β0 β) : W 1 (mkL 23 [0, 1, 2, 3, 4, 5, 6, 7, 8, 9, 10, 11, 12, 13, 14, 15, 16, 17, 18, 19, 20, 21]) ac w := by
    refine ox1 hW 22 ?_
    refine id (S.sF (α := TGuest) o38 (t := 3) (k := (el (f_postedTo b n) k).toNat) (j := 8) (off := q36.1.off + (el (f_postedTo b n) k).toNat * 15 + 8) (v := I (f_postIrq (el gs (el (f_postedTo b n) k).toNat).pend n).1) (y := ({ el gs (el (f_postedTo b n) k).toNat with pend := (f_postIrq (el gs (el (f_postedTo b n) k).toNat).pend n).1 } : TGuest)) (q := (q36.2 (el (f_postedTo b n) k).toNat)) (fun G g_ _ => ⟨G, ows_Guest_pend g_ (postIrq_in64 (RGuest.pend (d := (el gs (el (f_postedTo b n) k).toNat)) (LRd.el o38.rn (el (f_postedTo b n) k).toNat (by omega)))), fun _ h => .inl h⟩) fun w N F67 q68 S up o66 d69 s70 n71 => ?_)
    refine WD.sl fun hC => ?_
    have d72 := d69 _ (Disj.symm d39) (fun b _ h => False.elim h) o6.sub
    have d73 := d69 _ (Disj.symm d40) (fun b _ h => False.elim h) o12.sub
    have d74 := d69 _ (Disj.symm d41) (fun b _ h => False.elim h) o31.sub
    replace o6 := o6.upF (Disj.symm d39) up
    replace o12 := o12.upF (Disj.symm d40) up
    replace o31 := o31.upF (Disj.symm d41) up
    clear up d69 o38 n71
    have l75 : (gs.set (el (f_postedTo b n) k).toNat ({ el gs (el (f_postedTo b n) k).toNat with pend := (f_postIrq (el gs (el (f_postedTo b n) k).toNat).pend n).1 })).length = gs.length := List.length_set
    replace S := S.z (σ' := ⟨[(1, .v (I n)), (2, .p 0 0), (4, .p 1 0), (6, .v (slv (f_postedTo b n).length q29.1)), (7, .v (I (k : Int))), (46, .v (I (f_postIrq (el gs (el (f_postedTo b n) k).toNat).pend n).1)), (49, .v (pt q36.1.b (q36.1.off + (el (f_postedTo b n) k).toNat * 15 + 8)))], [[slv b.mem.length q1.mem.1, slv gs.length q36.1, slv b.outs.length q1.outs.1, I b.pend], Zc TBare]⟩)
    replace S := S.cast (σ' := ⟨[(1, .v (I n)), (2, .p 0 0), (4, .p 1 0), (6, .v (slv (f_postedTo b n).length q29.1)), (7, .v (I (k : Int))), (46, .v (I (f_postIrq (el gs (el (f_postedTo b n) k).toNat).pend n).1)), (49, .v (pt q36.1.b (q36.1.off + (el (f_postedTo b n) k).toNat * 15 + 8)))], [[slv b.mem.length q1.mem.1, slv (gs.set (el (f_postedTo b n) k).toNat ({ el gs (el (f_postedTo b n) k).toNat with pend := (f_postIrq (el gs (el (f_postedTo b n) k).toNat).pend n).1 })).length q36.1, slv b.outs.length q1.outs.1, I b.pend], Zc TBare]⟩) (by rw [show (gs.set (el (f_postedTo b n) k).toNat ({ el gs (el (f_postedTo b n) k).toNat with pend := (f_postIrq (el gs (el (f_postedTo b n) k).toNat).pend n).1 })).length = gs.length by omega])
    exact S.wh hW [] hC fun _ S => hK61 _ _ (q36.1, q68) F67 _ _ _ S o6 o12 o31 o66 d72 d73 d74 i47
   have hK76 ac w u N β (S : St Tryz.prog Tryz.f27.ntmps w0 NoB u N β (σ46.dl [25] [(30, .v (slv gs.length q36.1)), (34, .v (I (el (f_postedTo b n) k))), (46, .v (I (f_postIrq (el gs (el (f_postedTo b n) k).toNat).pend n).1))] 2 []) ac w) (o38 : Ow w0 NoB u N F37 gs q36) (o6 : Ow w0 NoB u N F5 b.mem q1.mem) (o12 : Ow w0 NoB u N F11 b.outs q1.outs) (o31 : Ow w0 NoB u N F30 (f_postedTo b n) q29) (i47 : In64 b.pend) (hNN : NN N0 u0 N u) (hBB : BB σ46.bx.length β0 β) : W 3 (mkL 23 [0, 1, 2, 3, 4, 5, 6, 7, 8, 9, 10, 11, 12, 13, 14, 15, 16, 17, 18, 19]) ac w := by
    exact ox1 hW 20 (S.wq hW hNN hBB [21] (.cons (qt o38.rn (el (f_postedTo b n) k) Tryz.underlying48) .nil) fun _ _ _ S hB => hK65 _ _ _ _ _ S o38 o6 o12 o31 i47 hNN hB)
   have hNN : NN N0 u0 N0 u0 := fun b h => ⟨h, rfl⟩
   have hBB : BB σ46.bx.length β0 β0 := fun _ _ => rfl
   exact ox1 hW 16 (S.wq hW hNN hBB [17, 18, 19] (.cons (Q_call fun w hw => c_spec_PostIrq w (el gs (el (f_postedTo b n) k).toNat).pend (RGuest.pend (d := (el gs (el (f_postedTo b n) k).toNat)) (LRd.el o38.rn (el (f_postedTo b n) k).toNat (by omega))) n) .nil) fun _ _ _ S hB => hK76 _ _ _ _ _ S o38 o6 o12 o31 i14 hNN hB)
  clear S o38 o6 o12 o31
  rintro ac w ⟨q59, F60, u, N, β, S, o6, o12, o31, o58, d77, d78, d79, i47⟩
  refine S.ex fun S => ?_
  refine S.ge 7 (.cons (qp (k : Int) 1) .nil) f42 fun ac w β S => hf43.of ((f_postedTo b n).length - (k + 1)) _ _ (by omega) ⟨k + 1, (gs.set (el (f_postedTo b n) k).toNat ({ el gs (el (f_postedTo b n) k).toNat with pend := (f_postIrq (el gs (el (f_postedTo b n) k).toNat).pend n).1 })), q59, F60, _, _, _, rfl, ?_, ?_, ?_, S.z, o58, o6, o12, o31, (Disj.symm d77), (Disj.symm d78), (Disj.symm d79)⟩
  ·exact oz
  ·clear S; (rw [fold_step (by omega), ← hg]; rfl)
  ·clear S; (first | omega | (simp; omega))
 refine S.gd 14 .nil (((f_postedTo b n).length : Int) == 0) (fun ac w β h80 g81 S => ?_) (fun ac w β h80 g81 S => ?_)
 ·refine S.gr 21 (.cons (Q_call fun w hw => c_spec_PostIrq w b.pend i14 n) .nil) [GT.val (⟨b.mem, gs, b.outs, (f_postIrq b.pend n).1⟩ : TBare) (⟨q1.mem, q36, q1.outs⟩ : PBare), B true] fun ac w β S => ?_
  have o82 := ow_Bare (x := (⟨b.mem, gs, b.outs, (f_postIrq b.pend n).1⟩ : TBare)) (p := (⟨q1.mem, q36, q1.outs⟩ : PBare)) o6 o38 o12 (Disj.symm d39) d16 d40 (postIrq_in64 i14)
  exact ret2_of (p' := ()) S (show (f_barePost b n).1 = (⟨b.mem, gs, b.outs, (f_postIrq b.pend n).1⟩ : TBare) from k0_spec_BarePost) (show (f_barePost b n).2 = true from k0_spec_BarePost) rfl rfl o82 trivial
 refine S.gr 11 .nil [GT.val (⟨b.mem, gs, b.outs, b.pend⟩ : TBare) (⟨q1.mem, q36, q1.outs⟩ : PBare), B true] fun ac w β S => ?_
 have o83 := ow_Bare (x := (⟨b.mem, gs, b.outs, b.pend⟩ : TBare)) (p := (⟨q1.mem, q36, q1.outs⟩ : PBare)) o6 o38 o12 (Disj.symm d39) d16 d40 i14
 exact ret2_of (p' := ()) S (show (f_barePost b n).1 = (⟨b.mem, gs, b.outs, b.pend⟩ : TBare) from k0_spec_BarePost) (show (f_barePost b n).2 = true from k0_spec_BarePost) rfl rfl o83 trivial

theorem k0_spec_BareAck {p : Prop} (h : p := by clear S; (first | (rw [bareAck_ok (by assumption)]; done) | (unfold f_bareAck; (repeat' split) <;> first | rfl | (exfalso; omega) | (exfalso; simp_all; done) | (exfalso; simp_all; omega) | (simp_all; done)))) : p := h
theorem c_spec_BareAck (w0 : World) (b : TBare) (pb : PBare) (hb : RD w0 b pb) : Calls Tryz.prog 28 [GT.val b pb].toArray w0 (Ret3 NoB w0 ((f_bareAck b).1 : TBare) ((f_bareAck b).2.1 : Int) ((f_bareAck b).2.2 : Bool)) := by
 refine Calls.run NoB Tryz.func28 ?_
 intro ac β S
 have hleb_mem : b.mem.length ≤ 4194304 := LRd.le (RBare.mem (d := b) hb)
 have hleb_guests : b.guests.length ≤ 4194304 := LRd.le (RBare.guests (d := b) hb)
 have hleb_outs : b.outs.length ≤ 4194304 := LRd.le (RBare.outs (d := b) hb)
 refine S.go 11 .nil fun ac w β S => S.K1 (r := b) (d := 9) (c_spec_l17Copy w b pb (S.rd (S.arg hb))) fun ac w N q1 F2 S up o3 d4 => ?_
 clear up d4
 have i14 : In64 b.pend := RBare.pend (d := b) o3.rn
 obtain ⟨F5, F8, F11, o6, o9, o12, _, _, _, d15, d16, d17⟩ := sp_Bare o3
 refine S.gb 11 (.cons (Q_call fun w hw => c_spec_BareOk w b q1 (rd_of (show GT.rd KK _ _ b q1 from ⟨o6.rn, o9.rn, o12.rn, i14⟩) hw)) .nil) (!(f_bareOk b)) (fun ac w β h18 S => ?_) (fun ac w β h18 S => ?_)
 ·have h19 := not_t h18
  refine S.gr 10 .nil [GT.val b q1, I (-1), B false] fun ac w β S => ?_
  have o20 := ow_Bare (x := b) (p := q1) o6 o9 o12 d15 d16 d17 i14
  exact ret3_of (p' := ()) (p'' := ()) S (show (f_bareAck b).1 = b from k0_spec_BareAck) (show (f_bareAck b).2.1 = (-1) from k0_spec_BareAck) (show (f_bareAck b).2.2 = false from k0_spec_BareAck) rfl rfl rfl o20 (show In64 (-1) from ⟨by decide, by decide⟩) trivial
 have h21 := not_f h18
 have g22 := bareOk_t h21
 refine S.gr 35 (.cons (Q_call fun w hw => c_spec_TakeIrq w b.pend i14) .nil) [GT.val (⟨b.mem, b.guests, b.outs, (f_takeIrq b.pend).1⟩ : TBare) (⟨q1.mem, q1.guests, q1.outs⟩ : PBare), I (f_takeIrq b.pend).2.1, B (f_takeIrq b.pend).2.2] fun ac w β S => ?_
 have o23 := ow_Bare (x := (⟨b.mem, b.guests, b.outs, (f_takeIrq b.pend).1⟩ : TBare)) (p := (⟨q1.mem, q1.guests, q1.outs⟩ : PBare)) o6 o9 o12 d15 d16 d17 (takeIrq_in64 i14)
 exact ret3_of (p' := ()) (p'' := ()) S (show (f_bareAck b).1 = (⟨b.mem, b.guests, b.outs, (f_takeIrq b.pend).1⟩ : TBare) from k0_spec_BareAck) (show (f_bareAck b).2.1 = (f_takeIrq b.pend).2.1 from k0_spec_BareAck) (show (f_bareAck b).2.2 = (f_takeIrq b.pend).2.2 from k0_spec_BareAck) rfl rfl rfl o23 takeIrq_in64b trivial

theorem k0_spec_l20At {p : Prop} (h : p := by clear S; (unfold f_at; (repeat' split) <;> first | rfl | (exfalso; omega) | (exfalso; simp_all; done) | (exfalso; simp_all; omega) | (simp_all; done))) : p := h
theorem c_spec_l20At (w0 : World) (b : TBare) (pb : PBare) (hb : RD w0 b pb) (g : Int) (addr : Int) (haddr : In64 addr) (need : Int) : Calls Tryz.prog 78 [GT.val b pb, I g, I addr, I need].toArray w0 (fun e w' => e = .returned (.tuple #[I (f_at b g addr need).1, B (f_at b g addr need).2]) ∧ Chg NoB w0 w') := by
 refine Calls.run NoB Tryz.func78 ?_
 intro ac β S
 have hleb_mem : b.mem.length ≤ 4194304 := LRd.le (RBare.mem (d := b) hb)
 have hleb_guests : b.guests.length ≤ 4194304 := LRd.le (RBare.guests (d := b) hb)
 have hleb_outs : b.outs.length ≤ 4194304 := LRd.le (RBare.outs (d := b) hb)
 have hloaddr := haddr.lo; have hhiaddr := haddr.hi
 refine S.gb 15 (.cons (Q_call fun w hw => c_spec_l19Is w b pb (rd_of (S.arg hb) hw) g) .nil) (!(f_l19Is b g)) (fun ac w β h1 S => ?_) (fun ac w β h1 S => ?_)
 ·have h2 := not_t h1
  exact S.gf 14 .nil [I (-1), B false] (ret2v (eqI (show (-1) = (f_at b g addr need).1 from k0_spec_l20At)) (eqB (show false = (f_at b g addr need).2 from k0_spec_l20At)))
 have h3 := not_f h1
 have g4 := l19Is_t h3
 refine S.gb 6 (.cons (Q_call fun w hw => c_spec_l01In w addr 0 15) .nil) (!(f_within addr 0 15)) (fun ac w β h5 S => ?_) (fun ac w β h5 S => ?_)
 ·have h6 := not_t h5
  have g7 := within_f h6
  exact S.gf 8 .nil [I (-1), B false] (ret2v (eqI (show (-1) = (f_at b g addr need).1 from k0_spec_l20At)) (eqB (show false = (f_at b g addr need).2 from k0_spec_l20At)))
 have h8 := not_f h5
 have g9 := within_t h8
 exact S.gf 7 (.cons (qt (RBare.guests (d := b) (S.arg hb)) g Tryz.underlying48) (.cons (qc (RBare.guests (d := b) (S.arg hb)) 77 g.toNat 4 (slv (el b.guests g.toNat).live.length (pb.guests.2 g.toNat).live.1)) (.cons (Q_call fun w hw => c_spec_AddrPage w addr haddr) (.cons (Q_call fun w hw => c_spec_WalkInner w (el b.guests g.toNat).live (pb.guests.2 g.toNat).live (rd_of (RGuest.live (d := (el b.guests g.toNat)) (LRd.el (RBare.guests (d := b) (S.arg hb)) g.toNat (by omega))) hw) (f_addrPage addr) need) .nil)))) [I (f_walkInner (el b.guests g.toNat).live (f_addrPage addr) need).1, B (f_walkInner (el b.guests g.toNat).live (f_addrPage addr) need).2] (ret2v (eqI (show (f_walkInner (el b.guests g.toNat).live (f_addrPage addr) need).1 = (f_at b g addr need).1 from k0_spec_l20At)) (eqB (show (f_walkInner (el b.guests g.toNat).live (f_addrPage addr) need).2 = (f_at b g addr need).2 from k0_spec_l20At)))

theorem k0_spec_BareDma {p : Prop} (h : p := by clear S; (unfold f_bareDma; (repeat' split) <;> first | rfl | (exfalso; omega) | (exfalso; simp_all; done) | (exfalso; simp_all; omega) | (simp_all; done))) : p := h
theorem c_spec_BareDma (w0 : World) (b : TBare) (pb : PBare) (hb : RD w0 b pb) (g : Int) (addr : Int) (haddr : In64 addr) (v : Int) (hv : In64 v) : Calls Tryz.prog 29 [GT.val b pb, I g, I addr, I v].toArray w0 (Ret2 NoB w0 ((f_bareDma b g addr v).1 : TBare) ((f_bareDma b g addr v).2 : Bool)) := by
 refine Calls.run NoB Tryz.func29 ?_
 intro ac β S
 have hleb_mem : b.mem.length ≤ 4194304 := LRd.le (RBare.mem (d := b) hb)
 have hleb_guests : b.guests.length ≤ 4194304 := LRd.le (RBare.guests (d := b) hb)
 have hleb_outs : b.outs.length ≤ 4194304 := LRd.le (RBare.outs (d := b) hb)
 have hloaddr := haddr.lo; have hhiaddr := haddr.hi
 have hlov := hv.lo; have hhiv := hv.hi
 refine S.go 10 .nil fun ac w β S => S.K1 (r := b) (d := 13) (c_spec_l17Copy w b pb (S.rd (S.arg hb))) fun ac w N q1 F2 S up o3 d4 => ?_
 clear up d4
 have i14 : In64 b.pend := RBare.pend (d := b) o3.rn
 obtain ⟨F5, F8, F11, o6, o9, o12, _, _, _, d15, d16, d17⟩ := sp_Bare o3
 refine S.gb 22 (.cons (Q_call fun w hw => c_spec_l20At w b q1 (rd_of (show GT.rd KK _ _ b q1 from ⟨o6.rn, o9.rn, o12.rn, i14⟩) hw) g addr haddr 2) .nil) (!(f_at b g addr 2).2) (fun ac w β h18 S => ?_) (fun ac w β h18 S => ?_)
 ·have h19 := not_t h18
  refine S.gr 15 .nil [GT.val b q1, B false] fun ac w β S => ?_
  have o20 := ow_Bare (x := b) (p := q1) o6 o9 o12 d15 d16 d17 i14
  exact ret2_of (p' := ()) S (show (f_bareDma b g addr v).1 = b from k0_spec_BareDma) (show (f_bareDma b g addr v).2 = false from k0_spec_BareDma) rfl rfl o20 trivial
 have h21 := not_f h18
 refine S.gb 6 (.cons (Q_call fun w hw => c_spec_l01In w v 0 99) .nil) (!(f_within v 0 99)) (fun ac w β h22 S => ?_) (fun ac w β h22 S => ?_)
 ·have h23 := not_t h22
  have g24 := within_f h23
  refine S.gr 9 .nil [GT.val b q1, B false] fun ac w β S => ?_
  have o25 := ow_Bare (x := b) (p := q1) o6 o9 o12 d15 d16 d17 i14
  exact ret2_of (p' := ()) S (show (f_bareDma b g addr v).1 = b from k0_spec_BareDma) (show (f_bareDma b g addr v).2 = false from k0_spec_BareDma) rfl rfl o25 trivial
 have h26 := not_f h22
 have g27 := within_t h26
 refine S.go 4 .nil fun ac w β S => ?_
 refine drw ?_
 refine S.draw0 (f := 9) 8 (by kernel_rfl) (by kernel_rfl) fun w S => ?_
 refine S.hq 0 [0] [] [(29, .p 0 0)] .nil fun ac S => ?_
 refine S.hq 1 [1] [] [(30, .v (slv b.mem.length q1.mem.1))] .nil fun ac S => ?_
 refine S.hq 2 [2] [] [(31, .v (I (f_at b g addr 2).1))] .nil fun ac S => ?_
 refine S.hq 3 [3] [] [(32, .v (I addr))] .nil fun ac S => ?_
 refine S.hq 5 [5] [] [(34, .v (I v))] .nil fun ac S => ?_
 refine S.sq 4 [] [(33, .v (I (f_addrCell addr)))] 2 [] (.cons (Q_call fun w hw => c_spec_AddrCell w addr haddr) .nil) fun ac w β S => ?_
 refine WD.one (i := 6) (by kernel_rfl) ?_
 refine id (S.k1 35 (c_spec_WithCell w b.mem q1.mem (S.rd o6.rn) (f_at b g addr 2).1 (f_addrCell addr) v hv) fun ac w N q28 F29 S up o30 d31 => ?_)
 refine WD.next S up (by kernel_rfl) ?_
 have d33 := Disj.w d31 o9.sub
 have d34 := Disj.w d31 o12.sub
 replace o9 := o9.up up
 replace o12 := o12.up up
 clear up d31
 refine S.hq 7 [7] [] [(36, .p 0 0)] .nil fun ac S => ?_
 refine S.sl 8 [] [] 2 [(0, [slv (f_withCell b.mem (f_at b g addr 2).1 (f_addrCell addr) v).length q28.1, slv b.guests.length q1.guests.1, slv b.outs.length q1.outs.1, I b.pend])] .nil fun ac w β S => ?_
 refine WD.done (by kernel_rfl) ?_ _
 refine S.ex fun S => ?_
 refine S.gr 9 .nil [GT.val (⟨(f_withCell b.mem (f_at b g addr 2).1 (f_addrCell addr) v), b.guests, b.outs, b.pend⟩ : TBare) (⟨q28, q1.guests, q1.outs⟩ : PBare), B true] fun ac w β S => ?_
 have o35 := ow_Bare (x := (⟨(f_withCell b.mem (f_at b g addr 2).1 (f_addrCell addr) v), b.guests, b.outs, b.pend⟩ : TBare)) (p := (⟨q28, q1.guests, q1.outs⟩ : PBare)) o30 o9 o12 (Disj.symm d33) (Disj.symm d34) d17 i14
 exact ret2_of (p' := ()) S (show (f_bareDma b g addr v).1 = (⟨(f_withCell b.mem (f_at b g addr 2).1 (f_addrCell addr) v), b.guests, b.outs, b.pend⟩ : TBare) from k0_spec_BareDma) (show (f_bareDma b g addr v).2 = true from k0_spec_BareDma) rfl rfl o35 trivial

theorem k0_spec_BareRead {p : Prop} (h : p := by clear S; (first | (rw [bread_no (by assumption)]; done) | (rw [bread_yes (by assumption)]; done))) : p := h
theorem c_spec_BareRead (w0 : World) (b : TBare) (pb : PBare) (hb : RD w0 b pb) (g : Int) (addr : Int) (haddr : In64 addr) : Calls Tryz.prog 30 [GT.val b pb, I g, I addr].toArray w0 (fun e w' => e = .returned (.tuple #[I (f_bareRead b g addr).1, B (f_bareRead b g addr).2]) ∧ Chg NoB w0 w') := by
 refine Calls.run NoB Tryz.func30 ?_
 intro ac β S
 have hleb_mem : b.mem.length ≤ 4194304 := LRd.le (RBare.mem (d := b) hb)
 have hleb_guests : b.guests.length ≤ 4194304 := LRd.le (RBare.guests (d := b) hb)
 have hleb_outs : b.outs.length ≤ 4194304 := LRd.le (RBare.outs (d := b) hb)
 have hloaddr := haddr.lo; have hhiaddr := haddr.hi
 refine S.gb 27 (.cons (Q_call fun w hw => c_spec_l20At w b pb (rd_of (S.arg hb) hw) g addr haddr 1) .nil) (!(f_at b g addr 1).2) (fun ac w β h1 S => ?_) (fun ac w β h1 S => ?_)
 ·have h2 := not_t h1
  exact S.gf 8 .nil [I 0, B false] (ret2v (eqI (show 0 = (f_bareRead b g addr).1 from k0_spec_BareRead)) (eqB (show false = (f_bareRead b g addr).2 from k0_spec_BareRead)))
 have h3 := not_f h1
 exact S.gf 7 (.cons (Q_call fun w hw => c_spec_AddrCell w addr haddr) (.cons (Q_call fun w hw => c_spec_CellAt w b.mem pb.mem (rd_of (RBare.mem (d := b) (S.arg hb)) hw) (f_at b g addr 1).1 (f_addrCell addr)) .nil)) [I (f_cellAt b.mem (f_at b g addr 1).1 (f_addrCell addr)), B true] (ret2v (eqI (show (f_cellAt b.mem (f_at b g addr 1).1 (f_addrCell addr)) = (f_bareRead b g addr).1 from k0_spec_BareRead)) (eqB (show true = (f_bareRead b g addr).2 from k0_spec_BareRead)))

theorem k0_spec_BareAct {p : Prop} (h : p := by clear S; (first | (rw [bareAct_no (.inl (by assumption))]; done) | (rw [bareAct_no (.inr (by assumption))]; done) | (rw [bareAct_ack (by assumption) (by assumption) (by omega) (by omega)]; done) | (rw [bareAct_out (by assumption) (by assumption) (by omega) (by omega)]; done) | (rw [bareAct_in (by assumption) (by assumption) (by omega), act1 (by omega)]; first | done | rfl) | (rw [bareAct_in (by assumption) (by assumption) (by omega), act2 (by omega)]; first | done | rfl) | (rw [bareAct_in (by assumption) (by assumption) (by omega), act3 (by omega)]; first | done | rfl) | (rw [bareAct_in (by assumption) (by assumption) (by omega), act4 (by omega)]; first | done | rfl) | (rw [bareAct_in (by assumption) (by assumption) (by omega), act5 (by omega)]; first | done | rfl) | (rw [bareAct_in (by assumption) (by assumption) (by omega), act6 (by omega)]; first | done | rfl) | (rw [bareAct_in (by assumption) (by assumption) (by omega), act7 (by omega)]; first | done | rfl) | (rw [bareAct_in (by assumption) (by assumption) (by omega), act8 (by omega)]; first | done | rfl) | (rw [bareAct_in (by assumption) (by assumption) (by omega), act9 (by omega)]; first | done | rfl) | (rw [bareAct_in (by assumption) (by assumption) (by omega), act10 (by omega)]; first | done | rfl) | (rw [bareAct_in (by assumption) (by assumption) (by omega), act11 (by omega)]; first | done | rfl) | (rw [bareAct_in (by assumption) (by assumption) (by omega), act12 (by omega)]; first | done | rfl) | ((have hk := act_rng (by assumption) (by assumption)); rw [bareAct_in (by assumption) (by assumption) (by omega), act12 (by omega)]; first | done | rfl | (show _ = list.set _ _; exact (set_self0 (by omega)).symm) | (exact set_self0 (by omega))))) : p := h
theorem c_spec_BareAct (w0 : World) (list : List TBare) (plist : LP TBare) (hlist : RD w0 list plist) (a : TAct) (ha : RAct a) : Calls Tryz.prog 5 [slv list.length plist.1, GT.val a ()].toArray w0 (Ret2 NoB w0 ((f_bareAct list a).1 : List TBare) ((f_bareAct list a).2 : TTold)) := by
 refine Calls.run NoB Tryz.func5 ?_
 intro ac β S
 have hlelist : list.length ≤ 4194304 := LRd.le hlist
 refine S.go 10 .nil fun ac w β S => S.K1 (r := list) (d := 9) (c_spec_l28Bares w list plist (S.rd (S.arg hlist))) fun ac w N q1 F2 S up o3 d4 => ?_
 clear up d4
 refine S.gb 17 (.cons (Q_sem (s := Instr.build 28 [].toArray) (v := .agg [B false, I 0].toArray) (fun w => by kernel_rfl)) (.cons (Q_call fun w hw => c_spec_ActOk w a) .nil)) (!(f_actOk a)) (fun ac w β h5 S => ?_) (fun ac w β h5 S => ?_)
 ·have h6 := not_t h5
  refine S.go 8 .nil fun ac w β S => ?_
  refine drw ?_
  refine S.draw0 (f := 4) 3 (by kernel_rfl) (by kernel_rfl) fun w S => ?_
  refine S.hq 0 [0] [] [(19, .v (slv list.length q1.1))] .nil fun ac S => ?_
  refine S.hq 1 [1] [] [(20, .v (GT.val (⟨false, 0⟩ : TTold) ()))] .nil fun ac S => ?_
  refine S.hq 2 [2] [] [(4, .v (slv list.length q1.1))] .nil fun ac S => ?_
  refine S.sl 3 [] [] 3 [(1, [B false, I 0])] .nil fun ac w β S => ?_
  refine WD.done (by kernel_rfl) ?_ _
  refine S.ex fun S => ?_
  refine S.gr 2 .nil [slv list.length q1.1, GT.val (⟨false, 0⟩ : TTold) ()] fun ac w β S => ?_
  exact ret2_of (p' := ()) S (show (f_bareAct list a).1 = list from k0_spec_BareAct) (show (f_bareAct list a).2 = (⟨false, 0⟩ : TTold) from k0_spec_BareAct) rfl rfl o3 (show RTold (⟨false, 0⟩ : TTold) from ⟨(show In64 0 from ⟨by decide, by decide⟩)⟩)
 have h7 := not_f h5
 refine S.gb 6 (.cons (Q_call fun w hw => c_spec_IsOuter w a.kind) .nil) (f_isOuter a.kind) (fun ac w β h8 S => ?_) (fun ac w β h8 S => ?_)
 ·refine S.go 2 .nil fun ac w β S => ?_
  refine drw ?_
  refine S.draw0 (f := 4) 3 (by kernel_rfl) (by kernel_rfl) fun w S => ?_
  refine S.hq 0 [0] [] [(19, .v (slv list.length q1.1))] .nil fun ac S => ?_
  refine S.hq 1 [1] [] [(20, .v (GT.val (⟨false, 0⟩ : TTold) ()))] .nil fun ac S => ?_
  refine S.hq 2 [2] [] [(4, .v (slv list.length q1.1))] .nil fun ac S => ?_
  refine S.sl 3 [] [] 3 [(1, [B false, I 0])] .nil fun ac w β S => ?_
  refine WD.done (by kernel_rfl) ?_ _
  refine S.ex fun S => ?_
  refine S.gr 2 .nil [slv list.length q1.1, GT.val (⟨false, 0⟩ : TTold) ()] fun ac w β S => ?_
  exact ret2_of (p' := ()) S (show (f_bareAct list a).1 = list from k0_spec_BareAct) (show (f_bareAct list a).2 = (⟨false, 0⟩ : TTold) from k0_spec_BareAct) rfl rfl o3 (show RTold (⟨false, 0⟩ : TTold) from ⟨(show In64 0 from ⟨by decide, by decide⟩)⟩)
 refine S.gb 15 (.cons (qm (list.length : Int) 1) (.cons (Q_call fun w hw => c_spec_l01In w a.m 0 ((list.length : Int) - 1)) .nil)) (!(f_within a.m 0 ((list.length : Int) - 1))) (fun ac w β h9 S => ?_) (fun ac w β h9 S => ?_)
 ·have h10 := not_t h9
  have g11 := within_f h10
  refine S.gd 9 .nil (a.kind == 10) (fun ac w β h12 g13 S => ?_) (fun ac w β h12 g13 S => ?_)
  ·refine S.go 7 .nil fun ac w β S => ?_
   refine drw ?_
   refine S.draw0 (f := 4) 3 (by kernel_rfl) (by kernel_rfl) fun w S => ?_
   refine S.hq 0 [0] [] [(32, .v (slv list.length q1.1))] .nil fun ac S => ?_
   refine S.hq 1 [1] [] [(33, .v (GT.val (⟨false, (-1)⟩ : TTold) ()))] .nil fun ac S => ?_
   refine S.hq 2 [2] [] [(4, .v (slv list.length q1.1))] .nil fun ac S => ?_
   refine S.sl 3 [] [] 3 [(1, [B false, I (-1)])] .nil fun ac w β S => ?_
   refine WD.done (by kernel_rfl) ?_ _
   refine S.ex fun S => ?_
   refine S.gr 2 .nil [slv list.length q1.1, GT.val (⟨false, (-1)⟩ : TTold) ()] fun ac w β S => ?_
   exact ret2_of (p' := ()) S (show (f_bareAct list a).1 = list from k0_spec_BareAct) (show (f_bareAct list a).2 = (⟨false, (-1)⟩ : TTold) from k0_spec_BareAct) rfl rfl o3 (show RTold (⟨false, (-1)⟩ : TTold) from ⟨(show In64 (-1) from ⟨by decide, by decide⟩)⟩)
  refine S.go 4 .nil fun ac w β S => ?_
  refine drw ?_
  refine S.draw0 (f := 4) 3 (by kernel_rfl) (by kernel_rfl) fun w S => ?_
  refine S.hq 0 [0] [] [(32, .v (slv list.length q1.1))] .nil fun ac S => ?_
  refine S.hq 1 [1] [] [(33, .v (GT.val (⟨false, 0⟩ : TTold) ()))] .nil fun ac S => ?_
  refine S.hq 2 [2] [] [(4, .v (slv list.length q1.1))] .nil fun ac S => ?_
  refine S.sl 3 [] [] 3 [(1, [B false, I 0])] .nil fun ac w β S => ?_
  refine WD.done (by kernel_rfl) ?_ _
  refine S.ex fun S => ?_
  refine S.gr 2 .nil [slv list.length q1.1, GT.val (⟨false, 0⟩ : TTold) ()] fun ac w β S => ?_
  exact ret2_of (p' := ()) S (show (f_bareAct list a).1 = list from k0_spec_BareAct) (show (f_bareAct list a).2 = (⟨false, 0⟩ : TTold) from k0_spec_BareAct) rfl rfl o3 (show RTold (⟨false, 0⟩ : TTold) from ⟨(show In64 0 from ⟨by decide, by decide⟩)⟩)
 have h14 := not_f h9
 have g15 := within_t h14
 refine S.gd 28 (.cons (qt o3.rn a.m Tryz.underlying26) (.cons (qs o3.rn 50 a.m.toNat) .nil)) (a.kind == 1) (fun ac w β h16 g17 S => ?_) (fun ac w β h16 g17 S => ?_)
 ·refine S.go 5 .nil fun ac w β S => S.K2 (r := (f_bareStep (el list a.m.toNat) a.g).1) (r' := (f_bareStep (el list a.m.toNat) a.g).2) (d := 58) (c_spec_BareStep w (el list a.m.toNat) (q1.2 a.m.toNat) (S.rd (LRd.el o3.rn a.m.toNat (by omega))) a.g) fun ac w N q18 q19 F20 F21 S up o22 o23 d24 d25 d26 => ?_
  have d28 := Disj.w d24 o3.sub
  replace o3 := o3.up up
  clear up d24
  clear d25
  refine S.go 16 (.cons (qt o3.rn a.m Tryz.underlying26) .nil) fun ac w β S => S.SV (α := TBare) o3 (t := 50) (k := a.m.toNat) (off := q1.1.off + a.m.toNat * 4) o22 d28 fun w N F30 q31 S up o29 d32 s33 n34 => ?_
  clear up d32 o3 n34
  have l35 : (list.set a.m.toNat (f_bareStep (el list a.m.toNat) a.g).1).length = list.length := List.length_set
  refine S.go 3 .nil fun ac w β S => ?_
  refine drw ?_
  refine S.draw0 (f := 4) 3 (by kernel_rfl) (by kernel_rfl) fun w S => ?_
  refine S.hq 0 [0] [] [(190, .v (slv list.length q1.1))] .nil fun ac S => ?_
  refine S.hq 1 [1] [] [(191, .v (GT.val (⟨(f_bareStep (el list a.m.toNat) a.g).2, 0⟩ : TTold) ()))] .nil fun ac S => ?_
  refine S.hq 2 [2] [] [(4, .v (slv list.length q1.1))] .nil fun ac S => ?_
  refine S.sl 3 [] [] 4 [(1, [B (f_bareStep (el list a.m.toNat) a.g).2, I 0])] .nil fun ac w β S => ?_
  refine WD.done (by kernel_rfl) ?_ _
  refine S.ex fun S => ?_
  refine S.gr 2 .nil [slv list.length q1.1, GT.val (⟨(f_bareStep (el list a.m.toNat) a.g).2, 0⟩ : TTold) ()] fun ac w β S => ?_
  exact ret2_of (p' := ()) S (show (f_bareAct list a).1 = (list.set a.m.toNat (f_bareStep (el list a.m.toNat) a.g).1) from k0_spec_BareAct) (show (f_bareAct list a).2 = (⟨(f_bareStep (el list a.m.toNat) a.g).2, 0⟩ : TTold) from k0_spec_BareAct) (by rw [show list.length = (list.set a.m.toNat (f_bareStep (el list a.m.toNat) a.g).1).length from (by rw [List.length_set])]; rfl) rfl o29 (show RTold (⟨(f_bareStep (el list a.m.toNat) a.g).2, 0⟩ : TTold) from ⟨(show In64 0 from ⟨by decide, by decide⟩)⟩)
 refine S.gd 7 .nil (a.kind == 2) (fun ac w β h36 g37 S => ?_) (fun ac w β h36 g37 S => ?_)
 ·refine S.go 12 (.cons (Q_sem (s := Instr.build 55 [(0, I a.y), (1, I a.z)].toArray) (v := .agg [I a.y, I a.z].toArray) (fun w => by kernel_rfl)) .nil) fun ac w β S => S.K2 (r := (f_bareSet (el list a.m.toNat) a.g a.x (⟨a.y, a.z⟩ : TSlot)).1) (r' := (f_bareSet (el list a.m.toNat) a.g a.x (⟨a.y, a.z⟩ : TSlot)).2) (d := 75) (c_spec_BareSet w (el list a.m.toNat) (q1.2 a.m.toNat) (S.rd (LRd.el o3.rn a.m.toNat (by omega))) a.g a.x (RAct.x (d := a) ha) (⟨a.y, a.z⟩ : TSlot) (show RSlot (⟨a.y, a.z⟩ : TSlot) from ⟨(RAct.y (d := a) ha), (RAct.z (d := a) ha)⟩)) fun ac w N q38 q39 F40 F41 S up o42 o43 d44 d45 d46 => ?_
  have d48 := Disj.w d44 o3.sub
  replace o3 := o3.up up
  clear up d44
  clear d45
  refine S.go 16 (.cons (qt o3.rn a.m Tryz.underlying26) .nil) fun ac w β S => S.SV (α := TBare) o3 (t := 50) (k := a.m.toNat) (off := q1.1.off + a.m.toNat * 4) o42 d48 fun w N F50 q51 S up o49 d52 s53 n54 => ?_
  clear up d52 o3 n54
  have l55 : (list.set a.m.toNat (f_bareSet (el list a.m.toNat) a.g a.x (⟨a.y, a.z⟩ : TSlot)).1).length = list.length := List.length_set
  refine S.go 3 .nil fun ac w β S => ?_
  refine drw ?_
  refine S.draw0 (f := 4) 3 (by kernel_rfl) (by kernel_rfl) fun w S => ?_
  refine S.hq 0 [0] [] [(190, .v (slv list.length q1.1))] .nil fun ac S => ?_
  refine S.hq 1 [1] [] [(191, .v (GT.val (⟨(f_bareSet (el list a.m.toNat) a.g a.x (⟨a.y, a.z⟩ : TSlot)).2, 0⟩ : TTold) ()))] .nil fun ac S => ?_
  refine S.hq 2 [2] [] [(4, .v (slv list.length q1.1))] .nil fun ac S => ?_
  refine S.sl 3 [] [] 4 [(1, [B (f_bareSet (el list a.m.toNat) a.g a.x (⟨a.y, a.z⟩ : TSlot)).2, I 0])] .nil fun ac w β S => ?_
  refine WD.done (by kernel_rfl) ?_ _
  refine S.ex fun S => ?_
  refine S.gr 2 .nil [slv list.length q1.1, GT.val (⟨(f_bareSet (el list a.m.toNat) a.g a.x (⟨a.y, a.z⟩ : TSlot)).2, 0⟩ : TTold) ()] fun ac w β S => ?_
  exact ret2_of (p' := ()) S (show (f_bareAct list a).1 = (list.set a.m.toNat (f_bareSet (el list a.m.toNat) a.g a.x (⟨a.y, a.z⟩ : TSlot)).1) from k0_spec_BareAct) (show (f_bareAct list a).2 = (⟨(f_bareSet (el list a.m.toNat) a.g a.x (⟨a.y, a.z⟩ : TSlot)).2, 0⟩ : TTold) from k0_spec_BareAct) (by rw [show list.length = (list.set a.m.toNat (f_bareSet (el list a.m.toNat) a.g a.x (⟨a.y, a.z⟩ : TSlot)).1).length from (by rw [List.length_set])]; rfl) rfl o49 (show RTold (⟨(f_bareSet (el list a.m.toNat) a.g a.x (⟨a.y, a.z⟩ : TSlot)).2, 0⟩ : TTold) from ⟨(show In64 0 from ⟨by decide, by decide⟩)⟩)
 refine S.gd 7 .nil (a.kind == 3) (fun ac w β h56 g57 S => ?_) (fun ac w β h56 g57 S => ?_)
 ·refine S.go 7 .nil fun ac w β S => S.K2 (r := (f_bareFlush (el list a.m.toNat) a.g a.x).1) (r' := (f_bareFlush (el list a.m.toNat) a.g a.x).2) (d := 87) (c_spec_BareFlush w (el list a.m.toNat) (q1.2 a.m.toNat) (S.rd (LRd.el o3.rn a.m.toNat (by omega))) a.g a.x (RAct.x (d := a) ha)) fun ac w N q58 q59 F60 F61 S up o62 o63 d64 d65 d66 => ?_
  have d68 := Disj.w d64 o3.sub
  replace o3 := o3.up up
  clear up d64
  clear d65
  refine S.go 16 (.cons (qt o3.rn a.m Tryz.underlying26) .nil) fun ac w β S => S.SV (α := TBare) o3 (t := 50) (k := a.m.toNat) (off := q1.1.off + a.m.toNat * 4) o62 d68 fun w N F70 q71 S up o69 d72 s73 n74 => ?_
  clear up d72 o3 n74
  have l75 : (list.set a.m.toNat (f_bareFlush (el list a.m.toNat) a.g a.x).1).length = list.length := List.length_set
  refine S.go 3 .nil fun ac w β S => ?_
  refine drw ?_
  refine S.draw0 (f := 4) 3 (by kernel_rfl) (by kernel_rfl) fun w S => ?_
  refine S.hq 0 [0] [] [(190, .v (slv list.length q1.1))] .nil fun ac S => ?_
  refine S.hq 1 [1] [] [(191, .v (GT.val (⟨(f_bareFlush (el list a.m.toNat) a.g a.x).2, 0⟩ : TTold) ()))] .nil fun ac S => ?_
  refine S.hq 2 [2] [] [(4, .v (slv list.length q1.1))] .nil fun ac S => ?_
  refine S.sl 3 [] [] 4 [(1, [B (f_bareFlush (el list a.m.toNat) a.g a.x).2, I 0])] .nil fun ac w β S => ?_
  refine WD.done (by kernel_rfl) ?_ _
  refine S.ex fun S => ?_
  refine S.gr 2 .nil [slv list.length q1.1, GT.val (⟨(f_bareFlush (el list a.m.toNat) a.g a.x).2, 0⟩ : TTold) ()] fun ac w β S => ?_
  exact ret2_of (p' := ()) S (show (f_bareAct list a).1 = (list.set a.m.toNat (f_bareFlush (el list a.m.toNat) a.g a.x).1) from k0_spec_BareAct) (show (f_bareAct list a).2 = (⟨(f_bareFlush (el list a.m.toNat) a.g a.x).2, 0⟩ : TTold) from k0_spec_BareAct) (by rw [show list.length = (list.set a.m.toNat (f_bareFlush (el list a.m.toNat) a.g a.x).1).length from (by rw [List.length_set])]; rfl) rfl o69 (show RTold (⟨(f_bareFlush (el list a.m.toNat) a.g a.x).2, 0⟩ : TTold) from ⟨(show In64 0 from ⟨by decide, by decide⟩)⟩)
 refine S.gd 7 .nil (a.kind == 4) (fun ac w β h76 g77 S => ?_) (fun ac w β h76 g77 S => ?_)
 ·refine S.go 7 .nil fun ac w β S => S.K2 (r := (f_bareAnswer (el list a.m.toNat) a.g a.x).1) (r' := (f_bareAnswer (el list a.m.toNat) a.g a.x).2) (d := 99) (c_spec_BareAnswer w (el list a.m.toNat) (q1.2 a.m.toNat) (S.rd (LRd.el o3.rn a.m.toNat (by omega))) a.g a.x (RAct.x (d := a) ha)) fun ac w N q78 q79 F80 F81 S up o82 o83 d84 d85 d86 => ?_
  have d88 := Disj.w d84 o3.sub
  replace o3 := o3.up up
  clear up d84
  clear d85
  refine S.go 16 (.cons (qt o3.rn a.m Tryz.underlying26) .nil) fun ac w β S => S.SV (α := TBare) o3 (t := 50) (k := a.m.toNat) (off := q1.1.off + a.m.toNat * 4) o82 d88 fun w N F90 q91 S up o89 d92 s93 n94 => ?_
  clear up d92 o3 n94
  have l95 : (list.set a.m.toNat (f_bareAnswer (el list a.m.toNat) a.g a.x).1).length = list.length := List.length_set
  refine S.go 3 .nil fun ac w β S => ?_
  refine drw ?_
  refine S.draw0 (f := 4) 3 (by kernel_rfl) (by kernel_rfl) fun w S => ?_
  refine S.hq 0 [0] [] [(190, .v (slv list.length q1.1))] .nil fun ac S => ?_
  refine S.hq 1 [1] [] [(191, .v (GT.val (⟨(f_bareAnswer (el list a.m.toNat) a.g a.x).2, 0⟩ : TTold) ()))] .nil fun ac S => ?_
  refine S.hq 2 [2] [] [(4, .v (slv list.length q1.1))] .nil fun ac S => ?_
  refine S.sl 3 [] [] 4 [(1, [B (f_bareAnswer (el list a.m.toNat) a.g a.x).2, I 0])] .nil fun ac w β S => ?_
  refine WD.done (by kernel_rfl) ?_ _
  refine S.ex fun S => ?_
  refine S.gr 2 .nil [slv list.length q1.1, GT.val (⟨(f_bareAnswer (el list a.m.toNat) a.g a.x).2, 0⟩ : TTold) ()] fun ac w β S => ?_
  exact ret2_of (p' := ()) S (show (f_bareAct list a).1 = (list.set a.m.toNat (f_bareAnswer (el list a.m.toNat) a.g a.x).1) from k0_spec_BareAct) (show (f_bareAct list a).2 = (⟨(f_bareAnswer (el list a.m.toNat) a.g a.x).2, 0⟩ : TTold) from k0_spec_BareAct) (by rw [show list.length = (list.set a.m.toNat (f_bareAnswer (el list a.m.toNat) a.g a.x).1).length from (by rw [List.length_set])]; rfl) rfl o89 (show RTold (⟨(f_bareAnswer (el list a.m.toNat) a.g a.x).2, 0⟩ : TTold) from ⟨(show In64 0 from ⟨by decide, by decide⟩)⟩)
 refine S.gd 7 .nil (a.kind == 5) (fun ac w β h96 g97 S => ?_) (fun ac w β h96 g97 S => ?_)
 ·refine S.go 5 .nil fun ac w β S => S.K2 (r := (f_bareResume (el list a.m.toNat) a.g).1) (r' := (f_bareResume (el list a.m.toNat) a.g).2) (d := 109) (c_spec_BareResume w (el list a.m.toNat) (q1.2 a.m.toNat) (S.rd (LRd.el o3.rn a.m.toNat (by omega))) a.g) fun ac w N q98 q99 F100 F101 S up o102 o103 d104 d105 d106 => ?_
  have d108 := Disj.w d104 o3.sub
  replace o3 := o3.up up
  clear up d104
  clear d105
  refine S.go 16 (.cons (qt o3.rn a.m Tryz.underlying26) .nil) fun ac w β S => S.SV (α := TBare) o3 (t := 50) (k := a.m.toNat) (off := q1.1.off + a.m.toNat * 4) o102 d108 fun w N F110 q111 S up o109 d112 s113 n114 => ?_
  clear up d112 o3 n114
  have l115 : (list.set a.m.toNat (f_bareResume (el list a.m.toNat) a.g).1).length = list.length := List.length_set
  refine S.go 3 .nil fun ac w β S => ?_
  refine drw ?_
  refine S.draw0 (f := 4) 3 (by kernel_rfl) (by kernel_rfl) fun w S => ?_
  refine S.hq 0 [0] [] [(190, .v (slv list.length q1.1))] .nil fun ac S => ?_
  refine S.hq 1 [1] [] [(191, .v (GT.val (⟨(f_bareResume (el list a.m.toNat) a.g).2, 0⟩ : TTold) ()))] .nil fun ac S => ?_
  refine S.hq 2 [2] [] [(4, .v (slv list.length q1.1))] .nil fun ac S => ?_
  refine S.sl 3 [] [] 4 [(1, [B (f_bareResume (el list a.m.toNat) a.g).2, I 0])] .nil fun ac w β S => ?_
  refine WD.done (by kernel_rfl) ?_ _
  refine S.ex fun S => ?_
  refine S.gr 2 .nil [slv list.length q1.1, GT.val (⟨(f_bareResume (el list a.m.toNat) a.g).2, 0⟩ : TTold) ()] fun ac w β S => ?_
  exact ret2_of (p' := ()) S (show (f_bareAct list a).1 = (list.set a.m.toNat (f_bareResume (el list a.m.toNat) a.g).1) from k0_spec_BareAct) (show (f_bareAct list a).2 = (⟨(f_bareResume (el list a.m.toNat) a.g).2, 0⟩ : TTold) from k0_spec_BareAct) (by rw [show list.length = (list.set a.m.toNat (f_bareResume (el list a.m.toNat) a.g).1).length from (by rw [List.length_set])]; rfl) rfl o109 (show RTold (⟨(f_bareResume (el list a.m.toNat) a.g).2, 0⟩ : TTold) from ⟨(show In64 0 from ⟨by decide, by decide⟩)⟩)
 refine S.gd 7 .nil (a.kind == 6) (fun ac w β h116 g117 S => ?_) (fun ac w β h116 g117 S => ?_)
 ·refine S.go 7 .nil fun ac w β S => S.K2 (r := (f_bareInject (el list a.m.toNat) a.g a.x).1) (r' := (f_bareInject (el list a.m.toNat) a.g a.x).2) (d := 121) (c_spec_BareInject w (el list a.m.toNat) (q1.2 a.m.toNat) (S.rd (LRd.el o3.rn a.m.toNat (by omega))) a.g a.x) fun ac w N q118 q119 F120 F121 S up o122 o123 d124 d125 d126 => ?_
  have d128 := Disj.w d124 o3.sub
  replace o3 := o3.up up
  clear up d124
  clear d125
  refine S.go 16 (.cons (qt o3.rn a.m Tryz.underlying26) .nil) fun ac w β S => S.SV (α := TBare) o3 (t := 50) (k := a.m.toNat) (off := q1.1.off + a.m.toNat * 4) o122 d128 fun w N F130 q131 S up o129 d132 s133 n134 => ?_
  clear up d132 o3 n134
  have l135 : (list.set a.m.toNat (f_bareInject (el list a.m.toNat) a.g a.x).1).length = list.length := List.length_set
  refine S.go 3 .nil fun ac w β S => ?_
  refine drw ?_
  refine S.draw0 (f := 4) 3 (by kernel_rfl) (by kernel_rfl) fun w S => ?_
  refine S.hq 0 [0] [] [(190, .v (slv list.length q1.1))] .nil fun ac S => ?_
  refine S.hq 1 [1] [] [(191, .v (GT.val (⟨(f_bareInject (el list a.m.toNat) a.g a.x).2, 0⟩ : TTold) ()))] .nil fun ac S => ?_
  refine S.hq 2 [2] [] [(4, .v (slv list.length q1.1))] .nil fun ac S => ?_
  refine S.sl 3 [] [] 4 [(1, [B (f_bareInject (el list a.m.toNat) a.g a.x).2, I 0])] .nil fun ac w β S => ?_
  refine WD.done (by kernel_rfl) ?_ _
  refine S.ex fun S => ?_
  refine S.gr 2 .nil [slv list.length q1.1, GT.val (⟨(f_bareInject (el list a.m.toNat) a.g a.x).2, 0⟩ : TTold) ()] fun ac w β S => ?_
  exact ret2_of (p' := ()) S (show (f_bareAct list a).1 = (list.set a.m.toNat (f_bareInject (el list a.m.toNat) a.g a.x).1) from k0_spec_BareAct) (show (f_bareAct list a).2 = (⟨(f_bareInject (el list a.m.toNat) a.g a.x).2, 0⟩ : TTold) from k0_spec_BareAct) (by rw [show list.length = (list.set a.m.toNat (f_bareInject (el list a.m.toNat) a.g a.x).1).length from (by rw [List.length_set])]; rfl) rfl o129 (show RTold (⟨(f_bareInject (el list a.m.toNat) a.g a.x).2, 0⟩ : TTold) from ⟨(show In64 0 from ⟨by decide, by decide⟩)⟩)
 refine S.gd 7 .nil (a.kind == 7) (fun ac w β h136 g137 S => ?_) (fun ac w β h136 g137 S => ?_)
 ·refine S.go 1 .nil fun ac w β S => ?_
  refine drw ?_
  let σ150 : Sy := ⟨[(0, .v (slv list.length q1.1)), (3, .p 0 0), (5, .p 1 0), (6, .p 2 0), (7, .p 3 0), (40, .v (I a.kind)), (125, .v (B true))], [GT.cells a (), Zc TTold, [B false, I 0], GT.cells (el list a.m.toNat) (q1.2 a.m.toNat)]⟩
  obtain ⟨u0, N0, β0, S, o3⟩ : ∃ u0 N0 β0, St Tryz.prog Tryz.f5.ntmps w0 NoB u0 N0 β0 σ150 ac w ∧ Ow w0 NoB u0 N0 F2 list q1 := ⟨_, _, _, S.z, o3⟩
  refine wp_region_cut (fun ac w => ∃ q169 F170 u N β, St Tryz.prog Tryz.f5.ntmps w0 NoB u N β (σ150.dl [40, 125] [] 4 [(2, [B (f_bareCtl (el list a.m.toNat) a.g (f_ctlOf a)).2, I 0]), (3, GT.cells (f_bareCtl (el list a.m.toNat) a.g (f_ctlOf a)).1 q169)]) ac w ∧ Ow w0 NoB u N F2 list q1 ∧ Ow w0 NoB u N F170 (f_bareCtl (el list a.m.toNat) a.g (f_ctlOf a)).1 q169 ∧ Disj F2 F170) ?_ ?_
  ·refine S.draw0 (f := 12) 9 (by kernel_rfl) (by kernel_rfl) fun w S => ?_
   refine S.hq 0 [0] [] [(128, .v (GT.val (el list a.m.toNat) (q1.2 a.m.toNat)))] .nil fun ac S => ?_
   refine S.hq 1 [1] [] [(129, .p 0 2)] .nil fun ac S => ?_
   refine S.hq 2 [2] [] [(130, .v (I a.g))] .nil fun ac S => ?_
   refine S.hq 3 [3] [] [(131, .v (GT.val a ()))] .nil fun ac S => ?_
   refine WD.nameW fun W hW => ?_
   refine WD.castW (l' := mkL 12 [0, 1, 2, 3]) (by kernel_rfl) ?_
   have hK171 ac w q169 F170 u N β (S : St Tryz.prog Tryz.f5.ntmps w0 NoB u N β (σ150.dl [40, 125] [] 4 [(2, [B (f_bareCtl (el list a.m.toNat) a.g (f_ctlOf a)).2, I 0]), (3, GT.cells (f_bareCtl (el list a.m.toNat) a.g (f_ctlOf a)).1 q169)]) ac w) (o3 : Ow w0 NoB u N F2 list q1) (o168 : Ow w0 NoB u N F170 (f_bareCtl (el list a.m.toNat) a.g (f_ctlOf a)).1 q169) (d172 : Disj F2 F170) : W 0 (mkL 12 [0, 1, 2, 3, 4, 5, 6, 7, 8, 9, 10, 11]) ac w := by
    exact od hW ⟨rfl, q169, F170, _, _, _, S.z, o3, o168, d172⟩
   have hK173 ac w q169 F170 u N β (S : St Tryz.prog Tryz.f5.ntmps w0 NoB u N β (σ150.dl [40, 125] [(135, .v (B (f_bareCtl (el list a.m.toNat) a.g (f_ctlOf a)).2)), (136, .p 2 0)] 4 [(3, GT.cells (f_bareCtl (el list a.m.toNat) a.g (f_ctlOf a)).1 q169)]) ac w) (o3 : Ow w0 NoB u N F2 list q1) (o168 : Ow w0 NoB u N F170 (f_bareCtl (el list a.m.toNat) a.g (f_ctlOf a)).1 q169) (d174 : Disj F2 F170) : W 1 (mkL 12 [0, 1, 2, 3, 4, 5, 6, 7, 8, 9, 10]) ac w := by
    exact ox1 hW 11 (S.wl hW [] .nil fun _ _ _ S => hK171 _ _ q169 F170 _ _ _ S o3 o168 d174)
   have hK175 ac w q166 F167 u N β (S : St Tryz.prog Tryz.f5.ntmps w0 NoB u N β (σ150.dl [40, 125] [(134, .v (GT.val (f_bareCtl (el list a.m.toNat) a.g (f_ctlOf a)).1 q166)), (135, .v (B (f_bareCtl (el list a.m.toNat) a.g (f_ctlOf a)).2))] 4 []) ac w) (o3 : Ow w0 NoB u N F2 list q1) (o165 : Ow w0 NoB u N F167 (f_bareCtl (el list a.m.toNat) a.g (f_ctlOf a)).1 q166) (d176 : Disj F2 F167) (hNN : NN N0 u0 N u) (hBB : BB σ150.bx.length β0 β) : W 3 (mkL 12 [0, 1, 2, 3, 4, 5, 6, 7, 8]) ac w := by
    exact ox1 hW 9 (S.wl hW [10] .nil fun _ _ _ S => hK173 _ _ q166 F167 _ _ _ S o3 o165 d176)
   have hK177 ac w u N β (S : St Tryz.prog Tryz.f5.ntmps w0 NoB u N β (σ150.dl [40, 125] [(128, .v (GT.val (el list a.m.toNat) (q1.2 a.m.toNat))), (130, .v (I a.g)), (132, .v (GT.val (f_ctlOf a) ()))] 4 []) ac w) (o3 : Ow w0 NoB u N F2 list q1) (i152 : RCtl (f_ctlOf a)) (hNN : NN N0 u0 N u) (hBB : BB σ150.bx.length β0 β) : W 7 (mkL 12 [0, 1, 2, 3, 4]) ac w := by
    refine ox1 hW 5 ?_
    refine id (S.call2 (r := (f_bareCtl (el list a.m.toNat) a.g (f_ctlOf a)).1) (r' := (f_bareCtl (el list a.m.toNat) a.g (f_ctlOf a)).2) (d := 133) (c_spec_BareCtl w (el list a.m.toNat) (q1.2 a.m.toNat) (S.rd (LRd.el o3.rn a.m.toNat (by omega))) a.g (f_ctlOf a) i152) (by kernel_rfl) rfl fun ac w N q178 q179 F180 F181 S up o182 o183 d184 d185 d186 => ?_)
    have hb187 := fun b h => (⟨(up b (hNN b h).1).1, (up b (hNN b h).1).2.trans (hNN b h).2⟩ : _ ∧ _)
    refine WD.sc S hb187 hBB fun hC => ?_
    have d189 := Disj.w d184 o3.sub
    replace o3 := o3.up up
    clear up d184
    clear d185
    exact S.wh hW [6, 7, 8] hC fun _ S => hK175 _ _ q178 F180 _ _ _ S o3 o182 d189 hb187 hBB
   have hNN : NN N0 u0 N0 u0 := fun b h => ⟨h, rfl⟩
   have hBB : BB σ150.bx.length β0 β0 := fun _ _ => rfl
   have i190 : RCtl (f_ctlOf a) := (ctlOf_r ha)
   exact ox1 hW 4 (S.wq hW hNN hBB [] (.cons (Q_call fun w hw => c_spec_CtlOf w a ha) .nil) fun _ _ _ S hB => hK177 _ _ _ _ _ S o3 i190 hNN hB)
  clear S o3
  rintro ac w ⟨q169, F170, u, N, β, S, o3, o168, d191⟩
  refine S.ex fun S => ?_
  refine S.go 9 (.cons (qt o3.rn a.m Tryz.underlying26) .nil) fun ac w β S => S.SV (α := TBare) o3 (t := 50) (k := a.m.toNat) (off := q1.1.off + a.m.toNat * 4) o168 d191 fun w N F193 q194 S up o192 d195 s196 n197 => ?_
  clear up d195 o3 n197
  have l198 : (list.set a.m.toNat (f_bareCtl (el list a.m.toNat) a.g (f_ctlOf a)).1).length = list.length := List.length_set
  refine S.go 3 .nil fun ac w β S => ?_
  refine drw ?_
  refine S.draw0 (f := 4) 3 (by kernel_rfl) (by kernel_rfl) fun w S => ?_
  refine S.hq 0 [0] [] [(190, .v (slv list.length q1.1))] .nil fun ac S => ?_
  refine S.hq 1 [1] [] [(191, .v (GT.val (⟨(f_bareCtl (el list a.m.toNat) a.g (f_ctlOf a)).2, 0⟩ : TTold) ()))] .nil fun ac S => ?_
  refine S.hq 2 [2] [] [(4, .v (slv list.length q1.1))] .nil fun ac S => ?_
  refine S.sl 3 [] [] 4 [(1, [B (f_bareCtl (el list a.m.toNat) a.g (f_ctlOf a)).2, I 0])] .nil fun ac w β S => ?_
  refine WD.done (by kernel_rfl) ?_ _
  refine S.ex fun S => ?_
  refine S.gr 2 .nil [slv list.length q1.1, GT.val (⟨(f_bareCtl (el list a.m.toNat) a.g (f_ctlOf a)).2, 0⟩ : TTold) ()] fun ac w β S => ?_
  exact ret2_of (p' := ()) S (show (f_bareAct list a).1 = (list.set a.m.toNat (f_bareCtl (el list a.m.toNat) a.g (f_ctlOf a)).1) from k0_spec_BareAct) (show (f_bareAct list a).2 = (⟨(f_bareCtl (el list a.m.toNat) a.g (f_ctlOf a)).2, 0⟩ : TTold) from k0_spec_BareAct) (by rw [show list.length = (list.set a.m.toNat (f_bareCtl (el list a.m.toNat) a.g (f_ctlOf a)).1).length from (by rw [List.length_set])]; rfl) rfl o192 (show RTold (⟨(f_bareCtl (el list a.m.toNat) a.g (f_ctlOf a)).2, 0⟩ : TTold) from ⟨(show In64 0 from ⟨by decide, by decide⟩)⟩)
 refine S.gd 7 .nil (a.kind == 8) (fun ac w β h199 g200 S => ?_) (fun ac w β h199 g200 S => ?_)
 ·refine S.go 9 .nil fun ac w β S => S.K2 (r := (f_barePoke (el list a.m.toNat) a.x a.y a.z).1) (r' := (f_barePoke (el list a.m.toNat) a.x a.y a.z).2) (d := 147) (c_spec_BarePoke w (el list a.m.toNat) (q1.2 a.m.toNat) (S.rd (LRd.el o3.rn a.m.toNat (by omega))) a.x a.y a.z (RAct.z (d := a) ha)) fun ac w N q201 q202 F203 F204 S up o205 o206 d207 d208 d209 => ?_
  have d211 := Disj.w d207 o3.sub
  replace o3 := o3.up up
  clear up d207
  clear d208
  refine S.go 16 (.cons (qt o3.rn a.m Tryz.underlying26) .nil) fun ac w β S => S.SV (α := TBare) o3 (t := 50) (k := a.m.toNat) (off := q1.1.off + a.m.toNat * 4) o205 d211 fun w N F213 q214 S up o212 d215 s216 n217 => ?_
  clear up d215 o3 n217
  have l218 : (list.set a.m.toNat (f_barePoke (el list a.m.toNat) a.x a.y a.z).1).length = list.length := List.length_set
  refine S.go 3 .nil fun ac w β S => ?_
  refine drw ?_
  refine S.draw0 (f := 4) 3 (by kernel_rfl) (by kernel_rfl) fun w S => ?_
  refine S.hq 0 [0] [] [(190, .v (slv list.length q1.1))] .nil fun ac S => ?_
  refine S.hq 1 [1] [] [(191, .v (GT.val (⟨(f_barePoke (el list a.m.toNat) a.x a.y a.z).2, 0⟩ : TTold) ()))] .nil fun ac S => ?_
  refine S.hq 2 [2] [] [(4, .v (slv list.length q1.1))] .nil fun ac S => ?_
  refine S.sl 3 [] [] 4 [(1, [B (f_barePoke (el list a.m.toNat) a.x a.y a.z).2, I 0])] .nil fun ac w β S => ?_
  refine WD.done (by kernel_rfl) ?_ _
  refine S.ex fun S => ?_
  refine S.gr 2 .nil [slv list.length q1.1, GT.val (⟨(f_barePoke (el list a.m.toNat) a.x a.y a.z).2, 0⟩ : TTold) ()] fun ac w β S => ?_
  exact ret2_of (p' := ()) S (show (f_bareAct list a).1 = (list.set a.m.toNat (f_barePoke (el list a.m.toNat) a.x a.y a.z).1) from k0_spec_BareAct) (show (f_bareAct list a).2 = (⟨(f_barePoke (el list a.m.toNat) a.x a.y a.z).2, 0⟩ : TTold) from k0_spec_BareAct) (by rw [show list.length = (list.set a.m.toNat (f_barePoke (el list a.m.toNat) a.x a.y a.z).1).length from (by rw [List.length_set])]; rfl) rfl o212 (show RTold (⟨(f_barePoke (el list a.m.toNat) a.x a.y a.z).2, 0⟩ : TTold) from ⟨(show In64 0 from ⟨by decide, by decide⟩)⟩)
 refine S.gd 7 .nil (a.kind == 9) (fun ac w β h219 g220 S => ?_) (fun ac w β h219 g220 S => ?_)
 ·refine S.go 5 .nil fun ac w β S => S.K2 (r := (f_barePost (el list a.m.toNat) a.x).1) (r' := (f_barePost (el list a.m.toNat) a.x).2) (d := 157) (c_spec_BarePost w (el list a.m.toNat) (q1.2 a.m.toNat) (S.rd (LRd.el o3.rn a.m.toNat (by omega))) a.x) fun ac w N q221 q222 F223 F224 S up o225 o226 d227 d228 d229 => ?_
  have d231 := Disj.w d227 o3.sub
  replace o3 := o3.up up
  clear up d227
  clear d228
  refine S.go 16 (.cons (qt o3.rn a.m Tryz.underlying26) .nil) fun ac w β S => S.SV (α := TBare) o3 (t := 50) (k := a.m.toNat) (off := q1.1.off + a.m.toNat * 4) o225 d231 fun w N F233 q234 S up o232 d235 s236 n237 => ?_
  clear up d235 o3 n237
  have l238 : (list.set a.m.toNat (f_barePost (el list a.m.toNat) a.x).1).length = list.length := List.length_set
  refine S.go 3 .nil fun ac w β S => ?_
  refine drw ?_
  refine S.draw0 (f := 4) 3 (by kernel_rfl) (by kernel_rfl) fun w S => ?_
  refine S.hq 0 [0] [] [(190, .v (slv list.length q1.1))] .nil fun ac S => ?_
  refine S.hq 1 [1] [] [(191, .v (GT.val (⟨(f_barePost (el list a.m.toNat) a.x).2, 0⟩ : TTold) ()))] .nil fun ac S => ?_
  refine S.hq 2 [2] [] [(4, .v (slv list.length q1.1))] .nil fun ac S => ?_
  refine S.sl 3 [] [] 4 [(1, [B (f_barePost (el list a.m.toNat) a.x).2, I 0])] .nil fun ac w β S => ?_
  refine WD.done (by kernel_rfl) ?_ _
  refine S.ex fun S => ?_
  refine S.gr 2 .nil [slv list.length q1.1, GT.val (⟨(f_barePost (el list a.m.toNat) a.x).2, 0⟩ : TTold) ()] fun ac w β S => ?_
  exact ret2_of (p' := ()) S (show (f_bareAct list a).1 = (list.set a.m.toNat (f_barePost (el list a.m.toNat) a.x).1) from k0_spec_BareAct) (show (f_bareAct list a).2 = (⟨(f_barePost (el list a.m.toNat) a.x).2, 0⟩ : TTold) from k0_spec_BareAct) (by rw [show list.length = (list.set a.m.toNat (f_barePost (el list a.m.toNat) a.x).1).length from (by rw [List.length_set])]; rfl) rfl o232 (show RTold (⟨(f_barePost (el list a.m.toNat) a.x).2, 0⟩ : TTold) from ⟨(show In64 0 from ⟨by decide, by decide⟩)⟩)
 refine S.gd 7 .nil (a.kind == 10) (fun ac w β h239 g240 S => ?_) (fun ac w β h239 g240 S => ?_)
 ·refine S.go 3 .nil fun ac w β S => S.K3 (r := (f_bareAck (el list a.m.toNat)).1) (r' := (f_bareAck (el list a.m.toNat)).2.1) (r'' := (f_bareAck (el list a.m.toNat)).2.2) (d := 165) (c_spec_BareAck w (el list a.m.toNat) (q1.2 a.m.toNat) (S.rd (LRd.el o3.rn a.m.toNat (by omega)))) fun ac w N q241 F242 S up o243 d244 i245 => ?_
  have d246 := Disj.w d244 o3.sub
  replace o3 := o3.up up
  clear up d244
  refine S.go 19 (.cons (qt o3.rn a.m Tryz.underlying26) .nil) fun ac w β S => S.SV (α := TBare) o3 (t := 50) (k := a.m.toNat) (off := q1.1.off + a.m.toNat * 4) o243 d246 fun w N F248 q249 S up o247 d250 s251 n252 => ?_
  clear up d250 o3 n252
  have l253 : (list.set a.m.toNat (f_bareAck (el list a.m.toNat)).1).length = list.length := List.length_set
  refine S.go 3 .nil fun ac w β S => ?_
  refine drw ?_
  refine S.draw0 (f := 4) 3 (by kernel_rfl) (by kernel_rfl) fun w S => ?_
  refine S.hq 0 [0] [] [(190, .v (slv list.length q1.1))] .nil fun ac S => ?_
  refine S.hq 1 [1] [] [(191, .v (GT.val (⟨(f_bareAck (el list a.m.toNat)).2.2, (f_bareAck (el list a.m.toNat)).2.1⟩ : TTold) ()))] .nil fun ac S => ?_
  refine S.hq 2 [2] [] [(4, .v (slv list.length q1.1))] .nil fun ac S => ?_
  refine S.sl 3 [] [] 4 [(1, [B (f_bareAck (el list a.m.toNat)).2.2, I (f_bareAck (el list a.m.toNat)).2.1])] .nil fun ac w β S => ?_
  refine WD.done (by kernel_rfl) ?_ _
  refine S.ex fun S => ?_
  refine S.gr 2 .nil [slv list.length q1.1, GT.val (⟨(f_bareAck (el list a.m.toNat)).2.2, (f_bareAck (el list a.m.toNat)).2.1⟩ : TTold) ()] fun ac w β S => ?_
  exact ret2_of (p' := ()) S (show (f_bareAct list a).1 = (list.set a.m.toNat (f_bareAck (el list a.m.toNat)).1) from k0_spec_BareAct) (show (f_bareAct list a).2 = (⟨(f_bareAck (el list a.m.toNat)).2.2, (f_bareAck (el list a.m.toNat)).2.1⟩ : TTold) from k0_spec_BareAct) (by rw [show list.length = (list.set a.m.toNat (f_bareAck (el list a.m.toNat)).1).length from (by rw [List.length_set])]; rfl) rfl o247 (show RTold (⟨(f_bareAck (el list a.m.toNat)).2.2, (f_bareAck (el list a.m.toNat)).2.1⟩ : TTold) from ⟨i245⟩)
 refine S.gd 7 .nil (a.kind == 11) (fun ac w β h254 g255 S => ?_) (fun ac w β h254 g255 S => ?_)
 ·refine S.go 9 .nil fun ac w β S => S.K2 (r := (f_bareDma (el list a.m.toNat) a.g a.x a.y).1) (r' := (f_bareDma (el list a.m.toNat) a.g a.x a.y).2) (d := 181) (c_spec_BareDma w (el list a.m.toNat) (q1.2 a.m.toNat) (S.rd (LRd.el o3.rn a.m.toNat (by omega))) a.g a.x (RAct.x (d := a) ha) a.y (RAct.y (d := a) ha)) fun ac w N q256 q257 F258 F259 S up o260 o261 d262 d263 d264 => ?_
  have d266 := Disj.w d262 o3.sub
  replace o3 := o3.up up
  clear up d262
  clear d263
  refine S.go 16 (.cons (qt o3.rn a.m Tryz.underlying26) .nil) fun ac w β S => S.SV (α := TBare) o3 (t := 50) (k := a.m.toNat) (off := q1.1.off + a.m.toNat * 4) o260 d266 fun w N F268 q269 S up o267 d270 s271 n272 => ?_
  clear up d270 o3 n272
  have l273 : (list.set a.m.toNat (f_bareDma (el list a.m.toNat) a.g a.x a.y).1).length = list.length := List.length_set
  refine S.go 3 .nil fun ac w β S => ?_
  refine drw ?_
  refine S.draw0 (f := 4) 3 (by kernel_rfl) (by kernel_rfl) fun w S => ?_
  refine S.hq 0 [0] [] [(190, .v (slv list.length q1.1))] .nil fun ac S => ?_
  refine S.hq 1 [1] [] [(191, .v (GT.val (⟨(f_bareDma (el list a.m.toNat) a.g a.x a.y).2, 0⟩ : TTold) ()))] .nil fun ac S => ?_
  refine S.hq 2 [2] [] [(4, .v (slv list.length q1.1))] .nil fun ac S => ?_
  refine S.sl 3 [] [] 4 [(1, [B (f_bareDma (el list a.m.toNat) a.g a.x a.y).2, I 0])] .nil fun ac w β S => ?_
  refine WD.done (by kernel_rfl) ?_ _
  refine S.ex fun S => ?_
  refine S.gr 2 .nil [slv list.length q1.1, GT.val (⟨(f_bareDma (el list a.m.toNat) a.g a.x a.y).2, 0⟩ : TTold) ()] fun ac w β S => ?_
  exact ret2_of (p' := ()) S (show (f_bareAct list a).1 = (list.set a.m.toNat (f_bareDma (el list a.m.toNat) a.g a.x a.y).1) from k0_spec_BareAct) (show (f_bareAct list a).2 = (⟨(f_bareDma (el list a.m.toNat) a.g a.x a.y).2, 0⟩ : TTold) from k0_spec_BareAct) (by rw [show list.length = (list.set a.m.toNat (f_bareDma (el list a.m.toNat) a.g a.x a.y).1).length from (by rw [List.length_set])]; rfl) rfl o267 (show RTold (⟨(f_bareDma (el list a.m.toNat) a.g a.x a.y).2, 0⟩ : TTold) from ⟨(show In64 0 from ⟨by decide, by decide⟩)⟩)
 have i274 : In64 (f_bareRead (el list a.m.toNat) a.g a.x).1 := (bareRead_in64 (LRd.el o3.rn a.m.toNat (by omega)) a.g a.x)
 refine S.go 25 (.cons (Q_call fun w hw => c_spec_BareRead w (el list a.m.toNat) (q1.2 a.m.toNat) (rd_of (LRd.el o3.rn a.m.toNat (by omega)) hw) a.g a.x (RAct.x (d := a) ha)) (.cons (qt o3.rn a.m Tryz.underlying26) .nil)) fun ac w β S => S.SF (α := TBare) o3 (t := 50) (k := a.m.toNat) (j := 0) (off := q1.1.off + a.m.toNat * 4) (v := GT.val (el list a.m.toNat) (q1.2 a.m.toNat)) (y := (el list a.m.toNat)) (q := (q1.2 a.m.toNat)) (fun G g_ _ => ⟨G, g_, fun _ h => .inl h⟩) fun w N F276 q277 S up o275 d278 s279 n280 => ?_
 clear up d278 o3 n280
 rw [set_self] at o275
 refine S.go 3 .nil fun ac w β S => ?_
 refine drw ?_
 refine S.draw0 (f := 4) 3 (by kernel_rfl) (by kernel_rfl) fun w S => ?_
 refine S.hq 0 [0] [] [(190, .v (slv list.length q1.1))] .nil fun ac S => ?_
 refine S.hq 1 [1] [] [(191, .v (GT.val (⟨(f_bareRead (el list a.m.toNat) a.g a.x).2, (f_bareRead (el list a.m.toNat) a.g a.x).1⟩ : TTold) ()))] .nil fun ac S => ?_
 refine S.hq 2 [2] [] [(4, .v (slv list.length q1.1))] .nil fun ac S => ?_
 refine S.sl 3 [] [] 4 [(1, [B (f_bareRead (el list a.m.toNat) a.g a.x).2, I (f_bareRead (el list a.m.toNat) a.g a.x).1])] .nil fun ac w β S => ?_
 refine WD.done (by kernel_rfl) ?_ _
 refine S.ex fun S => ?_
 refine S.gr 2 .nil [slv list.length q1.1, GT.val (⟨(f_bareRead (el list a.m.toNat) a.g a.x).2, (f_bareRead (el list a.m.toNat) a.g a.x).1⟩ : TTold) ()] fun ac w β S => ?_
 exact ret2_of (p' := ()) S (show (f_bareAct list a).1 = list from k0_spec_BareAct) (show (f_bareAct list a).2 = (⟨(f_bareRead (el list a.m.toNat) a.g a.x).2, (f_bareRead (el list a.m.toNat) a.g a.x).1⟩ : TTold) from k0_spec_BareAct) (show slv list.length q1.1 = GT.val list ((q1.1, q277) : LP TBare) from rfl) rfl o275 (show RTold (⟨(f_bareRead (el list a.m.toNat) a.g a.x).2, (f_bareRead (el list a.m.toNat) a.g a.x).1⟩ : TTold) from ⟨i274⟩)

theorem c_impl_copyInts (w0 : World) (l : List Int) (pl : LP Int) (hl : RD w0 l pl) : Calls Tryz.prog 98 [slv l.length pl.1].toArray w0 (Ret1 NoB w0 (l : List Int)) := by
 refine Calls.run NoB Tryz.func98 ?_
 intro ac β S
 have hlel : l.length ≤ 4194304 := LRd.le hl
 refine S.go 7 .nil fun ac w β S => S.B0 (α := Int) (d := 3) fun ac w N q1 F2 S up o3 d4 => ?_
 clear up d4
 have b9 : l.length ≤ 4194304 := LRd.le (S.arg hl)
 refine S.go 1 .nil fun ac w β S => S.AF0 (α := Int) o3 (S.arg hl) (fun _ _ h => h) (by' := 8) (d := 5) (lx := 0) (ly := l.length) rfl fun ac w N q5 F6 S up o7 d8 => ?_
 clear up d8
 refine S.gr 4 .nil [slv l.length q5.1] fun ac w β S => ?_
 exact ret1_of S (show l = l by clear S; simp) rfl o7

theorem c_impl_copyMem (w0 : World) (l : List (List Int)) (pl : LP (List Int)) (hl : RD w0 l pl) : Calls Tryz.prog 96 [slv l.length pl.1].toArray w0 (Ret1 NoB w0 (l : List (List Int))) := by
 refine Calls.run NoB Tryz.func96 ?_
 intro ac β S
 have hlel : l.length ≤ 4194304 := LRd.le hl
 refine S.go 7 .nil fun ac w β S => S.B0 (α := List Int) (d := 6) fun ac w N q1 F2 S up o3 d4 => ?_
 clear up d4
 refine S.go 12 .nil fun ac w β S => ?_
 refine lp (fun mm ac w => ∃ (k : Nat) (acc : List (List Int)) (q5 : _) (F6 : _) (u : _) (N : _) (β : _), mm = l.length - k ∧ (k ≤ l.length) ∧ (acc = l.take k) ∧ St Tryz.prog Tryz.f96.ntmps w0 NoB u N β ⟨[(3, .v (slv acc.length q5.1)), (7, .v (slv l.length pl.1)), (8, .v (I (l.length : Int))), (9, .v (I (k : Int)))], []⟩ ac w ∧ Ow w0 NoB u N F6 acc q5) _ ⟨0, ([] : List (List Int)), q1, F2, _, _, _, rfl, o0, (by simp), S.z, o3⟩ ?_
 clear S o3
 rintro f8 mm hf9 ac w ⟨k, acc, q5, F6, u, N, β, rfl, hk, hacc, S, o7⟩
 refine S.rs fun S => ?_
 have hlacc : acc.length = k := by rw [hacc]; simp; omega
 refine S.gd 6 .nil (decide ((k : Int) < (l.length : Int))) (fun ac w β h10 g11 S => ?_) (fun ac w β h10 g11 S => ?_)
 ·refine S.go 15 (.cons (qn (S.arg hl) k Tryz.underlying39) (.cons (qx (S.arg hl) 41 k) .nil)) fun ac w β S => S.K1 (r := (el l k)) (d := 15) (c_impl_copyInts w (el l k) (pl.2 k) (S.rd (LRd.el (S.arg hl) k (by omega)))) fun ac w N q12 F13 S up o14 d15 => ?_
  have d16 := Disj.w d15 o7.sub
  replace o7 := o7.up up
  clear up d15
  refine S.B1 (α := List Int) (x := (el l k)) (p := q12) o14.own o14.sub o14.young (d := 16) fun ac w N q17 F18 S up o19 d20 => ?_
  have d21 := d20 _ d16 o7.sub
  replace o7 := o7.up up
  clear up d20
  refine S.AO (α := List Int) o7 o19 d21 (by' := 24) (d := 17) (lx := acc.length) (ly := 1) rfl rfl (show _ ≤ 4194304 by simp only [List.length_append, List.length_cons, List.length_nil]; omega) fun ac w N q22 F23 S up o24 d25 => ?_
  clear up d25
  refine S.ge 8 (.cons (qp (k : Int) 1) .nil) f8 fun ac w β S => hf9.of (l.length - (k + 1)) _ _ (by omega) ⟨k + 1, (acc ++ [(el l k)]), q22, F23, _, _, _, rfl, ?_, ?_, S.z, o24⟩
  ·exact oz
  ·clear S; (first | (rw [take_el (by omega), hacc]; done) | (rw [take_el (by omega), hacc]; simp; done))
 refine S.gr 13 .nil [slv acc.length q5.1] fun ac w β S => ?_
 exact ret1_of S (show l = acc by clear S; (rw [hacc, take_all (by omega)])) rfl o7

theorem c_impl_copyProg (w0 : World) (l : List TIns) (pl : LP TIns) (hl : RD w0 l pl) : Calls Tryz.prog 193 [slv l.length pl.1].toArray w0 (Ret1 NoB w0 (l : List TIns)) := by
 refine Calls.run NoB Tryz.func193 ?_
 intro ac β S
 have hlel : l.length ≤ 4194304 := LRd.le hl
 refine S.go 7 .nil fun ac w β S => S.B0 (α := TIns) (d := 3) fun ac w N q1 F2 S up o3 d4 => ?_
 clear up d4
 have b9 : l.length ≤ 4194304 := LRd.le (S.arg hl)
 refine S.go 1 .nil fun ac w β S => S.AF0 (α := TIns) o3 (S.arg hl) (fun _ _ h => h) (by' := 16) (d := 5) (lx := 0) (ly := l.length) rfl fun ac w N q5 F6 S up o7 d8 => ?_
 clear up d8
 refine S.gr 4 .nil [slv l.length q5.1] fun ac w β S => ?_
 exact ret1_of S (show l = l by clear S; simp) rfl o7

theorem c_impl_copyTable (w0 : World) (l : List TSlot) (pl : LP TSlot) (hl : RD w0 l pl) : Calls Tryz.prog 189 [slv l.length pl.1].toArray w0 (Ret1 NoB w0 (l : List TSlot)) := by
 refine Calls.run NoB Tryz.func189 ?_
 intro ac β S
 have hlel : l.length ≤ 4194304 := LRd.le hl
 refine S.go 7 .nil fun ac w β S => S.B0 (α := TSlot) (d := 3) fun ac w N q1 F2 S up o3 d4 => ?_
 clear up d4
 have b9 : l.length ≤ 4194304 := LRd.le (S.arg hl)
 refine S.go 1 .nil fun ac w β S => S.AF0 (α := TSlot) o3 (S.arg hl) (fun _ _ h => h) (by' := 16) (d := 5) (lx := 0) (ly := l.length) rfl fun ac w N q5 F6 S up o7 d8 => ?_
 clear up d8
 refine S.gr 4 .nil [slv l.length q5.1] fun ac w β S => ?_
 exact ret1_of S (show l = l by clear S; simp) rfl o7

theorem c_impl_copyGuest (w0 : World) (g : TGuest) (pg : PGuest) (hg : RD w0 g pg) : Calls Tryz.prog 167 [GT.val g pg].toArray w0 (Ret1 NoB w0 (g : TGuest)) := by
 refine Calls.run NoB Tryz.func167 ?_
 intro ac β S
 have hleg_prog : g.prog.length ≤ 4194304 := LRd.le (RGuest.prog (d := g) hg)
 have hleg_written : g.written.length ≤ 4194304 := LRd.le (RGuest.written (d := g) hg)
 have hleg_live : g.live.length ≤ 4194304 := LRd.le (RGuest.live (d := g) hg)
 have hleg_seen : g.seen.length ≤ 4194304 := LRd.le (RGuest.seen (d := g) hg)
 refine S.go 10 .nil fun ac w β S => S.K1 (r := g.prog) (d := 5) (c_impl_copyProg w g.prog pg.prog (S.rd (RGuest.prog (d := g) (S.arg hg)))) fun ac w N q1 F2 S up o3 d4 => ?_
 clear up d4
 refine S.go 8 .nil fun ac w β S => S.K1 (r := g.written) (d := 9) (c_impl_copyTable w g.written pg.written (S.rd (RGuest.written (d := g) (S.arg hg)))) fun ac w N q5 F6 S up o7 d8 => ?_
 have d9 := Disj.w d8 o3.sub
 replace o3 := o3.up up
 clear up d8
 refine S.go 8 .nil fun ac w β S => S.K1 (r := g.live) (d := 13) (c_impl_copyTable w g.live pg.live (S.rd (RGuest.live (d := g) (S.arg hg)))) fun ac w N q10 F11 S up o12 d13 => ?_
 have d14 := Disj.w d13 o3.sub
 have d15 := Disj.w d13 o7.sub
 replace o3 := o3.up up
 replace o7 := o7.up up
 clear up d13
 refine S.go 8 .nil fun ac w β S => S.K1 (r := g.seen) (d := 17) (c_impl_copyInts w g.seen pg.seen (S.rd (RGuest.seen (d := g) (S.arg hg)))) fun ac w N q16 F17 S up o18 d19 => ?_
 have d20 := Disj.w d19 o3.sub
 have d21 := Disj.w d19 o7.sub
 have d22 := Disj.w d19 o12.sub
 replace o3 := o3.up up
 replace o7 := o7.up up
 replace o12 := o12.up up
 clear up d19
 refine S.gr 11 .nil [GT.val (⟨g.prog, g.acc, g.pc, g.written, g.live, g.ctl, g.pend, g.exit, g.halted, g.seen⟩ : TGuest) (⟨q1, q5, q10, q16⟩ : PGuest)] fun ac w β S => ?_
 have o23 := ow_Guest (x := (⟨g.prog, g.acc, g.pc, g.written, g.live, g.ctl, g.pend, g.exit, g.halted, g.seen⟩ : TGuest)) (p := (⟨q1, q5, q10, q16⟩ : PGuest)) o3 o7 o12 o18 d9 d14 d20 d15 d21 d22 (RGuest.acc (d := g) (S.arg hg)) (RGuest.pc (d := g) (S.arg hg)) (RGuest.ctl (d := g) (S.arg hg)) (RGuest.pend (d := g) (S.arg hg)) (RGuest.exit (d := g) (S.arg hg))
 exact ret1_of S (show g = (⟨g.prog, g.acc, g.pc, g.written, g.live, g.ctl, g.pend, g.exit, g.halted, g.seen⟩ : TGuest) by clear S; (first | rfl | simp)) rfl o23

theorem c_impl_copyGuests (w0 : World) (l : List TGuest) (pl : LP TGuest) (hl : RD w0 l pl) : Calls Tryz.prog 97 [slv l.length pl.1].toArray w0 (Ret1 NoB w0 (l : List TGuest)) := by
 refine Calls.run NoB Tryz.func97 ?_
 intro ac β S
 have hlel : l.length ≤ 4194304 := LRd.le hl
 refine S.go 7 .nil fun ac w β S => S.B0 (α := TGuest) (d := 6) fun ac w N q1 F2 S up o3 d4 => ?_
 clear up d4
 refine S.go 12 .nil fun ac w β S => ?_
 refine lp (fun mm ac w => ∃ (k : Nat) (acc : List TGuest) (q5 : _) (F6 : _) (u : _) (N : _) (β : _), mm = l.length - k ∧ (k ≤ l.length) ∧ (acc = l.take k) ∧ St Tryz.prog Tryz.f97.ntmps w0 NoB u N β ⟨[(3, .v (slv acc.length q5.1)), (7, .v (slv l.length pl.1)), (8, .v (I (l.length : Int))), (9, .v (I (k : Int)))], []⟩ ac w ∧ Ow w0 NoB u N F6 acc q5) _ ⟨0, ([] : List TGuest), q1, F2, _, _, _, rfl, o0, (by simp), S.z, o3⟩ ?_
 clear S o3
 rintro f8 mm hf9 ac w ⟨k, acc, q5, F6, u, N, β, rfl, hk, hacc, S, o7⟩
 refine S.rs fun S => ?_
 have hlacc : acc.length = k := by rw [hacc]; simp; omega
 refine S.gd 6 .nil (decide ((k : Int) < (l.length : Int))) (fun ac w β h10 g11 S => ?_) (fun ac w β h10 g11 S => ?_)
 ·refine S.go 16 (.cons (qn (S.arg hl) k Tryz.underlying48) (.cons (qs (S.arg hl) 81 k) .nil)) fun ac w β S => S.K1 (r := (el l k)) (d := 15) (c_impl_copyGuest w (el l k) (pl.2 k) (S.rd (LRd.el (S.arg hl) k (by omega)))) fun ac w N q12 F13 S up o14 d15 => ?_
  have d16 := Disj.w d15 o7.sub
  replace o7 := o7.up up
  clear up d15
  refine S.B1 (α := TGuest) (x := (el l k)) (p := q12) o14.own o14.sub o14.young (d := 16) fun ac w N q17 F18 S up o19 d20 => ?_
  have d21 := d20 _ d16 o7.sub
  replace o7 := o7.up up
  clear up d20
  refine S.AO (α := TGuest) o7 o19 d21 (by' := 184) (d := 17) (lx := acc.length) (ly := 1) rfl rfl (show _ ≤ 4194304 by simp only [List.length_append, List.length_cons, List.length_nil]; omega) fun ac w N q22 F23 S up o24 d25 => ?_
  clear up d25
  refine S.ge 8 (.cons (qp (k : Int) 1) .nil) f8 fun ac w β S => hf9.of (l.length - (k + 1)) _ _ (by omega) ⟨k + 1, (acc ++ [(el l k)]), q22, F23, _, _, _, rfl, ?_, ?_, S.z, o24⟩
  ·exact oz
  ·clear S; (first | (rw [take_el (by omega), hacc]; done) | (rw [take_el (by omega), hacc]; simp; done))
 refine S.gr 13 .nil [slv acc.length q5.1] fun ac w β S => ?_
 exact ret1_of S (show l = acc by clear S; (rw [hacc, take_all (by omega)])) rfl o7

theorem c_impl_copyBare (w0 : World) (b : TBare) (pb : PBare) (hb : RD w0 b pb) : Calls Tryz.prog 37 [GT.val b pb].toArray w0 (Ret1 NoB w0 (b : TBare)) := by
 refine Calls.run NoB Tryz.func37 ?_
 intro ac β S
 have hleb_mem : b.mem.length ≤ 4194304 := LRd.le (RBare.mem (d := b) hb)
 have hleb_guests : b.guests.length ≤ 4194304 := LRd.le (RBare.guests (d := b) hb)
 have hleb_outs : b.outs.length ≤ 4194304 := LRd.le (RBare.outs (d := b) hb)
 refine S.go 7 .nil fun ac w β S => ?_
 refine drw ?_
 refine S.draw0 (f := 13) 12 (by kernel_rfl) (by kernel_rfl) fun w S => ?_
 refine S.hq 0 [0] [] [(3, .p 0 0)] .nil fun ac S => ?_
 refine S.hq 1 [1] [] [(4, .v (slv b.mem.length pb.mem.1))] .nil fun ac S => ?_
 refine S.hq 3 [3] [] [(6, .p 0 1)] .nil fun ac S => ?_
 refine S.hq 4 [4] [] [(7, .v (slv b.guests.length pb.guests.1))] .nil fun ac S => ?_
 refine S.hq 6 [6] [] [(9, .p 0 2)] .nil fun ac S => ?_
 refine S.hq 7 [7] [] [(10, .v (slv b.outs.length pb.outs.1))] .nil fun ac S => ?_
 refine S.hq 9 [9] [] [(12, .p 0 3)] .nil fun ac S => ?_
 refine S.hq 10 [10] [] [(13, .v (I b.pend))] .nil fun ac S => ?_
 refine WD.one (i := 2) (by kernel_rfl) ?_
 refine id (S.k1 5 (c_impl_copyMem w b.mem pb.mem (S.rd (RBare.mem (d := b) (S.arg hb)))) fun ac w N q1 F2 S up o3 d4 => ?_)
 refine WD.next S up (by kernel_rfl) ?_
 clear up d4
 refine WD.one (i := 5) (by kernel_rfl) ?_
 refine id (S.k1 8 (c_impl_copyGuests w b.guests pb.guests (S.rd (RBare.guests (d := b) (S.arg hb)))) fun ac w N q5 F6 S up o7 d8 => ?_)
 refine WD.next S up (by kernel_rfl) ?_
 have d9 := Disj.w d8 o3.sub
 replace o3 := o3.up up
 clear up d8
 refine WD.one (i := 8) (by kernel_rfl) ?_
 refine id (S.k1 11 (c_impl_copyInts w b.outs pb.outs (S.rd (RBare.outs (d := b) (S.arg hb)))) fun ac w N q10 F11 S up o12 d13 => ?_)
 refine WD.next S up (by kernel_rfl) ?_
 have d14 := Disj.w d13 o3.sub
 have d15 := Disj.w d13 o7.sub
 replace o3 := o3.up up
 replace o7 := o7.up up
 clear up d13
 refine S.hq 11 [11] [] [(14, .v (GT.val (⟨b.mem, b.guests, b.outs, b.pend⟩ : TBare) (⟨q1, q5, q10⟩ : PBare)))] (.cons (Q_sem (s := Instr.build 50 [(0, slv b.mem.length q1.1), (1, slv b.guests.length q5.1), (2, slv b.outs.length q10.1), (3, I b.pend)].toArray) (v := .agg [slv b.mem.length q1.1, slv b.guests.length q5.1, slv b.outs.length q10.1, I b.pend].toArray) (fun w => by kernel_rfl)) .nil) fun ac S => ?_
 refine S.sl 12 [] [] 2 [(1, [slv b.mem.length q1.1, slv b.guests.length q5.1, slv b.outs.length q10.1, I b.pend])] .nil fun ac w β S => ?_
 refine WD.done (by kernel_rfl) ?_ _
 refine S.ex fun S => ?_
 refine S.gr 2 .nil [GT.val (⟨b.mem, b.guests, b.outs, b.pend⟩ : TBare) (⟨q1, q5, q10⟩ : PBare)] fun ac w β S => ?_
 have o16 := ow_Bare (x := (⟨b.mem, b.guests, b.outs, b.pend⟩ : TBare)) (p := (⟨q1, q5, q10⟩ : PBare)) o3 o7 o12 d9 d14 d15 (RBare.pend (d := b) (S.arg hb))
 exact ret1_of S (show b = (⟨b.mem, b.guests, b.outs, b.pend⟩ : TBare) by clear S; (first | rfl | simp)) rfl o16

theorem c_impl_copyBares (w0 : World) (l : List TBare) (pl : LP TBare) (hl : RD w0 l pl) : Calls Tryz.prog 32 [slv l.length pl.1].toArray w0 (Ret1 NoB w0 (l : List TBare)) := by
 refine Calls.run NoB Tryz.func32 ?_
 intro ac β S
 have hlel : l.length ≤ 4194304 := LRd.le hl
 refine S.go 7 .nil fun ac w β S => S.B0 (α := TBare) (d := 6) fun ac w N q1 F2 S up o3 d4 => ?_
 clear up d4
 refine S.go 12 .nil fun ac w β S => ?_
 refine lp (fun mm ac w => ∃ (k : Nat) (acc : List TBare) (q5 : _) (F6 : _) (u : _) (N : _) (β : _), mm = l.length - k ∧ (k ≤ l.length) ∧ (acc = l.take k) ∧ St Tryz.prog Tryz.f32.ntmps w0 NoB u N β ⟨[(3, .v (slv acc.length q5.1)), (7, .v (slv l.length pl.1)), (8, .v (I (l.length : Int))), (9, .v (I (k : Int)))], []⟩ ac w ∧ Ow w0 NoB u N F6 acc q5) _ ⟨0, ([] : List TBare), q1, F2, _, _, _, rfl, o0, (by simp), S.z, o3⟩ ?_
 clear S o3
 rintro f8 mm hf9 ac w ⟨k, acc, q5, F6, u, N, β, rfl, hk, hacc, S, o7⟩
 refine S.rs fun S => ?_
 have hlacc : acc.length = k := by rw [hacc]; simp; omega
 refine S.gd 6 .nil (decide ((k : Int) < (l.length : Int))) (fun ac w β h10 g11 S => ?_) (fun ac w β h10 g11 S => ?_)
 ·refine S.go 16 (.cons (qn (S.arg hl) k Tryz.underlying26) (.cons (qs (S.arg hl) 50 k) .nil)) fun ac w β S => S.K1 (r := (el l k)) (d := 15) (c_impl_copyBare w (el l k) (pl.2 k) (S.rd (LRd.el (S.arg hl) k (by omega)))) fun ac w N q12 F13 S up o14 d15 => ?_
  have d16 := Disj.w d15 o7.sub
  replace o7 := o7.up up
  clear up d15
  refine S.B1 (α := TBare) (x := (el l k)) (p := q12) o14.own o14.sub o14.young (d := 16) fun ac w N q17 F18 S up o19 d20 => ?_
  have d21 := d20 _ d16 o7.sub
  replace o7 := o7.up up
  clear up d20
  refine S.AO (α := TBare) o7 o19 d21 (by' := 80) (d := 17) (lx := acc.length) (ly := 1) rfl rfl (show _ ≤ 4194304 by simp only [List.length_append, List.length_cons, List.length_nil]; omega) fun ac w N q22 F23 S up o24 d25 => ?_
  clear up d25
  refine S.ge 8 (.cons (qp (k : Int) 1) .nil) f8 fun ac w β S => hf9.of (l.length - (k + 1)) _ _ (by omega) ⟨k + 1, (acc ++ [(el l k)]), q22, F23, _, _, _, rfl, ?_, ?_, S.z, o24⟩
  ·exact oz
  ·clear S; (first | (rw [take_el (by omega), hacc]; done) | (rw [take_el (by omega), hacc]; simp; done))
 refine S.gr 13 .nil [slv acc.length q5.1] fun ac w β S => ?_
 exact ret1_of S (show l = acc by clear S; (rw [hacc, take_all (by omega)])) rfl o7

theorem k0_impl_within {p : Prop} (h : p := by clear S; first | rfl | (simp [f_within, *]; done) | (simp [f_within, *]; omega) | (simp_all [f_within]; done) | (simp_all [f_within]; omega)) : p := h
theorem c_impl_within (w0 : World) (n : Int) (a : Int) (b : Int) : Calls Tryz.prog 82 [I n, I a, I b].toArray w0 (fun e w' => e = .returned (B (f_within n a b)) ∧ Chg NoB w0 w') := by
 refine Calls.run NoB Tryz.func82 ?_
 intro ac β S
 refine S.gd 11 .nil (decide (n ≥ a)) (fun ac w β h1 g2 S => ?_) (fun ac w β h1 g2 S => ?_)
 ·exact S.gf 8 .nil [B (decide (n ≤ b))] (retB k0_impl_within)
 exact S.gf 8 .nil [B false] (retB k0_impl_within)

theorem c_impl_ActOk (w0 : World) (a : TAct) : Calls Tryz.prog 33 [GT.val a ()].toArray w0 (fun e w' => e = .returned (B (f_actOk a)) ∧ Chg NoB w0 w') := by
 refine Calls.run NoB Tryz.func33 ?_
 intro ac β S
 exact S.gf 15 (.cons (Q_call fun w hw => c_impl_within w a.kind 1 17) .nil) [B (f_within a.kind 1 17)] (retB (by clear S; first | rfl | (simp [f_actOk, *]; done) | (simp [f_actOk, *]; omega) | (simp_all [f_actOk]; done) | (simp_all [f_actOk]; omega)))

theorem c_impl_IsOuter (w0 : World) (k : Int) : Calls Tryz.prog 34 [I k].toArray w0 (fun e w' => e = .returned (B (f_isOuter k)) ∧ Chg NoB w0 w') := by
 refine Calls.run NoB Tryz.func34 ?_
 intro ac β S
 exact S.gf 13 (.cons (Q_call fun w hw => c_impl_within w k 13 17) .nil) [B (f_within k 13 17)] (retB (by clear S; first | rfl | (simp [f_isOuter, *]; done) | (simp [f_isOuter, *]; omega) | (simp_all [f_isOuter]; done) | (simp_all [f_isOuter]; omega)))

theorem c_impl_has (w0 : World) (k : Int) (length : Int) (pre0 : -9223372036854775808 < length) : Calls Tryz.prog 35 [I k, I length].toArray w0 (fun e w' => e = .returned (B (f_within k 0 (length - 1))) ∧ Chg NoB w0 w') := by
 refine Calls.run NoB Tryz.func35 ?_
 intro ac β S
 refine S.gd 10 .nil (decide (k ≥ 0)) (fun ac w β h1 g2 S => ?_) (fun ac w β h1 g2 S => ?_)
 ·exact S.gf 8 .nil [B (decide (k < length))] (retB (by clear S; (rw [Bool.eq_iff_iff]; simp [f_within]; omega)))
 exact S.gf 8 .nil [B false] (retB (by clear S; (rw [Bool.eq_iff_iff]; simp [f_within]; omega)))

theorem k0_impl_GuestAt {p : Prop} (h : p := by clear S; (first | (unfold f_guestAt; rw [if_pos (by omega)]; done) | (unfold f_guestAt; rw [if_pos (by omega)]; first | rfl | (simp; done)) | (unfold f_guestAt; rw [if_neg (by omega)]; done) | (unfold f_guestAt; rw [if_neg (by omega)]; first | rfl | (simp; done)))) : p := h
theorem c_impl_GuestAt (w0 : World) (b : TBare) (pb : PBare) (hb : RD w0 b pb) (g : Int) : Calls Tryz.prog 126 [GT.val b pb, I g].toArray w0 (Ret2 NoB w0 ((f_guestAt b g).1 : TGuest) ((f_guestAt b g).2 : Bool)) := by
 refine Calls.run NoB Tryz.func126 ?_
 intro ac β S
 have hleb_mem : b.mem.length ≤ 4194304 := LRd.le (RBare.mem (d := b) hb)
 have hleb_guests : b.guests.length ≤ 4194304 := LRd.le (RBare.guests (d := b) hb)
 have hleb_outs : b.outs.length ≤ 4194304 := LRd.le (RBare.outs (d := b) hb)
 refine S.gb 18 (.cons (Q_call fun w hw => c_impl_has w g (b.guests.length : Int) (by omega)) .nil) (!(f_within g 0 ((b.guests.length : Int) - 1))) (fun ac w β h1 S => ?_) (fun ac w β h1 S => ?_)
 ·have h2 := not_t h1
  have g3 := within_f h2
  refine S.gr 9 (.cons (Q_sem (s := Instr.build 81 [].toArray) (v := .agg [slv ([] : List TIns).length (GT.pdflt (α := List TIns)).1, I 0, I 0, slv ([] : List TSlot).length (GT.pdflt (α := List TSlot)).1, slv ([] : List TSlot).length (GT.pdflt (α := List TSlot)).1, I 0, I 0, B false, I 0, I 0, I 0, B false, I 0, B false, slv ([] : List Int).length (GT.pdflt (α := List Int)).1].toArray) (fun w => by kernel_rfl)) .nil) [GT.val (⟨([] : List TIns), 0, 0, ([] : List TSlot), ([] : List TSlot), (⟨0, 0, false⟩ : TCtl), 0, (⟨0, 0, false, 0⟩ : TExit), false, ([] : List Int)⟩ : TGuest) (⟨(GT.pdflt (α := List TIns)), (GT.pdflt (α := List TSlot)), (GT.pdflt (α := List TSlot)), (GT.pdflt (α := List Int))⟩ : PGuest), B false] fun ac w β S => ?_
  have o4 := S.nilOw (α := TIns)
  have o5 := S.nilOw (α := TSlot)
  have o6 := S.nilOw (α := TSlot)
  have o7 := S.nilOw (α := Int)
  have o8 := ow_Guest (x := (⟨([] : List TIns), 0, 0, ([] : List TSlot), ([] : List TSlot), (⟨0, 0, false⟩ : TCtl), 0, (⟨0, 0, false, 0⟩ : TExit), false, ([] : List Int)⟩ : TGuest)) (p := (⟨(GT.pdflt (α := List TIns)), (GT.pdflt (α := List TSlot)), (GT.pdflt (α := List TSlot)), (GT.pdflt (α := List Int))⟩ : PGuest)) o4 o5 o6 o7 (fun b _ h => False.elim h) (fun b _ h => False.elim h) (fun b _ h => False.elim h) (fun b _ h => False.elim h) (fun b _ h => False.elim h) (fun b _ h => False.elim h) (show In64 0 from ⟨by decide, by decide⟩) (show In64 0 from ⟨by decide, by decide⟩) (show RCtl (⟨0, 0, false⟩ : TCtl) from ⟨(show In64 0 from ⟨by decide, by decide⟩), (show In64 0 from ⟨by decide, by decide⟩)⟩) (show In64 0 from ⟨by decide, by decide⟩) (show RExit (⟨0, 0, false, 0⟩ : TExit) from ⟨(show In64 0 from ⟨by decide, by decide⟩), (show In64 0 from ⟨by decide, by decide⟩), (show In64 0 from ⟨by decide, by decide⟩)⟩)
  exact ret2_of (p' := ()) S (show (f_guestAt b g).1 = (⟨([] : List TIns), 0, 0, ([] : List TSlot), ([] : List TSlot), (⟨0, 0, false⟩ : TCtl), 0, (⟨0, 0, false, 0⟩ : TExit), false, ([] : List Int)⟩ : TGuest) from k0_impl_GuestAt) (show (f_guestAt b g).2 = false from k0_impl_GuestAt) rfl rfl o8 trivial
 have h9 := not_f h1
 have g10 := within_t h9
 refine S.go 10 (.cons (qt (RBare.guests (d := b) (S.arg hb)) g Tryz.underlying48) (.cons (qs (RBare.guests (d := b) (S.arg hb)) 81 g.toNat) .nil)) fun ac w β S => S.K1 (r := (el b.guests g.toNat)) (d := 18) (c_impl_copyGuest w (el b.guests g.toNat) (pb.guests.2 g.toNat) (S.rd (LRd.el (RBare.guests (d := b) (S.arg hb)) g.toNat (by omega)))) fun ac w N q11 F12 S up o13 d14 => ?_
 clear up d14
 refine S.gr 5 .nil [GT.val (el b.guests g.toNat) q11, B true] fun ac w β S => ?_
 exact ret2_of (p' := ()) S (show (f_guestAt b g).1 = (el b.guests g.toNat) from k0_impl_GuestAt) (show (f_guestAt b g).2 = true from k0_impl_GuestAt) rfl rfl o13 trivial

theorem k0_impl_CanRun {p : Prop} (h : p := by clear S; first | rfl | (simp [f_canRun, *]; done) | (simp [f_canRun, *]; omega) | (simp_all [f_canRun]; done) | (simp_all [f_canRun]; omega)) : p := h
theorem c_impl_CanRun (w0 : World) (g : TGuest) (pg : PGuest) (hg : RD w0 g pg) : Calls Tryz.prog 180 [GT.val g pg].toArray w0 (fun e w' => e = .returned (B (f_canRun g)) ∧ Chg NoB w0 w') := by
 refine Calls.run NoB Tryz.func180 ?_
 intro ac β S
 have hleg_prog : g.prog.length ≤ 4194304 := LRd.le (RGuest.prog (d := g) hg)
 have hleg_written : g.written.length ≤ 4194304 := LRd.le (RGuest.written (d := g) hg)
 have hleg_live : g.live.length ≤ 4194304 := LRd.le (RGuest.live (d := g) hg)
 have hleg_seen : g.seen.length ≤ 4194304 := LRd.le (RGuest.seen (d := g) hg)
 refine S.gb 13 (.cons (Q_sem (s := Instr.build 79 [].toArray) (v := .agg [I 0, I 0, B false, I 0].toArray) (fun w => by kernel_rfl)) (.cons (Eq_eq_Exit (t := 79) g.exit (⟨0, 0, false, 0⟩ : TExit) (by kernel_rfl)) .nil)) (decide (g.exit = (⟨0, 0, false, 0⟩ : TExit))) (fun ac w β h1 S => ?_) (fun ac w β h1 S => ?_)
 ·exact S.gf 8 .nil [B (!g.halted)] (retB k0_impl_CanRun)
 exact S.gf 8 .nil [B false] (retB k0_impl_CanRun)

theorem c_impl_PendOk (w0 : World) (p : Int) : Calls Tryz.prog 184 [I p].toArray w0 (fun e w' => e = .returned (B (f_within p 0 255)) ∧ Chg NoB w0 w') := by
 refine Calls.run NoB Tryz.func184 ?_
 intro ac β S
 exact S.gf 13 (.cons (Q_call fun w hw => c_impl_within w p 0 255) .nil) [B (f_within p 0 255)] (retB (by clear S; first | rfl | (simp [f_within, *]; done) | (simp [f_within, *]; omega) | (simp_all [f_within]; done) | (simp_all [f_within]; omega)))

theorem k0_impl_TopIrq {p : Prop} (h : p := by clear S; (first | (exact (topIrq_out (by assumption)).symm) | (unfold f_topIrq; rw [if_pos (by assumption)]; done))) : p := h
theorem c_impl_TopIrq (w0 : World) (p : Int) : Calls Tryz.prog 192 [I p].toArray w0 (fun e w' => e = .returned (I (f_topIrq p)) ∧ Chg NoB w0 w') := by
 refine Calls.run NoB Tryz.func192 ?_
 intro ac β S
 refine S.gb 13 (.cons (Q_call fun w hw => c_impl_PendOk w p) .nil) (!(f_within p 0 255)) (fun ac w β h1 S => ?_) (fun ac w β h1 S => ?_)
 ·have h2 := not_t h1
  have g3 := within_f h2
  exact S.gf 7 .nil [I (-1)] (retI k0_impl_TopIrq)
 have h4 := not_f h1
 have g5 := within_t h4
 have b6 := bitLen_bd0 p
 exact S.gf 13 (.cons (Q_convu (s := 3) (d := 131) (x := p) Tryz.underlying3 Tryz.underlying131 (by omega) (by omega)) (.cons (Q_call fun w hw => c_math_bits_Len w p (by omega) (by omega)) (.cons (qm (f_bitLen p) 1) .nil))) [I ((f_bitLen p) - 1)] (retI k0_impl_TopIrq)

theorem c_impl_TakesIrq (w0 : World) (g : TGuest) (pg : PGuest) (hg : RD w0 g pg) : Calls Tryz.prog 181 [GT.val g pg].toArray w0 (fun e w' => e = .returned (B (f_takesIrq g)) ∧ Chg NoB w0 w') := by
 refine Calls.run NoB Tryz.func181 ?_
 intro ac β S
 have hleg_prog : g.prog.length ≤ 4194304 := LRd.le (RGuest.prog (d := g) hg)
 have hleg_written : g.written.length ≤ 4194304 := LRd.le (RGuest.written (d := g) hg)
 have hleg_live : g.live.length ≤ 4194304 := LRd.le (RGuest.live (d := g) hg)
 have hleg_seen : g.seen.length ≤ 4194304 := LRd.le (RGuest.seen (d := g) hg)
 refine S.gb 11 (.cons (Q_call fun w hw => c_impl_CanRun w g pg (rd_of (S.arg hg) hw)) .nil) (f_canRun g) (fun ac w β h1 S => ?_) (fun ac w β h1 S => ?_)
 ·refine S.gb 5 .nil g.ctl.opn (fun ac w β h2 S => ?_) (fun ac w β h2 S => ?_)
  ·have b3 := topIrq_bd g.pend
   exact S.gf 9 (.cons (Q_call fun w hw => c_impl_TopIrq w g.pend) .nil) [B (decide ((f_topIrq g.pend) ≥ 0))] (retB (by clear S; (simp [f_takesIrq, *])))
  exact S.gf 9 .nil [B false] (retB (by clear S; (simp [f_takesIrq, *])))
 exact S.gf 14 .nil [B false] (retB (by clear S; (simp [f_takesIrq, *])))

theorem k0_impl_InsAt {p : Prop} (h : p := by clear S; (first | (unfold f_insAt; rw [if_pos (by omega)]; done) | (unfold f_insAt; rw [if_pos (by omega)]; first | rfl | (simp; done)) | (unfold f_insAt; rw [if_neg (by omega)]; done) | (unfold f_insAt; rw [if_neg (by omega)]; first | rfl | (simp; done)))) : p := h
theorem c_impl_InsAt (w0 : World) (p : List TIns) (pp : LP TIns) (hp : RD w0 p pp) (pc : Int) : Calls Tryz.prog 130 [slv p.length pp.1, I pc].toArray w0 (fun e w' => e = .returned (GT.val (f_insAt p pc) ()) ∧ Chg NoB w0 w') := by
 refine Calls.run NoB Tryz.func130 ?_
 intro ac β S
 have hlep : p.length ≤ 4194304 := LRd.le hp
 refine S.gb 15 (.cons (Q_call fun w hw => c_impl_has w pc (p.length : Int) (by omega)) .nil) (!(f_within pc 0 ((p.length : Int) - 1))) (fun ac w β h1 S => ?_) (fun ac w β h1 S => ?_)
 ·have h2 := not_t h1
  have g3 := within_f h2
  exact S.gf 8 (.cons (Q_sem (s := Instr.build 98 [(0, I 7)].toArray) (v := .agg [I 7, I 0].toArray) (fun w => by kernel_rfl)) .nil) [GT.val (⟨7, 0⟩ : TIns) ()] (retV (p := ()) k0_impl_InsAt)
 have h4 := not_f h1
 have g5 := within_t h4
 exact S.gf 13 (.cons (qt (S.arg hp) pc Tryz.underlying76) (.cons (qs (S.arg hp) 98 pc.toNat) .nil)) [GT.val (el p pc.toNat) ()] (retV (p := ()) k0_impl_InsAt)

theorem k0_impl_WantOf {p : Prop} (h : p := by clear S; (unfold f_wantOf; first | (rw [if_pos (by assumption)]; done) | (rw [if_neg (by simp [*]), if_pos (by assumption)]; done) | (rw [if_neg (by simp [*]), if_neg (by simp [*])]; unfold f_wantOp; first | (rw [if_pos (by assumption)]; done) | (rw [if_neg (by assumption), if_pos (by assumption)]; done) | (rw [if_neg (by assumption), if_neg (by assumption), if_pos (by assumption)]; done) | (rw [if_neg (by assumption), if_neg (by assumption), if_neg (by assumption), if_pos (by assumption)]; done) | (rw [if_neg (by assumption), if_neg (by assumption), if_neg (by assumption), if_neg (by assumption), if_pos (by assumption)]; done) | (rw [if_neg (by assumption), if_neg (by assumption), if_neg (by assumption), if_neg (by assumption), if_neg (by assumption)]; done)))) : p := h
theorem c_impl_WantOf (w0 : World) (g : TGuest) (pg : PGuest) (hg : RD w0 g pg) : Calls Tryz.prog 127 [GT.val g pg].toArray w0 (fun e w' => e = .returned (I (f_wantOf g)) ∧ Chg NoB w0 w') := by
 refine Calls.run NoB Tryz.func127 ?_
 intro ac β S
 have hleg_prog : g.prog.length ≤ 4194304 := LRd.le (RGuest.prog (d := g) hg)
 have hleg_written : g.written.length ≤ 4194304 := LRd.le (RGuest.written (d := g) hg)
 have hleg_live : g.live.length ≤ 4194304 := LRd.le (RGuest.live (d := g) hg)
 have hleg_seen : g.seen.length ≤ 4194304 := LRd.le (RGuest.seen (d := g) hg)
 refine S.gb 16 (.cons (Q_call fun w hw => c_impl_CanRun w g pg (rd_of (S.arg hg) hw)) .nil) (!(f_canRun g)) (fun ac w β h1 S => ?_) (fun ac w β h1 S => ?_)
 ·have h2 := not_t h1
  exact S.gf 7 .nil [I 0] (retI k0_impl_WantOf)
 have h3 := not_f h1
 refine S.gb 8 (.cons (Q_call fun w hw => c_impl_TakesIrq w g pg (rd_of (S.arg hg) hw)) .nil) (f_takesIrq g) (fun ac w β h4 S => ?_) (fun ac w β h4 S => ?_)
 ·exact S.gf 7 .nil [I 1] (retI k0_impl_WantOf)
 refine S.gd 22 (.cons (Q_call fun w hw => c_impl_InsAt w g.prog pg.prog (rd_of (RGuest.prog (d := g) (S.arg hg)) hw) g.pc) .nil) ((f_insAt g.prog g.pc).opc == 3) (fun ac w β h5 g6 S => ?_) (fun ac w β h5 g6 S => ?_)
 ·exact S.gf 7 .nil [I 3] (retI k0_impl_WantOf)
 refine S.gd 7 .nil ((f_insAt g.prog g.pc).opc == 4) (fun ac w β h7 g8 S => ?_) (fun ac w β h7 g8 S => ?_)
 ·exact S.gf 7 .nil [I 4] (retI k0_impl_WantOf)
 refine S.gd 7 .nil ((f_insAt g.prog g.pc).opc == 5) (fun ac w β h9 g10 S => ?_) (fun ac w β h9 g10 S => ?_)
 ·exact S.gf 7 .nil [I 5] (retI k0_impl_WantOf)
 refine S.gd 7 .nil ((f_insAt g.prog g.pc).opc == 6) (fun ac w β h11 g12 S => ?_) (fun ac w β h11 g12 S => ?_)
 ·exact S.gf 7 .nil [I 6] (retI k0_impl_WantOf)
 refine S.gd 7 .nil ((f_insAt g.prog g.pc).opc == 7) (fun ac w β h13 g14 S => ?_) (fun ac w β h13 g14 S => ?_)
 ·exact S.gf 7 .nil [I 7] (retI k0_impl_WantOf)
 exact S.gf 10 .nil [I 2] (retI k0_impl_WantOf)

theorem k0_impl_InsOk {p : Prop} (h : p := by clear S; first | rfl | (simp [f_insOk, *]; done) | (simp [f_insOk, *]; omega) | (simp_all [f_insOk]; done) | (simp_all [f_insOk]; omega)) : p := h
theorem c_impl_InsOk (w0 : World) (i : TIns) : Calls Tryz.prog 209 [GT.val i ()].toArray w0 (fun e w' => e = .returned (B (f_insOk i)) ∧ Chg NoB w0 w') := by
 refine Calls.run NoB Tryz.func209 ?_
 intro ac β S
 refine S.gd 21 .nil (i.opc == 1) (fun ac w β h1 g2 S => ?_) (fun ac w β h1 g2 S => ?_)
 ·exact S.gf 13 (.cons (Q_call fun w hw => c_impl_within w i.x 0 99) .nil) [B (f_within i.x 0 99)] (retB k0_impl_InsOk)
 refine S.gd 7 .nil (i.opc == 2) (fun ac w β h3 g4 S => ?_) (fun ac w β h3 g4 S => ?_)
 ·exact S.gf 13 (.cons (Q_call fun w hw => c_impl_within w i.x 0 99) .nil) [B (f_within i.x 0 99)] (retB k0_impl_InsOk)
 refine S.gd 7 .nil (i.opc == 5) (fun ac w β h5 g6 S => ?_) (fun ac w β h5 g6 S => ?_)
 ·exact S.gf 13 (.cons (Q_call fun w hw => c_impl_within w i.x 0 99) .nil) [B (f_within i.x 0 99)] (retB k0_impl_InsOk)
 refine S.gd 6 .nil (i.opc == 6) (fun ac w β h7 g8 S => ?_) (fun ac w β h7 g8 S => ?_)
 ·exact S.gf 10 (.cons (Q_call fun w hw => c_impl_within w i.x 0 99) .nil) [B (f_within i.x 0 99)] (retB k0_impl_InsOk)
 refine S.gd 8 .nil (i.opc == 3) (fun ac w β h9 g10 S => ?_) (fun ac w β h9 g10 S => ?_)
 ·exact S.gf 13 (.cons (Q_call fun w hw => c_impl_within w i.x 0 15) .nil) [B (f_within i.x 0 15)] (retB k0_impl_InsOk)
 refine S.gd 6 .nil (i.opc == 4) (fun ac w β h11 g12 S => ?_) (fun ac w β h11 g12 S => ?_)
 ·exact S.gf 10 (.cons (Q_call fun w hw => c_impl_within w i.x 0 15) .nil) [B (f_within i.x 0 15)] (retB k0_impl_InsOk)
 refine S.gd 7 .nil (i.opc == 7) (fun ac w β h13 g14 S => ?_) (fun ac w β h13 g14 S => ?_)
 ·exact S.gf 10 .nil [B (i.x == 0)] (retB k0_impl_InsOk)
 refine S.gd 7 .nil (i.opc == 8) (fun ac w β h15 g16 S => ?_) (fun ac w β h15 g16 S => ?_)
 ·exact S.gf 10 (.cons (Q_call fun w hw => c_impl_within w i.x 0 11) .nil) [B (f_within i.x 0 11)] (retB k0_impl_InsOk)
 exact S.gf 10 .nil [B false] (retB k0_impl_InsOk)

theorem c_impl_ProgOk (w0 : World) (p : List TIns) (pp : LP TIns) (hp : RD w0 p pp) : Calls Tryz.prog 201 [slv p.length pp.1].toArray w0 (fun e w' => e = .returned (B (f_progOk p)) ∧ Chg NoB w0 w') := by
 refine Calls.run NoB Tryz.func201 ?_
 intro ac β S
 have hlep : p.length ≤ 4194304 := LRd.le hp
 refine S.go 14 .nil fun ac w β S => ?_
 refine lp (fun mm ac w => ∃ (k : Nat)  (u : _) (N : _) (β : _), mm = p.length - k ∧ (k ≤ p.length) ∧ ((p.take k).all f_insOk = true) ∧ St Tryz.prog Tryz.f201.ntmps w0 NoB u N β ⟨[(0, .v (slv p.length pp.1)), (5, .v (slv p.length pp.1)), (6, .v (I (p.length : Int))), (7, .v (I (k : Int)))], []⟩ ac w) _ ⟨0, _, _, _, rfl, o0, (by simp), S.z⟩ ?_
 clear S
 rintro f1 mm hf2 ac w ⟨k, u, N, β, rfl, hk, he, S⟩
 refine S.rs fun S => ?_
 refine S.gd 6 .nil (decide ((k : Int) < (p.length : Int))) (fun ac w β h3 g4 S => ?_) (fun ac w β h3 g4 S => ?_)
 ·refine S.gb 20 (.cons (qn (S.arg hp) k Tryz.underlying76) (.cons (qs (S.arg hp) 98 k) (.cons (Q_call fun w hw => c_impl_InsOk w (el p k)) .nil))) (!(f_insOk (el p k))) (fun ac w β h5 S => ?_) (fun ac w β h5 S => ?_)
  ·have h6 := not_t h5
   exact S.gf 7 .nil [B false] (retB (by clear S; (first | (unfold f_progOk; rw [all_bad (k := k) (by omega) (by first | assumption | simp_all)]; simp; done) | (unfold f_progOk; rw [all_end (by omega) he]; simp; done) | (unfold f_progOk; rw [all_end (by omega) he]; simp [*]; done) | (unfold f_progOk; rw [all_end (by omega) he]; simp; omega))))
  have h7 := not_f h5
  refine S.ge 8 (.cons (qp (k : Int) 1) .nil) f1 fun ac w β S => hf2.of (p.length - (k + 1)) _ _ (by omega) ⟨k + 1, _, _, _, rfl, ?_, ?_, S.z⟩
  ·exact oz
  ·clear S; exact all_step (by omega) he (by first | assumption | (simp only [f_slotOk, f_within] at *; simp_all; done) | (simp_all; done) | (simp_all; omega))
 exact S.gf 15 (.cons (Q_call fun w hw => c_impl_within w (p.length : Int) 1 12) .nil) [B (f_within (p.length : Int) 1 12)] (retB (by clear S; (first | (unfold f_progOk; rw [all_end (by omega) he]; simp; done) | (unfold f_progOk; rw [all_end (by omega) he]; simp [*]; done) | (unfold f_progOk; rw [all_end (by omega) he]; simp; omega) | (unfold f_progOk; rw [all_bad (k := k) (by omega) (by first | assumption | simp_all)]; simp; done))))

theorem c_impl_NoSlot (w0 : World)  : Calls Tryz.prog 188 [].toArray w0 (fun e w' => e = .returned (GT.val (⟨-1, 0⟩ : TSlot) ()) ∧ Chg NoB w0 w') := by
 refine Calls.run NoB Tryz.func188 ?_
 intro ac β S
 exact S.gf 12 (.cons (Q_sem (s := Instr.build 55 [(0, I (-1))].toArray) (v := .agg [I (-1), I 0].toArray) (fun w => by kernel_rfl)) .nil) [GT.val (⟨(-1), 0⟩ : TSlot) ()] (retV (p := ()) (by clear S; first | rfl | (simp [id, *]; done) | (simp [id, *]; omega) | (simp_all [id]; done) | (simp_all [id]; omega)))

theorem k0_impl_SlotOk {p : Prop} (h : p := by clear S; first | rfl | (simp [f_slotOk, *]; done) | (simp [f_slotOk, *]; omega) | (simp_all [f_slotOk]; done) | (simp_all [f_slotOk]; omega)) : p := h
theorem c_impl_SlotOk (w0 : World) (s : TSlot) (pages : Int) (pre0 : 0 ≤ pages) (pre1 : pages ≤ 1000) : Calls Tryz.prog 152 [GT.val s (), I pages].toArray w0 (fun e w' => e = .returned (B (f_slotOk s pages)) ∧ Chg NoB w0 w') := by
 refine Calls.run NoB Tryz.func152 ?_
 intro ac β S
 refine S.go 7 .nil fun ac w β S => ?_
 refine drw ?_
 rcases Bool.eq_false_or_eq_true (decide (s = (⟨-1, 0⟩ : TSlot))) with h1 | h1
 ·refine S.drawnO [(3, true)] (keep := [4]) (m := 0) (σ' := ⟨[(4, .v (B true))], []⟩) (.cons (Q_call fun w hw => c_impl_NoSlot w ) (.cons (Eq_eq_Slot (t := 55) s (⟨-1, 0⟩ : TSlot) (by kernel_rfl)) .nil)) rfl (by kernel_rfl) (by kernel_rfl) (.cons h1 .nil) fun ac w S => ?_
  refine S.ex fun S => ?_
  exact S.gf 2 .nil [B true] (retB k0_impl_SlotOk)
 ·rcases Bool.eq_false_or_eq_true (decide (pages > 0)) with h2 | h2
  ·have g3 := of_decide_eq_true h2
   rcases Bool.eq_false_or_eq_true (f_within s.page 0 (pages - 1)) with h4 | h4
   ·have g5 := within_t h4
    refine S.drawnO [(3, false), (6, true), (13, true)] (keep := [4]) (m := 0) (σ' := ⟨[(4, .v (B (f_within s.rights 1 3)))], []⟩) (.cons (Q_call fun w hw => c_impl_NoSlot w ) (.cons (Eq_eq_Slot (t := 55) s (⟨-1, 0⟩ : TSlot) (by kernel_rfl)) (.cons (qm pages 1) (.cons (Q_call fun w hw => c_impl_within w s.page 0 (pages - 1)) (.cons (Q_call fun w hw => c_impl_within w s.rights 1 3) .nil))))) rfl (by kernel_rfl) (by kernel_rfl) (.cons h1 (.cons h2 (.cons h4 .nil))) fun ac w S => ?_
    refine S.ex fun S => ?_
    exact S.gf 2 .nil [B (f_within s.rights 1 3)] (retB k0_impl_SlotOk)
   ·have g6 := within_f h4
    refine S.drawnO [(3, false), (6, true), (13, false)] (keep := [4]) (m := 0) (σ' := ⟨[(4, .v (B false))], []⟩) (.cons (Q_call fun w hw => c_impl_NoSlot w ) (.cons (Eq_eq_Slot (t := 55) s (⟨-1, 0⟩ : TSlot) (by kernel_rfl)) (.cons (qm pages 1) (.cons (Q_call fun w hw => c_impl_within w s.page 0 (pages - 1)) .nil)))) rfl (by kernel_rfl) (by kernel_rfl) (.cons h1 (.cons h2 (.cons h4 .nil))) fun ac w S => ?_
    refine S.ex fun S => ?_
    exact S.gf 2 .nil [B false] (retB k0_impl_SlotOk)
  ·have g7 := of_decide_eq_false h2
   refine S.drawnO [(3, false), (6, false)] (keep := [4]) (m := 0) (σ' := ⟨[(4, .v (B false))], []⟩) (.cons (Q_call fun w hw => c_impl_NoSlot w ) (.cons (Eq_eq_Slot (t := 55) s (⟨-1, 0⟩ : TSlot) (by kernel_rfl)) .nil)) rfl (by kernel_rfl) (by kernel_rfl) (.cons h1 (.cons h2 .nil)) fun ac w S => ?_
   refine S.ex fun S => ?_
   exact S.gf 2 .nil [B false] (retB k0_impl_SlotOk)

theorem c_impl_TableOk (w0 : World) (t : List TSlot) (pt : LP TSlot) (ht : RD w0 t pt) (size : Int) (pages : Int) (pre0 : 0 ≤ pages) (pre1 : pages ≤ 1000) : Calls Tryz.prog 202 [slv t.length pt.1, I size, I pages].toArray w0 (fun e w' => e = .returned (B (f_tableOk t size pages)) ∧ Chg NoB w0 w') := by
 refine Calls.run NoB Tryz.func202 ?_
 intro ac β S
 have hlet : t.length ≤ 4194304 := LRd.le ht
 refine S.go 14 .nil fun ac w β S => ?_
 refine lp (fun mm ac w => ∃ (k : Nat)  (u : _) (N : _) (β : _), mm = t.length - k ∧ (k ≤ t.length) ∧ ((t.take k).all (fun s => f_slotOk s pages) = true) ∧ St Tryz.prog Tryz.f202.ntmps w0 NoB u N β ⟨[(0, .v (slv t.length pt.1)), (1, .v (I size)), (2, .v (I pages)), (9, .v (slv t.length pt.1)), (10, .v (I (t.length : Int))), (11, .v (I (k : Int)))], []⟩ ac w) _ ⟨0, _, _, _, rfl, o0, (by simp), S.z⟩ ?_
 clear S
 rintro f1 mm hf2 ac w ⟨k, u, N, β, rfl, hk, he, S⟩
 refine S.rs fun S => ?_
 refine S.gd 6 .nil (decide ((k : Int) < (t.length : Int))) (fun ac w β h3 g4 S => ?_) (fun ac w β h3 g4 S => ?_)
 ·refine S.gb 21 (.cons (qn (S.arg ht) k Tryz.underlying77) (.cons (qs (S.arg ht) 55 k) (.cons (Q_call fun w hw => c_impl_SlotOk w (el t k) pages (by omega) (by omega)) .nil))) (!(f_slotOk (el t k) pages)) (fun ac w β h5 S => ?_) (fun ac w β h5 S => ?_)
  ·have h6 := not_t h5
   exact S.gf 7 .nil [B false] (retB (by clear S; (first | (unfold f_tableOk; rw [all_bad (k := k) (by omega) (by first | assumption | simp_all)]; simp; done) | (unfold f_tableOk; rw [all_end (by omega) he]; simp; done) | (unfold f_tableOk; rw [all_end (by omega) he]; simp [*]; done) | (unfold f_tableOk; rw [all_end (by omega) he]; simp; omega))))
  have h7 := not_f h5
  refine S.ge 8 (.cons (qp (k : Int) 1) .nil) f1 fun ac w β S => hf2.of (t.length - (k + 1)) _ _ (by omega) ⟨k + 1, _, _, _, rfl, ?_, ?_, S.z⟩
  ·exact oz
  ·clear S; exact all_step (by omega) he (by first | assumption | (simp only [f_slotOk, f_within] at *; simp_all; done) | (simp_all; done) | (simp_all; omega))
 exact S.gf 16 .nil [B ((t.length : Int) == size)] (retB (by clear S; (first | (unfold f_tableOk; rw [all_end (by omega) he]; simp; done) | (unfold f_tableOk; rw [all_end (by omega) he]; simp [*]; done) | (unfold f_tableOk; rw [all_end (by omega) he]; simp; omega) | (unfold f_tableOk; rw [all_bad (k := k) (by omega) (by first | assumption | simp_all)]; simp; done))))

theorem c_impl_CtlFaults (w0 : World) (c : TCtl) : Calls Tryz.prog 190 [GT.val c ()].toArray w0 (Ret1 NoB w0 (f_ctlFaults c : List Int)) := by
 refine Calls.run NoB Tryz.func190 ?_
 intro ac β S
 refine S.go 8 .nil fun ac w β S => S.B0 (α := Int) (d := 4) fun ac w N q1 F2 S up o3 d4 => ?_
 clear up d4
 refine S.go 12 (.cons (Q_call fun w hw => c_impl_within w c.traps 0 3) .nil) fun ac w β S => ?_
 refine cutC S (fun ac w => ∃ (acc1 : List Int) (q5 : _) (F6 : _) (u : _) (N : _) (β : _), (acc1 = (if f_within c.traps 0 3 then [] else [1])) ∧ St Tryz.prog Tryz.f190.ntmps w0 NoB u N β ⟨[(1, .p 0 0), (3, .v (slv acc1.length q5.1))], [GT.cells c ()]⟩ ac w ∧ Ow w0 NoB u N F6 acc1 q5) ?_ ?_
 ·clear S; intro S
  refine S.gb 0 .nil (!(f_within c.traps 0 3)) (fun ac w β h8 S => ?_) (fun ac w β h8 S => ?_)
  ·have h9 := not_t h8
   have g10 := within_f h9
   refine S.go 3 .nil fun ac w β S => S.B1 (α := Int) (x := 1) (p := ()) (F := NoB) (show In64 1 from ⟨by decide, by decide⟩) (fun b h => False.elim h) (fun b h => False.elim h) (d := 10) fun ac w N q11 F12 S up o13 d14 => ?_
   replace o3 := o3.up up
   clear up d14
   refine S.AF0 (α := Int) o3 o13.rn (fun _ _ h => h) (by' := 8) (d := 11) (lx := 0) (ly := 1) rfl fun ac w N q16 F17 S up o18 d19 => ?_
   clear up d19
   exact S.gn 2 .nil fun ac w β S => ⟨rfl, ([1]), q16, F17, _, _, _, (by clear S; (first | (rw [if_pos (by assumption)]; simp [*]; done) | (rw [if_neg (by simp [*])]; simp [*]; done) | ((repeat' split) <;> first | rfl | (simp; done) | (exfalso; simp_all; done) | (simp_all; done)))), S.z, o18⟩
  have h21 := not_f h8
  have g22 := within_t h21
  exact S.gn 2 .nil fun ac w β S => ⟨rfl, ([] : List Int), q1, F2, _, _, _, (by clear S; (first | (rw [if_pos (by assumption)]; simp [*]; done) | (rw [if_neg (by simp [*])]; simp [*]; done) | ((repeat' split) <;> first | rfl | (simp; done) | (exfalso; simp_all; done) | (simp_all; done)))), S.z, o3⟩
 clear S o3
 rintro ac w ⟨acc1, q5, F6, u, N, β, ha1, S, o7⟩
 have hl1 : acc1.length ≤ 1 := by rw [ha1]; (repeat' split) <;> simp
 refine S.ex fun S => ?_
 refine S.go 10 (.cons (Q_call fun w hw => c_impl_within w c.post 0 255) .nil) fun ac w β S => ?_
 refine cutC S (fun ac w => ∃ (acc2 : List Int) (q23 : _) (F24 : _) (u : _) (N : _) (β : _), (acc2 = (if f_within c.traps 0 3 then [] else [1]) ++ (if f_within c.post 0 255 then [] else [2])) ∧ St Tryz.prog Tryz.f190.ntmps w0 NoB u N β ⟨[(1, .p 0 0), (3, .v (slv acc2.length q23.1))], [GT.cells c ()]⟩ ac w ∧ Ow w0 NoB u N F24 acc2 q23) ?_ ?_
 ·clear S; intro S
  refine S.gb 0 .nil (!(f_within c.post 0 255)) (fun ac w β h26 S => ?_) (fun ac w β h26 S => ?_)
  ·have h27 := not_t h26
   have g28 := within_f h27
   refine S.go 3 .nil fun ac w β S => S.B1 (α := Int) (x := 2) (p := ()) (F := NoB) (show In64 2 from ⟨by decide, by decide⟩) (fun b h => False.elim h) (fun b h => False.elim h) (d := 17) fun ac w N q29 F30 S up o31 d32 => ?_
   replace o7 := o7.up up
   clear up d32
   refine S.AF (α := Int) o7 o31.rn (fun _ _ h => h) (by' := 8) (d := 18) (lx := acc1.length) (ly := 1) rfl rfl (show _ ≤ 4194304 by simp only [List.length_append, List.length_cons, List.length_nil]; omega) fun ac w N q34 F35 S up o36 d37 => ?_
   clear up d37
   exact S.gn 2 .nil fun ac w β S => ⟨rfl, (acc1 ++ [2]), q34, F35, _, _, _, (by clear S; (first | (rw [if_pos (by assumption)]; simp [*]; done) | (rw [if_neg (by simp [*])]; simp [*]; done) | (rw [ha1]; (repeat' split) <;> first | rfl | (simp; done) | (exfalso; simp_all; done) | (simp_all; done)))), S.z, o36⟩
  have h39 := not_f h26
  have g40 := within_t h39
  exact S.gn 2 .nil fun ac w β S => ⟨rfl, acc1, q5, F6, _, _, _, (by clear S; (first | (rw [if_pos (by assumption)]; simp [*]; done) | (rw [if_neg (by simp [*])]; simp [*]; done) | (rw [ha1]; (repeat' split) <;> first | rfl | (simp; done) | (exfalso; simp_all; done) | (simp_all; done)))), S.z, o7⟩
 clear S o7
 rintro ac w ⟨acc2, q23, F24, u, N, β, ha2, S, o25⟩
 have hl2 : acc2.length ≤ 2 := by rw [ha2]; (repeat' split) <;> simp
 refine S.ex fun S => ?_
 refine S.gd 8 .nil (c.post != 0) (fun ac w β h41 g42 S => ?_) (fun ac w β h41 g42 S => ?_)
 ·refine S.go 6 .nil fun ac w β S => ?_
  refine cutC S (fun ac w => ∃ (acc3 : List Int) (q43 : _) (F44 : _) (u : _) (N : _) (β : _), (acc3 = (if f_within c.traps 0 3 then [] else [1]) ++ (if f_within c.post 0 255 then [] else [2]) ++ (if c.post ≠ 0 ∧ c.opn = false then [3] else [])) ∧ St Tryz.prog Tryz.f190.ntmps w0 NoB u N β ⟨[(1, .p 0 0), (3, .v (slv acc3.length q43.1))], [GT.cells c ()]⟩ ac w ∧ Ow w0 NoB u N F44 acc3 q43) ?_ ?_
  ·clear S; intro S
   refine S.gb 0 .nil (!c.opn) (fun ac w β h46 S => ?_) (fun ac w β h46 S => ?_)
   ·have h47 := not_t h46
    refine S.go 3 .nil fun ac w β S => S.B1 (α := Int) (x := 3) (p := ()) (F := NoB) (show In64 3 from ⟨by decide, by decide⟩) (fun b h => False.elim h) (fun b h => False.elim h) (d := 28) fun ac w N q48 F49 S up o50 d51 => ?_
    replace o25 := o25.up up
    clear up d51
    refine S.AF (α := Int) o25 o50.rn (fun _ _ h => h) (by' := 8) (d := 29) (lx := acc2.length) (ly := 1) rfl rfl (show _ ≤ 4194304 by simp only [List.length_append, List.length_cons, List.length_nil]; omega) fun ac w N q53 F54 S up o55 d56 => ?_
    clear up d56
    exact S.gn 2 .nil fun ac w β S => ⟨rfl, (acc2 ++ [3]), q53, F54, _, _, _, (by clear S; (first | (rw [if_pos (by assumption)]; simp [*]; done) | (rw [if_neg (by simp [*])]; simp [*]; done) | (rw [ha2]; (repeat' split) <;> first | rfl | (simp; done) | (exfalso; simp_all; done) | (simp_all; done)))), S.z, o55⟩
   have h58 := not_f h46
   exact S.gn 2 .nil fun ac w β S => ⟨rfl, acc2, q23, F24, _, _, _, (by clear S; (first | (rw [if_pos (by assumption)]; simp [*]; done) | (rw [if_neg (by simp [*])]; simp [*]; done) | (rw [ha2]; (repeat' split) <;> first | rfl | (simp; done) | (exfalso; simp_all; done) | (simp_all; done)))), S.z, o25⟩
  clear S o25
  rintro ac w ⟨acc3, q43, F44, u, N, β, ha3, S, o45⟩
  have hl3 : acc3.length ≤ 3 := by rw [ha3]; (repeat' split) <;> simp
  refine S.ex fun S => ?_
  refine S.gd 8 .nil (c.traps == 2) (fun ac w β h59 g60 S => ?_) (fun ac w β h59 g60 S => ?_)
  ·refine S.go 6 .nil fun ac w β S => ?_
   refine cutC S (fun ac w => ∃ (acc4 : List Int) (q61 : _) (F62 : _) (u : _) (N : _) (β : _), (acc4 = (if f_within c.traps 0 3 then [] else [1]) ++ (if f_within c.post 0 255 then [] else [2]) ++ (if c.post ≠ 0 ∧ c.opn = false then [3] else []) ++ (if c.traps = 2 ∧ c.post ≠ 0 then [4] else [])) ∧ St Tryz.prog Tryz.f190.ntmps w0 NoB u N β ⟨[(3, .v (slv acc4.length q61.1))], []⟩ ac w ∧ Ow w0 NoB u N F62 acc4 q61) ?_ ?_
   ·clear S; intro S
    refine S.lt 37 h41 fun S => ?_
    refine S.go 3 .nil fun ac w β S => S.B1 (α := Int) (x := 4) (p := ()) (F := NoB) (show In64 4 from ⟨by decide, by decide⟩) (fun b h => False.elim h) (fun b h => False.elim h) (d := 39) fun ac w N q64 F65 S up o66 d67 => ?_
    replace o45 := o45.up up
    clear up d67
    refine S.AF (α := Int) o45 o66.rn (fun _ _ h => h) (by' := 8) (d := 40) (lx := acc3.length) (ly := 1) rfl rfl (show _ ≤ 4194304 by simp only [List.length_append, List.length_cons, List.length_nil]; omega) fun ac w N q69 F70 S up o71 d72 => ?_
    clear up d72
    exact S.gn 2 .nil fun ac w β S => ⟨rfl, (acc3 ++ [4]), q69, F70, _, _, _, (by clear S; (first | (rw [if_pos (by assumption)]; simp [*]; done) | (rw [if_neg (by simp [*])]; simp [*]; done) | (rw [ha3]; (repeat' split) <;> first | rfl | (simp; done) | (exfalso; simp_all; done) | (simp_all; done)))), S.z, o71⟩
   clear S o45
   rintro ac w ⟨acc4, q61, F62, u, N, β, ha4, S, o63⟩
   have hl4 : acc4.length ≤ 4 := by rw [ha4]; (repeat' split) <;> simp
   refine S.ex fun S => ?_
   refine S.gr 8 .nil [slv acc4.length q61.1] fun ac w β S => ?_
   exact ret1_of S (show f_ctlFaults c = acc4 by clear S; (rw [ha4]; rfl)) rfl o63
  refine S.go 6 .nil fun ac w β S => ?_
  refine cutC S (fun ac w => ∃ (acc4 : List Int) (q74 : _) (F75 : _) (u : _) (N : _) (β : _), (acc4 = (if f_within c.traps 0 3 then [] else [1]) ++ (if f_within c.post 0 255 then [] else [2]) ++ (if c.post ≠ 0 ∧ c.opn = false then [3] else []) ++ (if c.traps = 2 ∧ c.post ≠ 0 then [4] else [])) ∧ St Tryz.prog Tryz.f190.ntmps w0 NoB u N β ⟨[(3, .v (slv acc4.length q74.1))], []⟩ ac w ∧ Ow w0 NoB u N F75 acc4 q74) ?_ ?_
  ·clear S; intro S
   exact S.gn 2 .nil fun ac w β S => ⟨rfl, acc3, q43, F44, _, _, _, (by clear S; (first | (rw [if_pos (by assumption)]; simp [*]; done) | (rw [if_neg (by simp [*])]; simp [*]; done) | (rw [ha3]; (repeat' split) <;> first | rfl | (simp; done) | (exfalso; simp_all; done) | (simp_all; done)))), S.z, o45⟩
  clear S o45
  rintro ac w ⟨acc4, q74, F75, u, N, β, ha4, S, o76⟩
  have hl4 : acc4.length ≤ 4 := by rw [ha4]; (repeat' split) <;> simp
  refine S.ex fun S => ?_
  refine S.gr 8 .nil [slv acc4.length q74.1] fun ac w β S => ?_
  exact ret1_of S (show f_ctlFaults c = acc4 by clear S; (rw [ha4]; rfl)) rfl o76
 refine S.go 6 .nil fun ac w β S => ?_
 refine cutC S (fun ac w => ∃ (acc3 : List Int) (q77 : _) (F78 : _) (u : _) (N : _) (β : _), (acc3 = (if f_within c.traps 0 3 then [] else [1]) ++ (if f_within c.post 0 255 then [] else [2]) ++ (if c.post ≠ 0 ∧ c.opn = false then [3] else [])) ∧ St Tryz.prog Tryz.f190.ntmps w0 NoB u N β ⟨[(1, .p 0 0), (3, .v (slv acc3.length q77.1))], [GT.cells c ()]⟩ ac w ∧ Ow w0 NoB u N F78 acc3 q77) ?_ ?_
 ·clear S; intro S
  exact S.gn 2 .nil fun ac w β S => ⟨rfl, acc2, q23, F24, _, _, _, (by clear S; (first | (rw [if_pos (by assumption)]; simp [*]; done) | (rw [if_neg (by simp [*])]; simp [*]; done) | (rw [ha2]; (repeat' split) <;> first | rfl | (simp; done) | (exfalso; simp_all; done) | (simp_all; done)))), S.z, o25⟩
 clear S o25
 rintro ac w ⟨acc3, q77, F78, u, N, β, ha3, S, o79⟩
 have hl3 : acc3.length ≤ 3 := by rw [ha3]; (repeat' split) <;> simp
 refine S.ex fun S => ?_
 refine S.gd 8 .nil (c.traps == 2) (fun ac w β h80 g81 S => ?_) (fun ac w β h80 g81 S => ?_)
 ·refine S.go 6 .nil fun ac w β S => ?_
  refine cutC S (fun ac w => ∃ (acc4 : List Int) (q82 : _) (F83 : _) (u : _) (N : _) (β : _), (acc4 = (if f_within c.traps 0 3 then [] else [1]) ++ (if f_within c.post 0 255 then [] else [2]) ++ (if c.post ≠ 0 ∧ c.opn = false then [3] else []) ++ (if c.traps = 2 ∧ c.post ≠ 0 then [4] else [])) ∧ St Tryz.prog Tryz.f190.ntmps w0 NoB u N β ⟨[(3, .v (slv acc4.length q82.1))], []⟩ ac w ∧ Ow w0 NoB u N F83 acc4 q82) ?_ ?_
  ·clear S; intro S
   refine S.lt 37 h41 fun S => ?_
   exact S.gn 2 .nil fun ac w β S => ⟨rfl, acc3, q77, F78, _, _, _, (by clear S; (first | (rw [if_pos (by assumption)]; simp [*]; done) | (rw [if_neg (by simp [*])]; simp [*]; done) | (rw [ha3]; (repeat' split) <;> first | rfl | (simp; done) | (exfalso; simp_all; done) | (simp_all; done)))), S.z, o79⟩
  clear S o79
  rintro ac w ⟨acc4, q82, F83, u, N, β, ha4, S, o84⟩
  have hl4 : acc4.length ≤ 4 := by rw [ha4]; (repeat' split) <;> simp
  refine S.ex fun S => ?_
  refine S.gr 8 .nil [slv acc4.length q82.1] fun ac w β S => ?_
  exact ret1_of S (show f_ctlFaults c = acc4 by clear S; (rw [ha4]; rfl)) rfl o84
 refine S.go 6 .nil fun ac w β S => ?_
 refine cutC S (fun ac w => ∃ (acc4 : List Int) (q85 : _) (F86 : _) (u : _) (N : _) (β : _), (acc4 = (if f_within c.traps 0 3 then [] else [1]) ++ (if f_within c.post 0 255 then [] else [2]) ++ (if c.post ≠ 0 ∧ c.opn = false then [3] else []) ++ (if c.traps = 2 ∧ c.post ≠ 0 then [4] else [])) ∧ St Tryz.prog Tryz.f190.ntmps w0 NoB u N β ⟨[(3, .v (slv acc4.length q85.1))], []⟩ ac w ∧ Ow w0 NoB u N F86 acc4 q85) ?_ ?_
 ·clear S; intro S
  exact S.gn 2 .nil fun ac w β S => ⟨rfl, acc3, q77, F78, _, _, _, (by clear S; (first | (rw [if_pos (by assumption)]; simp [*]; done) | (rw [if_neg (by simp [*])]; simp [*]; done) | (rw [ha3]; (repeat' split) <;> first | rfl | (simp; done) | (exfalso; simp_all; done) | (simp_all; done)))), S.z, o79⟩
 clear S o79
 rintro ac w ⟨acc4, q85, F86, u, N, β, ha4, S, o87⟩
 have hl4 : acc4.length ≤ 4 := by rw [ha4]; (repeat' split) <;> simp
 refine S.ex fun S => ?_
 refine S.gr 8 .nil [slv acc4.length q85.1] fun ac w β S => ?_
 exact ret1_of S (show f_ctlFaults c = acc4 by clear S; (rw [ha4]; rfl)) rfl o87

theorem c_impl_CtlOk (w0 : World) (c : TCtl) : Calls Tryz.prog 162 [GT.val c ()].toArray w0 (fun e w' => e = .returned (B (f_ctlOk c)) ∧ Chg NoB w0 w') := by
 refine Calls.run NoB Tryz.func162 ?_
 intro ac β S
 refine S.go 9 .nil fun ac w β S => S.K1 (r := f_ctlFaults c) (d := 4) (c_impl_CtlFaults w c) fun ac w N q1 F2 S up o3 d4 => ?_
 clear up d4
 exact S.gf 6 .nil [B (((f_ctlFaults c).length : Int) == 0)] (retB (by clear S; first | rfl | (simp [f_ctlOk, *]; done) | (simp [f_ctlOk, *]; omega) | (simp_all [f_ctlOk]; done) | (simp_all [f_ctlOk]; omega)))

theorem k0_impl_ExitOk {p : Prop} (h : p := by clear S; (unfold f_exitOk; (repeat' split) <;> first | rfl | (exfalso; simp_all; done) | (exfalso; omega) | (rw [Bool.eq_iff_iff]; simp [TExit.ext_iff, *]; done) | (rw [Bool.eq_iff_iff]; simp_all [TExit.ext_iff, and_assoc]; done) | (rw [Bool.eq_iff_iff]; simp_all [TExit.ext_iff, and_assoc]; omega))) : p := h
theorem c_impl_ExitOk (w0 : World) (x : TExit) : Calls Tryz.prog 203 [GT.val x ()].toArray w0 (fun e w' => e = .returned (B (f_exitOk x)) ∧ Chg NoB w0 w') := by
 refine Calls.run NoB Tryz.func203 ?_
 intro ac β S
 refine S.gd 21 .nil (x.kind == 0) (fun ac w β h1 g2 S => ?_) (fun ac w β h1 g2 S => ?_)
 ·refine S.gd 10 .nil (x.page == 0) (fun ac w β h3 g4 S => ?_) (fun ac w β h3 g4 S => ?_)
  ·refine S.gb 5 .nil (!x.wr) (fun ac w β h5 S => ?_) (fun ac w β h5 S => ?_)
   ·have h6 := not_t h5
    exact S.gf 8 .nil [B (x.n == 0)] (retB k0_impl_ExitOk)
   have h7 := not_f h5
   exact S.gf 8 .nil [B false] (retB k0_impl_ExitOk)
  exact S.gf 13 .nil [B false] (retB k0_impl_ExitOk)
 refine S.gd 6 .nil (x.kind == 4) (fun ac w β h8 g9 S => ?_) (fun ac w β h8 g9 S => ?_)
 ·refine S.gd 7 .nil (x.page == 0) (fun ac w β h10 g11 S => ?_) (fun ac w β h10 g11 S => ?_)
  ·refine S.gb 5 .nil (!x.wr) (fun ac w β h12 S => ?_) (fun ac w β h12 S => ?_)
   ·have h13 := not_t h12
    exact S.gf 8 .nil [B (x.n == 0)] (retB k0_impl_ExitOk)
   have h14 := not_f h12
   exact S.gf 8 .nil [B false] (retB k0_impl_ExitOk)
  exact S.gf 13 .nil [B false] (retB k0_impl_ExitOk)
 refine S.gd 7 .nil (x.kind == 1) (fun ac w β h15 g16 S => ?_) (fun ac w β h15 g16 S => ?_)
 ·refine S.gb 7 (.cons (Q_call fun w hw => c_impl_within w x.page 0 3) .nil) (f_within x.page 0 3) (fun ac w β h17 S => ?_) (fun ac w β h17 S => ?_)
  ·have g18 := within_t h17
   exact S.gf 8 .nil [B (x.n == 0)] (retB k0_impl_ExitOk)
  have g19 := within_f h17
  exact S.gf 8 .nil [B false] (retB k0_impl_ExitOk)
 refine S.gd 8 .nil (x.kind == 2) (fun ac w β h20 g21 S => ?_) (fun ac w β h20 g21 S => ?_)
 ·refine S.gb 10 (.cons (Q_call fun w hw => c_impl_within w x.n 0 99) .nil) (f_within x.n 0 99) (fun ac w β h22 S => ?_) (fun ac w β h22 S => ?_)
  ·have g23 := within_t h22
   refine S.gd 5 .nil (x.page == 0) (fun ac w β h24 g25 S => ?_) (fun ac w β h24 g25 S => ?_)
   ·exact S.gf 8 .nil [B (!x.wr)] (retB k0_impl_ExitOk)
   exact S.gf 8 .nil [B false] (retB k0_impl_ExitOk)
  have g26 := within_f h22
  exact S.gf 13 .nil [B false] (retB k0_impl_ExitOk)
 refine S.gd 6 .nil (x.kind == 3) (fun ac w β h27 g28 S => ?_) (fun ac w β h27 g28 S => ?_)
 ·refine S.gb 7 (.cons (Q_call fun w hw => c_impl_within w x.n 0 99) .nil) (f_within x.n 0 99) (fun ac w β h29 S => ?_) (fun ac w β h29 S => ?_)
  ·have g30 := within_t h29
   refine S.gd 5 .nil (x.page == 0) (fun ac w β h31 g32 S => ?_) (fun ac w β h31 g32 S => ?_)
   ·exact S.gf 8 .nil [B (!x.wr)] (retB k0_impl_ExitOk)
   exact S.gf 8 .nil [B false] (retB k0_impl_ExitOk)
  have g33 := within_f h29
  exact S.gf 13 .nil [B false] (retB k0_impl_ExitOk)
 exact S.gf 10 .nil [B false] (retB k0_impl_ExitOk)

theorem k0_impl_GuestOk {p : Prop} (h : p := by clear S; first | rfl | (simp [f_guestOk, *]; done) | (simp [f_guestOk, *]; omega) | (simp_all [f_guestOk]; done) | (simp_all [f_guestOk]; omega)) : p := h
theorem c_impl_GuestOk (w0 : World) (g : TGuest) (pg : PGuest) (hg : RD w0 g pg) : Calls Tryz.prog 182 [GT.val g pg].toArray w0 (fun e w' => e = .returned (B (f_guestOk g)) ∧ Chg NoB w0 w') := by
 refine Calls.run NoB Tryz.func182 ?_
 intro ac β S
 have hleg_prog : g.prog.length ≤ 4194304 := LRd.le (RGuest.prog (d := g) hg)
 have hleg_written : g.written.length ≤ 4194304 := LRd.le (RGuest.written (d := g) hg)
 have hleg_live : g.live.length ≤ 4194304 := LRd.le (RGuest.live (d := g) hg)
 have hleg_seen : g.seen.length ≤ 4194304 := LRd.le (RGuest.seen (d := g) hg)
 refine S.gb 12 (.cons (Q_call fun w hw => c_impl_ProgOk w g.prog pg.prog (rd_of (RGuest.prog (d := g) (S.arg hg)) hw)) .nil) (f_progOk g.prog) (fun ac w β h1 S => ?_) (fun ac w β h1 S => ?_)
 ·refine S.gb 5 (.cons (Q_call fun w hw => c_impl_within w g.acc 0 99) .nil) (f_within g.acc 0 99) (fun ac w β h2 S => ?_) (fun ac w β h2 S => ?_)
  ·have g3 := within_t h2
   refine S.gb 5 (.cons (Q_call fun w hw => c_impl_within w g.pc 0 12) .nil) (f_within g.pc 0 12) (fun ac w β h4 S => ?_) (fun ac w β h4 S => ?_)
   ·have g5 := within_t h4
    refine S.gb 5 (.cons (Q_call fun w hw => c_impl_TableOk w g.written pg.written (rd_of (RGuest.written (d := g) (S.arg hg)) hw) 4 8 (by omega) (by omega)) .nil) (f_tableOk g.written 4 8) (fun ac w β h6 S => ?_) (fun ac w β h6 S => ?_)
    ·have g7 := tableOk_t h6
     refine S.gb 5 (.cons (Q_call fun w hw => c_impl_TableOk w g.live pg.live (rd_of (RGuest.live (d := g) (S.arg hg)) hw) 4 8 (by omega) (by omega)) .nil) (f_tableOk g.live 4 8) (fun ac w β h8 S => ?_) (fun ac w β h8 S => ?_)
     ·have g9 := tableOk_t h8
      refine S.gb 5 (.cons (Q_call fun w hw => c_impl_CtlOk w g.ctl) .nil) (f_ctlOk g.ctl) (fun ac w β h10 S => ?_) (fun ac w β h10 S => ?_)
      ·refine S.gb 5 (.cons (Q_call fun w hw => c_impl_PendOk w g.pend) .nil) (f_within g.pend 0 255) (fun ac w β h11 S => ?_) (fun ac w β h11 S => ?_)
       ·have g12 := within_t h11
        refine S.gb 5 (.cons (Q_call fun w hw => c_impl_ExitOk w g.exit) .nil) (f_exitOk g.exit) (fun ac w β h13 S => ?_) (fun ac w β h13 S => ?_)
        ·exact S.gf 9 .nil [B (decide ((g.seen.length : Int) ≤ 40))] (retB k0_impl_GuestOk)
        exact S.gf 9 .nil [B false] (retB k0_impl_GuestOk)
       have g14 := within_f h11
       exact S.gf 14 .nil [B false] (retB k0_impl_GuestOk)
      exact S.gf 19 .nil [B false] (retB k0_impl_GuestOk)
     exact S.gf 24 .nil [B false] (retB k0_impl_GuestOk)
    exact S.gf 29 .nil [B false] (retB k0_impl_GuestOk)
   have g15 := within_f h4
   exact S.gf 34 .nil [B false] (retB k0_impl_GuestOk)
  have g16 := within_f h2
  exact S.gf 39 .nil [B false] (retB k0_impl_GuestOk)
 exact S.gf 44 .nil [B false] (retB k0_impl_GuestOk)

theorem c_impl_PageOk (w0 : World) (cells : List Int) (pcells : LP Int) (hcells : RD w0 cells pcells) : Calls Tryz.prog 204 [slv cells.length pcells.1].toArray w0 (fun e w' => e = .returned (B (f_pageOk cells)) ∧ Chg NoB w0 w') := by
 refine Calls.run NoB Tryz.func204 ?_
 intro ac β S
 have hlecells : cells.length ≤ 4194304 := LRd.le hcells
 refine S.go 14 .nil fun ac w β S => ?_
 refine lp (fun mm ac w => ∃ (k : Nat)  (u : _) (N : _) (β : _), mm = cells.length - k ∧ (k ≤ cells.length) ∧ ((cells.take k).all (fun v => f_within v 0 99) = true) ∧ St Tryz.prog Tryz.f204.ntmps w0 NoB u N β ⟨[(0, .v (slv cells.length pcells.1)), (5, .v (slv cells.length pcells.1)), (6, .v (I (cells.length : Int))), (7, .v (I (k : Int)))], []⟩ ac w) _ ⟨0, _, _, _, rfl, o0, (by simp), S.z⟩ ?_
 clear S
 rintro f1 mm hf2 ac w ⟨k, u, N, β, rfl, hk, he, S⟩
 refine S.rs fun S => ?_
 refine S.gd 6 .nil (decide ((k : Int) < (cells.length : Int))) (fun ac w β h3 g4 S => ?_) (fun ac w β h3 g4 S => ?_)
 ·refine S.gb 19 (.cons (qn (S.arg hcells) k Tryz.underlying41) (.cons (qx (S.arg hcells) 3 k) (.cons (Q_call fun w hw => c_impl_within w (el cells k) 0 99) .nil))) (!(f_within (el cells k) 0 99)) (fun ac w β h5 S => ?_) (fun ac w β h5 S => ?_)
  ·have h6 := not_t h5
   have g7 := within_f h6
   exact S.gf 7 .nil [B false] (retB (by clear S; (first | (unfold f_pageOk; rw [all_bad (k := k) (by omega) (by first | assumption | simp_all)]; simp; done) | (unfold f_pageOk; rw [all_end (by omega) he]; simp; done) | (unfold f_pageOk; rw [all_end (by omega) he]; simp [*]; done) | (unfold f_pageOk; rw [all_end (by omega) he]; simp; omega))))
  have h8 := not_f h5
  have g9 := within_t h8
  refine S.ge 8 (.cons (qp (k : Int) 1) .nil) f1 fun ac w β S => hf2.of (cells.length - (k + 1)) _ _ (by omega) ⟨k + 1, _, _, _, rfl, ?_, ?_, S.z⟩
  ·exact oz
  ·clear S; exact all_step (by omega) he (by first | assumption | (simp only [f_slotOk, f_within] at *; simp_all; done) | (simp_all; done) | (simp_all; omega))
 exact S.gf 15 .nil [B ((cells.length : Int) == 4)] (retB (by clear S; (first | (unfold f_pageOk; rw [all_end (by omega) he]; simp; done) | (unfold f_pageOk; rw [all_end (by omega) he]; simp [*]; done) | (unfold f_pageOk; rw [all_end (by omega) he]; simp; omega) | (unfold f_pageOk; rw [all_bad (k := k) (by omega) (by first | assumption | simp_all)]; simp; done))))

theorem c_impl_MemOk (w0 : World) (m : List (List Int)) (pm : LP (List Int)) (hm : RD w0 m pm) (pages : Int) : Calls Tryz.prog 183 [slv m.length pm.1, I pages].toArray w0 (fun e w' => e = .returned (B (f_memOk m pages)) ∧ Chg NoB w0 w') := by
 refine Calls.run NoB Tryz.func183 ?_
 intro ac β S
 have hlem : m.length ≤ 4194304 := LRd.le hm
 refine S.go 14 .nil fun ac w β S => ?_
 refine lp (fun mm ac w => ∃ (k : Nat)  (u : _) (N : _) (β : _), mm = m.length - k ∧ (k ≤ m.length) ∧ ((m.take k).all f_pageOk = true) ∧ St Tryz.prog Tryz.f183.ntmps w0 NoB u N β ⟨[(0, .v (slv m.length pm.1)), (1, .v (I pages)), (7, .v (slv m.length pm.1)), (8, .v (I (m.length : Int))), (9, .v (I (k : Int)))], []⟩ ac w) _ ⟨0, _, _, _, rfl, o0, (by simp), S.z⟩ ?_
 clear S
 rintro f1 mm hf2 ac w ⟨k, u, N, β, rfl, hk, he, S⟩
 refine S.rs fun S => ?_
 refine S.gd 6 .nil (decide ((k : Int) < (m.length : Int))) (fun ac w β h3 g4 S => ?_) (fun ac w β h3 g4 S => ?_)
 ·refine S.gb 19 (.cons (qn (S.arg hm) k Tryz.underlying39) (.cons (qx (S.arg hm) 41 k) (.cons (Q_call fun w hw => c_impl_PageOk w (el m k) (pm.2 k) (rd_of (LRd.el (S.arg hm) k (by omega)) hw)) .nil))) (!(f_pageOk (el m k))) (fun ac w β h5 S => ?_) (fun ac w β h5 S => ?_)
  ·have h6 := not_t h5
   exact S.gf 7 .nil [B false] (retB (by clear S; (first | (unfold f_memOk; rw [all_bad (k := k) (by omega) (by first | assumption | simp_all)]; simp; done) | (unfold f_memOk; rw [all_end (by omega) he]; simp; done) | (unfold f_memOk; rw [all_end (by omega) he]; simp [*]; done) | (unfold f_memOk; rw [all_end (by omega) he]; simp; omega))))
  have h7 := not_f h5
  refine S.ge 8 (.cons (qp (k : Int) 1) .nil) f1 fun ac w β S => hf2.of (m.length - (k + 1)) _ _ (by omega) ⟨k + 1, _, _, _, rfl, ?_, ?_, S.z⟩
  ·exact oz
  ·clear S; exact all_step (by omega) he (by first | assumption | (simp only [f_slotOk, f_within] at *; simp_all; done) | (simp_all; done) | (simp_all; omega))
 exact S.gf 16 .nil [B ((m.length : Int) == pages)] (retB (by clear S; (first | (unfold f_memOk; rw [all_end (by omega) he]; simp; done) | (unfold f_memOk; rw [all_end (by omega) he]; simp [*]; done) | (unfold f_memOk; rw [all_end (by omega) he]; simp; omega) | (unfold f_memOk; rw [all_bad (k := k) (by omega) (by first | assumption | simp_all)]; simp; done))))

theorem k1_impl_BareOk {p : Prop} (h : p := by clear S; (symm; rw [← Bool.not_eq_true]; intro hc; simp only [f_bareOk, Bool.and_eq_true, decide_eq_true_eq, beq_iff_eq] at hc; first | omega | (simp_all; done) | (simp_all; omega) | (have hx := all_el (k := k) hc.1.1.1.1 (by omega); simp_all; done))) : p := h
theorem c_impl_BareOk (w0 : World) (b : TBare) (pb : PBare) (hb : RD w0 b pb) : Calls Tryz.prog 128 [GT.val b pb].toArray w0 (fun e w' => e = .returned (B (f_bareOk b)) ∧ Chg NoB w0 w') := by
 refine Calls.run NoB Tryz.func128 ?_
 intro ac β S
 have hleb_mem : b.mem.length ≤ 4194304 := LRd.le (RBare.mem (d := b) hb)
 have hleb_guests : b.guests.length ≤ 4194304 := LRd.le (RBare.guests (d := b) hb)
 have hleb_outs : b.outs.length ≤ 4194304 := LRd.le (RBare.outs (d := b) hb)
 refine S.go 16 .nil fun ac w β S => ?_
 refine lp (fun mm ac w => ∃ (k : Nat)  (u : _) (N : _) (β : _), mm = b.guests.length - k ∧ (k ≤ b.guests.length) ∧ ((b.guests.take k).all f_guestOk = true) ∧ St Tryz.prog Tryz.f128.ntmps w0 NoB u N β ⟨[(1, .p 0 0), (6, .v (slv b.guests.length pb.guests.1)), (7, .v (I (b.guests.length : Int))), (8, .v (I (k : Int)))], [GT.cells b pb]⟩ ac w) _ ⟨0, _, _, _, rfl, o0, (by simp), S.z⟩ ?_
 clear S
 rintro f1 mm hf2 ac w ⟨k, u, N, β, rfl, hk, he, S⟩
 refine S.rs fun S => ?_
 refine S.gd 6 .nil (decide ((k : Int) < (b.guests.length : Int))) (fun ac w β h3 g4 S => ?_) (fun ac w β h3 g4 S => ?_)
 ·refine S.gb 20 (.cons (qn (RBare.guests (d := b) (S.arg hb)) k Tryz.underlying48) (.cons (qs (RBare.guests (d := b) (S.arg hb)) 81 k) (.cons (Q_call fun w hw => c_impl_GuestOk w (el b.guests k) (pb.guests.2 k) (rd_of (LRd.el (RBare.guests (d := b) (S.arg hb)) k (by omega)) hw)) .nil))) (!(f_guestOk (el b.guests k))) (fun ac w β h5 S => ?_) (fun ac w β h5 S => ?_)
  ·have h6 := not_t h5
   exact S.gf 7 .nil [B false] (retB k1_impl_BareOk)
  have h7 := not_f h5
  refine S.ge 8 (.cons (qp (k : Int) 1) .nil) f1 fun ac w β S => hf2.of (b.guests.length - (k + 1)) _ _ (by omega) ⟨k + 1, _, _, _, rfl, ?_, ?_, S.z⟩
  ·exact oz
  ·clear S; exact all_step (by omega) he (by first | assumption | simp_all)
 refine S.gb 12 (.cons (Q_call fun w hw => c_impl_MemOk w b.mem pb.mem (rd_of (RBare.mem (d := b) (S.arg hb)) hw) 8) .nil) (f_memOk b.mem 8) (fun ac w β h8 S => ?_) (fun ac w β h8 S => ?_)
 ·refine S.gb 6 (.cons (Q_call fun w hw => c_impl_within w (b.guests.length : Int) 1 2) .nil) (f_within (b.guests.length : Int) 1 2) (fun ac w β h9 S => ?_) (fun ac w β h9 S => ?_)
  ·have g10 := within_t h9
   refine S.gd 6 .nil (decide ((b.outs.length : Int) ≤ 40)) (fun ac w β h11 g12 S => ?_) (fun ac w β h11 g12 S => ?_)
   ·exact S.gf 8 (.cons (Q_call fun w hw => c_impl_PendOk w b.pend) .nil) [B (f_within b.pend 0 255)] (retB (by clear S; (first | rfl | (symm; rw [← Bool.not_eq_true]; intro hc; simp only [f_bareOk, Bool.and_eq_true, decide_eq_true_eq, beq_iff_eq] at hc; first | omega | (simp_all; done) | (simp_all; omega) | (have hx := all_el (k := k) hc.1.1.1.1 (by omega); simp_all; done)) | (symm; simp only [f_bareOk, Bool.and_eq_true, decide_eq_true_eq, beq_iff_eq]; (repeat' apply And.intro); all_goals first | assumption | omega | (simp_all; done) | (simp_all; omega) | (exact all_end (by omega) he)) | (rw [Bool.eq_iff_iff]; simp only [f_bareOk, Bool.and_eq_true, decide_eq_true_eq, beq_iff_eq]; refine ⟨fun hr => ?_, fun hc => ?_⟩ <;> ((repeat' apply And.intro); all_goals first | assumption | omega | (simp_all; done) | (simp_all; omega) | (exact all_end (by omega) he))))))
   exact S.gf 8 .nil [B false] (retB k1_impl_BareOk)
  have g13 := within_f h9
  exact S.gf 14 .nil [B false] (retB k1_impl_BareOk)
 exact S.gf 20 .nil [B false] (retB k1_impl_BareOk)

theorem k0_impl_Address {p : Prop} (h : p := by clear S; (unfold f_address; first | (rw [if_pos (by first | exact Or.inl (by assumption) | exact Or.inr (by assumption) | omega)]; done) | (rw [if_neg (by omega)]; done))) : p := h
theorem c_impl_Address (w0 : World) (g : TGuest) (pg : PGuest) (hg : RD w0 g pg) : Calls Tryz.prog 129 [GT.val g pg].toArray w0 (fun e w' => e = .returned (I (f_address g)) ∧ Chg NoB w0 w') := by
 refine Calls.run NoB Tryz.func129 ?_
 intro ac β S
 have hleg_prog : g.prog.length ≤ 4194304 := LRd.le (RGuest.prog (d := g) hg)
 have hleg_written : g.written.length ≤ 4194304 := LRd.le (RGuest.written (d := g) hg)
 have hleg_live : g.live.length ≤ 4194304 := LRd.le (RGuest.live (d := g) hg)
 have hleg_seen : g.seen.length ≤ 4194304 := LRd.le (RGuest.seen (d := g) hg)
 have b1 := wantOf_bd g
 refine S.gd 19 (.cons (Q_call fun w hw => c_impl_WantOf w g pg (rd_of (S.arg hg) hw)) .nil) ((f_wantOf g) != 3) (fun ac w β h2 g3 S => ?_) (fun ac w β h2 g3 S => ?_)
 ·refine S.gd 5 .nil ((f_wantOf g) != 4) (fun ac w β h4 g5 S => ?_) (fun ac w β h4 g5 S => ?_)
  ·exact S.gf 7 .nil [I (-1)] (retI k0_impl_Address)
  exact S.gf 15 (.cons (Q_call fun w hw => c_impl_InsAt w g.prog pg.prog (rd_of (RGuest.prog (d := g) (S.arg hg)) hw) g.pc) .nil) [I (f_insAt g.prog g.pc).x] (retI k0_impl_Address)
 exact S.gf 20 (.cons (Q_call fun w hw => c_impl_InsAt w g.prog pg.prog (rd_of (RGuest.prog (d := g) (S.arg hg)) hw) g.pc) .nil) [I (f_insAt g.prog g.pc).x] (retI k0_impl_Address)

theorem k0_impl_TakeIrq {p : Prop} (h : p := by clear S; (first | (unfold f_takeIrq; rw [if_pos (by assumption)]; done) | (unfold f_takeIrq; rw [if_neg (by assumption)]; done) | (unfold f_takeIrq; rw [if_neg (by assumption)]; exact take_eq (by assumption)) | (unfold f_takeIrq; rw [if_neg (by assumption)]; exact (take_eq (by assumption)).symm))) : p := h
theorem c_impl_TakeIrq (w0 : World) (p : Int) (hp : In64 p) : Calls Tryz.prog 165 [I p].toArray w0 (fun e w' => e = .returned (.tuple #[I (f_takeIrq p).1, I (f_takeIrq p).2.1, B (f_takeIrq p).2.2]) ∧ Chg NoB w0 w') := by
 refine Calls.run NoB Tryz.func165 ?_
 intro ac β S
 have hlop := hp.lo; have hhip := hp.hi
 have b1 := topIrq_bd p
 refine S.gd 21 (.cons (Q_call fun w hw => c_impl_TopIrq w p) .nil) (decide ((f_topIrq p) < 0)) (fun ac w β h2 g3 S => ?_) (fun ac w β h2 g3 S => ?_)
 ·exact S.gf 10 .nil [I p, I (-1), B false] (ret3v (eqI (show p = (f_takeIrq p).1 from k0_impl_TakeIrq)) (eqI (show (-1) = (f_takeIrq p).2.1 from k0_impl_TakeIrq)) (eqB (show false = (f_takeIrq p).2.2 from k0_impl_TakeIrq)))
 exact S.gf 16 (.cons (Q_shl (yk := .i64) (x := 1) (y := (f_topIrq p)) (by omega)) (.cons (Q_landn64 (x := p) (y := (shl64 1 (f_topIrq p)))) .nil)) [I (landn64 p (shl64 1 (f_topIrq p))), I (f_topIrq p), B true] (ret3v (eqI (show (landn64 p (shl64 1 (f_topIrq p))) = (f_takeIrq p).1 from k0_impl_TakeIrq)) (eqI (show (f_topIrq p) = (f_takeIrq p).2.1 from k0_impl_TakeIrq)) (eqB (show true = (f_takeIrq p).2.2 from k0_impl_TakeIrq)))

theorem k0_impl_Saw {p : Prop} (h : p := by clear S; (first | (unfold f_saw; rw [if_pos (by omega)]; done) | (unfold f_saw; rw [if_pos (by omega)]; first | rfl | (simp; done)) | (unfold f_saw; rw [if_neg (by omega)]; done) | (unfold f_saw; rw [if_neg (by omega)]; first | rfl | (simp; done)))) : p := h
theorem c_impl_Saw (w0 : World) (g : TGuest) (pg : PGuest) (hg : RD w0 g pg) (n : Int) (hn : In64 n) : Calls Tryz.prog 185 [GT.val g pg, I n].toArray w0 (Ret1 NoB w0 (f_saw g n : TGuest)) := by
 refine Calls.run NoB Tryz.func185 ?_
 intro ac β S
 have hleg_prog : g.prog.length ≤ 4194304 := LRd.le (RGuest.prog (d := g) hg)
 have hleg_written : g.written.length ≤ 4194304 := LRd.le (RGuest.written (d := g) hg)
 have hleg_live : g.live.length ≤ 4194304 := LRd.le (RGuest.live (d := g) hg)
 have hleg_seen : g.seen.length ≤ 4194304 := LRd.le (RGuest.seen (d := g) hg)
 have hlon := hn.lo; have hhin := hn.hi
 refine S.go 9 .nil fun ac w β S => S.K1 (r := g) (d := 7) (c_impl_copyGuest w g pg (S.rd (S.arg hg))) fun ac w N q1 F2 S up o3 d4 => ?_
 clear up d4
 have i8 : In64 g.acc := RGuest.acc (d := g) o3.rn
 have i9 : In64 g.pc := RGuest.pc (d := g) o3.rn
 have i16 : RCtl g.ctl := RGuest.ctl (d := g) o3.rn
 have i17 : In64 g.pend := RGuest.pend (d := g) o3.rn
 have i18 : RExit g.exit := RGuest.exit (d := g) o3.rn
 obtain ⟨F5, F10, F13, F19, o6, o11, o14, o20, _, _, _, _, d22, d23, d24, d25, d26, d27⟩ := sp_Guest o3
 refine S.gd 13 .nil (decide ((g.seen.length : Int) < 40)) (fun ac w β h28 g29 S => ?_) (fun ac w β h28 g29 S => ?_)
 ·refine S.go 5 .nil fun ac w β S => S.B1 (α := Int) (x := n) (p := ()) (F := NoB) hn (fun b h => False.elim h) (fun b h => False.elim h) (d := 15) fun ac w N q30 F31 S up o32 d33 => ?_
  replace o6 := o6.up up
  replace o11 := o11.up up
  replace o14 := o14.up up
  replace o20 := o20.up up
  clear up d33
  refine S.AF (α := Int) o20 o32.rn (fun _ _ h => h) (by' := 8) (d := 16) (lx := g.seen.length) (ly := 1) rfl rfl (show _ ≤ 4194304 by simp only [List.length_append, List.length_cons, List.length_nil]; omega) fun ac w N q38 F39 S up o40 d41 => ?_
  have d42 := d41 _ d24 o6.sub
  have d43 := d41 _ d26 o11.sub
  have d44 := d41 _ d27 o14.sub
  replace o6 := o6.upF d24 up
  replace o11 := o11.upF d26 up
  replace o14 := o14.upF d27 up
  clear up d41
  refine S.gr 11 .nil [GT.val (⟨g.prog, g.acc, g.pc, g.written, g.live, g.ctl, g.pend, g.exit, g.halted, (g.seen ++ [n])⟩ : TGuest) (⟨q1.prog, q1.written, q1.live, q38⟩ : PGuest)] fun ac w β S => ?_
  have o46 := ow_Guest (x := (⟨g.prog, g.acc, g.pc, g.written, g.live, g.ctl, g.pend, g.exit, g.halted, (g.seen ++ [n])⟩ : TGuest)) (p := (⟨q1.prog, q1.written, q1.live, q38⟩ : PGuest)) o6 o11 o14 o40 d22 d23 d42 d25 d43 d44 i8 i9 i16 i17 i18
  exact ret1_of S (show f_saw g n = (⟨g.prog, g.acc, g.pc, g.written, g.live, g.ctl, g.pend, g.exit, g.halted, (g.seen ++ [n])⟩ : TGuest) from k0_impl_Saw) rfl o46
 refine S.gr 10 .nil [GT.val g q1] fun ac w β S => ?_
 have o47 := ow_Guest (x := g) (p := q1) o6 o11 o14 o20 d22 d23 d24 d25 d26 d27 i8 i9 i16 i17 i18
 exact ret1_of S (show f_saw g n = g from k0_impl_Saw) rfl o47

theorem k0_impl_Interrupted {p : Prop} (h : p := by clear S; (unfold f_interrupted; first | (rw [if_pos (by assumption)]; done) | (rw [if_neg (by simp [*])]; done))) : p := h
theorem c_impl_Interrupted (w0 : World) (g : TGuest) (pg : PGuest) (hg : RD w0 g pg) : Calls Tryz.prog 132 [GT.val g pg].toArray w0 (Ret1 NoB w0 (f_interrupted g : TGuest)) := by
 refine Calls.run NoB Tryz.func132 ?_
 intro ac β S
 have hleg_prog : g.prog.length ≤ 4194304 := LRd.le (RGuest.prog (d := g) hg)
 have hleg_written : g.written.length ≤ 4194304 := LRd.le (RGuest.written (d := g) hg)
 have hleg_live : g.live.length ≤ 4194304 := LRd.le (RGuest.live (d := g) hg)
 have hleg_seen : g.seen.length ≤ 4194304 := LRd.le (RGuest.seen (d := g) hg)
 refine S.gb 14 (.cons (Q_call fun w hw => c_impl_TakesIrq w g pg (rd_of (S.arg hg) hw)) .nil) (!(f_takesIrq g)) (fun ac w β h1 S => ?_) (fun ac w β h1 S => ?_)
 ·have h2 := not_t h1
  refine S.go 4 .nil fun ac w β S => S.K1 (r := g) (d := 10) (c_impl_copyGuest w g pg (S.rd (S.arg hg))) fun ac w N q3 F4 S up o5 d6 => ?_
  clear up d6
  refine S.gr 4 .nil [GT.val g q3] fun ac w β S => ?_
  exact ret1_of S (show f_interrupted g = g from k0_impl_Interrupted) rfl o5
 have h7 := not_f h1
 have b8 := takeIrq_bd g.pend
 refine S.go 29 (.cons (Q_call fun w hw => c_impl_TakeIrq w g.pend (RGuest.pend (d := g) (S.arg hg))) (.cons (qp 100 ((f_takeIrq g.pend).2.1)) .nil)) fun ac w β S => S.K1 (r := f_saw (⟨g.prog, g.acc, g.pc, g.written, g.live, g.ctl, (f_takeIrq g.pend).1, g.exit, g.halted, g.seen⟩ : TGuest) (100 + (f_takeIrq g.pend).2.1)) (d := 23) (c_impl_Saw w (⟨g.prog, g.acc, g.pc, g.written, g.live, g.ctl, (f_takeIrq g.pend).1, g.exit, g.halted, g.seen⟩ : TGuest) (⟨pg.prog, pg.written, pg.live, pg.seen⟩ : PGuest) (S.rd (show GT.rd KK _ _ (⟨g.prog, g.acc, g.pc, g.written, g.live, g.ctl, (f_takeIrq g.pend).1, g.exit, g.halted, g.seen⟩ : TGuest) (⟨pg.prog, pg.written, pg.live, pg.seen⟩ : PGuest) from ⟨(RGuest.prog (p := pg) (d := g) (S.arg hg)), (RGuest.acc (d := g) (S.arg hg)), (RGuest.pc (d := g) (S.arg hg)), (RGuest.written (p := pg) (d := g) (S.arg hg)), (RGuest.live (p := pg) (d := g) (S.arg hg)), (RGuest.ctl (d := g) (S.arg hg)), (takeIrq_in64 (RGuest.pend (d := g) (S.arg hg))), (RGuest.exit (d := g) (S.arg hg)), (RGuest.seen (p := pg) (d := g) (S.arg hg))⟩)) (100 + (f_takeIrq g.pend).2.1) ⟨by omega, by omega⟩) fun ac w N q9 F10 S up o11 d12 => ?_
 clear up d12
 refine S.gr 4 .nil [GT.val (f_saw (⟨g.prog, g.acc, g.pc, g.written, g.live, g.ctl, (f_takeIrq g.pend).1, g.exit, g.halted, g.seen⟩ : TGuest) (100 + (f_takeIrq g.pend).2.1)) q9] fun ac w β S => ?_
 exact ret1_of S (show f_interrupted g = (f_saw (⟨g.prog, g.acc, g.pc, g.written, g.live, g.ctl, (f_takeIrq g.pend).1, g.exit, g.halted, g.seen⟩ : TGuest) (100 + (f_takeIrq g.pend).2.1)) from k0_impl_Interrupted) rfl o11

theorem k0_impl_WithGuest {p : Prop} (h : p := by clear S; (unfold f_withGuest; first | (rw [if_pos (by omega)]; done) | (rw [if_neg (by omega)]; done))) : p := h
theorem c_impl_WithGuest (w0 : World) (b : TBare) (pb : PBare) (hb : RD w0 b pb) (g : Int) (x : TGuest) (px : PGuest) (hx : RD w0 x px) : Calls Tryz.prog 131 [GT.val b pb, I g, GT.val x px].toArray w0 (Ret1 NoB w0 (f_withGuest b g x : TBare)) := by
 refine Calls.run NoB Tryz.func131 ?_
 intro ac β S
 have hleb_mem : b.mem.length ≤ 4194304 := LRd.le (RBare.mem (d := b) hb)
 have hleb_guests : b.guests.length ≤ 4194304 := LRd.le (RBare.guests (d := b) hb)
 have hleb_outs : b.outs.length ≤ 4194304 := LRd.le (RBare.outs (d := b) hb)
 have hlex_prog : x.prog.length ≤ 4194304 := LRd.le (RGuest.prog (d := x) hx)
 have hlex_written : x.written.length ≤ 4194304 := LRd.le (RGuest.written (d := x) hx)
 have hlex_live : x.live.length ≤ 4194304 := LRd.le (RGuest.live (d := x) hx)
 have hlex_seen : x.seen.length ≤ 4194304 := LRd.le (RGuest.seen (d := x) hx)
 refine S.go 10 .nil fun ac w β S => S.K1 (r := b) (d := 9) (c_impl_copyBare w b pb (S.rd (S.arg hb))) fun ac w N q1 F2 S up o3 d4 => ?_
 clear up d4
 have i14 : In64 b.pend := RBare.pend (d := b) o3.rn
 obtain ⟨F5, F8, F11, o6, o9, o12, _, _, _, d15, d16, d17⟩ := sp_Bare o3
 refine S.gb 14 (.cons (Q_call fun w hw => c_impl_has w g (b.guests.length : Int) (by omega)) .nil) (f_within g 0 ((b.guests.length : Int) - 1)) (fun ac w β h18 S => ?_) (fun ac w β h18 S => ?_)
 ·have g19 := within_t h18
  refine S.go 1 .nil fun ac w β S => ?_
  refine drw ?_
  refine S.draw0 (f := 7) 6 (by kernel_rfl) (by kernel_rfl) fun w S => ?_
  refine S.hq 0 [0] [] [(15, .p 3 1)] .nil fun ac S => ?_
  refine S.hq 1 [1] [] [(16, .v (slv b.guests.length q1.guests.1))] .nil fun ac S => ?_
  refine S.hq 2 [2] [] [(17, .v (I g))] .nil fun ac S => ?_
  refine S.hq 3 [3] [] [(18, .v (GT.val x px))] .nil fun ac S => ?_
  refine WD.one (i := 4) (by kernel_rfl) ?_
  refine id (S.k1 19 (c_impl_copyGuest w x px (S.rd (S.arg hx))) fun ac w N q20 F21 S up o22 d23 => ?_)
  refine WD.next S up (by kernel_rfl) ?_
  have d24 := Disj.w d23 o6.sub
  have d25 := Disj.w d23 o9.sub
  have d26 := Disj.w d23 o12.sub
  replace o6 := o6.up up
  replace o9 := o9.up up
  replace o12 := o12.up up
  clear up d23
  refine S.hq 5 [5] [] [(20, .v (pt q1.guests.1.b (q1.guests.1.off + g.toNat * 15)))] (.cons (qt o9.rn g Tryz.underlying48) .nil) fun ac S => ?_
  refine WD.one (i := 6) (by kernel_rfl) ?_
  refine id (S.sV (α := TGuest) o9 (t := 81) (k := g.toNat) (off := q1.guests.1.off + g.toNat * 15) o22 d25 fun w N F28 q29 S up o27 d30 s31 n32 => ?_)
  refine WD.last (by kernel_rfl) ?_
  have d33 := d30 _ d15 d24 o6.sub
  have d34 := d30 _ (Disj.symm d17) d26 o12.sub
  replace o6 := o6.upF d15 up
  replace o12 := o12.upF (Disj.symm d17) up
  clear up d30 o9 n32
  have l35 : (b.guests.set g.toNat x).length = b.guests.length := List.length_set
  replace S := S.z (σ' := ⟨[(6, .p 2 0), (7, .p 3 0), (19, .v (GT.val x q20)), (20, .v (pt q1.guests.1.b (q1.guests.1.off + g.toNat * 15)))], [GT.cells b pb, GT.cells x px, Zc TBare, [slv b.mem.length q1.mem.1, slv b.guests.length q1.guests.1, slv b.outs.length q1.outs.1, I b.pend]]⟩)
  replace S := S.cast (σ' := ⟨[(6, .p 2 0), (7, .p 3 0), (19, .v (GT.val x q20)), (20, .v (pt q1.guests.1.b (q1.guests.1.off + g.toNat * 15)))], [GT.cells b pb, GT.cells x px, Zc TBare, [slv b.mem.length q1.mem.1, slv (b.guests.set g.toNat x).length q1.guests.1, slv b.outs.length q1.outs.1, I b.pend]]⟩) (by rw [show (b.guests.set g.toNat x).length = b.guests.length by omega])
  refine WD.done (by kernel_rfl) ?_ _
  refine S.ex fun S => ?_
  refine S.gr 8 .nil [GT.val (⟨b.mem, (b.guests.set g.toNat x), b.outs, b.pend⟩ : TBare) (⟨q1.mem, (q1.guests.1, q29), q1.outs⟩ : PBare)] fun ac w β S => ?_
  have o36 := ow_Bare (x := (⟨b.mem, (b.guests.set g.toNat x), b.outs, b.pend⟩ : TBare)) (p := (⟨q1.mem, (q1.guests.1, q29), q1.outs⟩ : PBare)) o6 o27 o12 d33 d16 (Disj.symm d34) i14
  exact ret1_of S (show f_withGuest b g x = (⟨b.mem, (b.guests.set g.toNat x), b.outs, b.pend⟩ : TBare) from k0_impl_WithGuest) rfl o36
 have g37 := within_f h18
 refine S.gr 10 .nil [GT.val b q1] fun ac w β S => ?_
 have o38 := ow_Bare (x := b) (p := q1) o6 o9 o12 d15 d16 d17 i14
 exact ret1_of S (show f_withGuest b g x = b from k0_impl_WithGuest) rfl o38

theorem k0_impl_Moved {p : Prop} (h : p := by clear S; (unfold f_moved; first | (rw [if_pos (by omega)]; done) | (rw [if_neg (by omega)]; done))) : p := h
theorem c_impl_Moved (w0 : World) (g : TGuest) (pg : PGuest) (hg : RD w0 g pg) : Calls Tryz.prog 149 [GT.val g pg].toArray w0 (Ret1 NoB w0 (f_moved g : TGuest)) := by
 refine Calls.run NoB Tryz.func149 ?_
 intro ac β S
 have hpc := RGuest.pc (d := g) hg
 have hpl := hpc.lo
 have hph := hpc.hi
 have hleg_prog : g.prog.length ≤ 4194304 := LRd.le (RGuest.prog (d := g) hg)
 have hleg_written : g.written.length ≤ 4194304 := LRd.le (RGuest.written (d := g) hg)
 have hleg_live : g.live.length ≤ 4194304 := LRd.le (RGuest.live (d := g) hg)
 have hleg_seen : g.seen.length ≤ 4194304 := LRd.le (RGuest.seen (d := g) hg)
 refine S.go 9 .nil fun ac w β S => S.K1 (r := g) (d := 5) (c_impl_copyGuest w g pg (S.rd (S.arg hg))) fun ac w N q1 F2 S up o3 d4 => ?_
 clear up d4
 have i8 : In64 g.acc := RGuest.acc (d := g) o3.rn
 have i16 : RCtl g.ctl := RGuest.ctl (d := g) o3.rn
 have i17 : In64 g.pend := RGuest.pend (d := g) o3.rn
 have i18 : RExit g.exit := RGuest.exit (d := g) o3.rn
 obtain ⟨F5, F10, F13, F19, o6, o11, o14, o20, _, _, _, _, d22, d23, d24, d25, d26, d27⟩ := sp_Guest o3
 refine S.gd 12 .nil (decide (g.pc ≥ 12)) (fun ac w β h28 g29 S => ?_) (fun ac w β h28 g29 S => ?_)
 ·refine S.gr 13 .nil [GT.val (⟨g.prog, g.acc, 12, g.written, g.live, g.ctl, g.pend, g.exit, g.halted, g.seen⟩ : TGuest) (⟨q1.prog, q1.written, q1.live, q1.seen⟩ : PGuest)] fun ac w β S => ?_
  have o30 := ow_Guest (x := (⟨g.prog, g.acc, 12, g.written, g.live, g.ctl, g.pend, g.exit, g.halted, g.seen⟩ : TGuest)) (p := (⟨q1.prog, q1.written, q1.live, q1.seen⟩ : PGuest)) o6 o11 o14 o20 d22 d23 d24 d25 d26 d27 i8 (show In64 12 from ⟨by decide, by decide⟩) i16 i17 i18
  exact ret1_of S (show f_moved g = (⟨g.prog, g.acc, 12, g.written, g.live, g.ctl, g.pend, g.exit, g.halted, g.seen⟩ : TGuest) from k0_impl_Moved) rfl o30
 refine S.gr 16 (.cons (qp g.pc 1) .nil) [GT.val (⟨g.prog, g.acc, (g.pc + 1), g.written, g.live, g.ctl, g.pend, g.exit, g.halted, g.seen⟩ : TGuest) (⟨q1.prog, q1.written, q1.live, q1.seen⟩ : PGuest)] fun ac w β S => ?_
 have o31 := ow_Guest (x := (⟨g.prog, g.acc, (g.pc + 1), g.written, g.live, g.ctl, g.pend, g.exit, g.halted, g.seen⟩ : TGuest)) (p := (⟨q1.prog, q1.written, q1.live, q1.seen⟩ : PGuest)) o6 o11 o14 o20 d22 d23 d24 d25 d26 d27 i8 (show In64 (g.pc + 1) from ⟨by omega, by omega⟩) i16 i17 i18
 exact ret1_of S (show f_moved g = (⟨g.prog, g.acc, (g.pc + 1), g.written, g.live, g.ctl, g.pend, g.exit, g.halted, g.seen⟩ : TGuest) from k0_impl_Moved) rfl o31

theorem k0_impl_Plainly {p : Prop} (h : p := by clear S; (unfold f_plainly; first | (rw [if_neg (by assumption)]; done) | (rw [if_pos (by assumption)]; unfold f_plainTo; (repeat' split) <;> first | rfl | (exfalso; omega) | (exfalso; simp_all; done) | (exfalso; simp_all; omega) | (simp_all; done) | (simp_all [f_moved]; done)))) : p := h
theorem c_impl_Plainly (w0 : World) (g : TGuest) (pg : PGuest) (hg : RD w0 g pg) : Calls Tryz.prog 133 [GT.val g pg].toArray w0 (Ret1 NoB w0 (f_plainly g : TGuest)) := by
 refine Calls.run NoB Tryz.func133 ?_
 intro ac β S
 have hleg_prog : g.prog.length ≤ 4194304 := LRd.le (RGuest.prog (d := g) hg)
 have hleg_written : g.written.length ≤ 4194304 := LRd.le (RGuest.written (d := g) hg)
 have hleg_live : g.live.length ≤ 4194304 := LRd.le (RGuest.live (d := g) hg)
 have hleg_seen : g.seen.length ≤ 4194304 := LRd.le (RGuest.seen (d := g) hg)
 have b1 := wantOf_bd g
 refine S.gd 14 (.cons (Q_call fun w hw => c_impl_WantOf w g pg (rd_of (S.arg hg) hw)) .nil) ((f_wantOf g) != 2) (fun ac w β h2 g3 S => ?_) (fun ac w β h2 g3 S => ?_)
 ·refine S.go 4 .nil fun ac w β S => S.K1 (r := g) (d := 9) (c_impl_copyGuest w g pg (S.rd (S.arg hg))) fun ac w N q4 F5 S up o6 d7 => ?_
  clear up d7
  have i11 : In64 g.acc := RGuest.acc (d := g) o6.rn
  have i12 : In64 g.pc := RGuest.pc (d := g) o6.rn
  have i19 : RCtl g.ctl := RGuest.ctl (d := g) o6.rn
  have i20 : In64 g.pend := RGuest.pend (d := g) o6.rn
  have i21 : RExit g.exit := RGuest.exit (d := g) o6.rn
  obtain ⟨F8, F13, F16, F22, o9, o14, o17, o23, _, _, _, _, d25, d26, d27, d28, d29, d30⟩ := sp_Guest o6
  refine S.gr 4 .nil [GT.val g q4] fun ac w β S => ?_
  have o31 := ow_Guest (x := g) (p := q4) o9 o14 o17 o23 d25 d26 d27 d28 d29 d30 i11 i12 i19 i20 i21
  exact ret1_of S (show f_plainly g = g from k0_impl_Plainly) rfl o31
 refine S.go 17 (.cons (Q_call fun w hw => c_impl_InsAt w g.prog pg.prog (rd_of (RGuest.prog (d := g) (S.arg hg)) hw) g.pc) .nil) fun ac w β S => S.K1 (r := f_moved g) (d := 16) (c_impl_Moved w g pg (S.rd (S.arg hg))) fun ac w N q32 F33 S up o34 d35 => ?_
 clear up d35
 have i39 : In64 (f_moved g).acc := RGuest.acc (d := (f_moved g)) o34.rn
 have i40 : In64 (f_moved g).pc := RGuest.pc (d := (f_moved g)) o34.rn
 have i47 : RCtl (f_moved g).ctl := RGuest.ctl (d := (f_moved g)) o34.rn
 have i48 : In64 (f_moved g).pend := RGuest.pend (d := (f_moved g)) o34.rn
 have i49 : RExit (f_moved g).exit := RGuest.exit (d := (f_moved g)) o34.rn
 obtain ⟨F36, F41, F44, F50, o37, o42, o45, o51, _, _, _, _, d53, d54, d55, d56, d57, d58⟩ := sp_Guest o34
 refine S.gb 12 (.cons (Q_call fun w hw => c_impl_within w g.acc 0 99) .nil) (!(f_within g.acc 0 99)) (fun ac w β h59 S => ?_) (fun ac w β h59 S => ?_)
 ·have h60 := not_t h59
  have g61 := within_f h60
  refine S.gr 15 .nil [GT.val (f_moved g) q32] fun ac w β S => ?_
  have o62 := ow_Guest (x := (f_moved g)) (p := q32) o37 o42 o45 o51 d53 d54 d55 d56 d57 d58 i39 i40 i47 i48 i49
  exact ret1_of S (show f_plainly g = (f_moved g) from k0_impl_Plainly) rfl o62
 have h63 := not_f h59
 have g64 := within_t h63
 refine S.gb 7 (.cons (Q_call fun w hw => c_impl_within w (f_insAt g.prog g.pc).x 0 99) .nil) (!(f_within (f_insAt g.prog g.pc).x 0 99)) (fun ac w β h65 S => ?_) (fun ac w β h65 S => ?_)
 ·have h66 := not_t h65
  have g67 := within_f h66
  refine S.gr 8 .nil [GT.val (f_moved g) q32] fun ac w β S => ?_
  have o68 := ow_Guest (x := (f_moved g)) (p := q32) o37 o42 o45 o51 d53 d54 d55 d56 d57 d58 i39 i40 i47 i48 i49
  exact ret1_of S (show f_plainly g = (f_moved g) from k0_impl_Plainly) rfl o68
 have h69 := not_f h65
 have g70 := within_t h69
 refine S.gd 13 .nil ((f_insAt g.prog g.pc).opc == 1) (fun ac w β h71 g72 S => ?_) (fun ac w β h71 g72 S => ?_)
 ·refine S.gr 16 .nil [GT.val (⟨(f_moved g).prog, (f_insAt g.prog g.pc).x, (f_moved g).pc, (f_moved g).written, (f_moved g).live, (f_moved g).ctl, (f_moved g).pend, (f_moved g).exit, (f_moved g).halted, (f_moved g).seen⟩ : TGuest) (⟨q32.prog, q32.written, q32.live, q32.seen⟩ : PGuest)] fun ac w β S => ?_
  have o73 := ow_Guest (x := (⟨(f_moved g).prog, (f_insAt g.prog g.pc).x, (f_moved g).pc, (f_moved g).written, (f_moved g).live, (f_moved g).ctl, (f_moved g).pend, (f_moved g).exit, (f_moved g).halted, (f_moved g).seen⟩ : TGuest)) (p := (⟨q32.prog, q32.written, q32.live, q32.seen⟩ : PGuest)) o37 o42 o45 o51 d53 d54 d55 d56 d57 d58 (RIns.x (d := (f_insAt g.prog g.pc)) (insAt_r (RGuest.prog (d := g) (S.arg hg)) g.pc)) i40 i47 i48 i49
  exact ret1_of S (show f_plainly g = (⟨(f_moved g).prog, (f_insAt g.prog g.pc).x, (f_moved g).pc, (f_moved g).written, (f_moved g).live, (f_moved g).ctl, (f_moved g).pend, (f_moved g).exit, (f_moved g).halted, (f_moved g).seen⟩ : TGuest) from k0_impl_Plainly) rfl o73
 refine S.gd 9 .nil ((f_insAt g.prog g.pc).opc == 2) (fun ac w β h74 g75 S => ?_) (fun ac w β h74 g75 S => ?_)
 ·refine S.gr 20 (.cons (qp g.acc ((f_insAt g.prog g.pc).x)) (.cons (Q_rem (x := (g.acc + (f_insAt g.prog g.pc).x)) (y := 100) (by decide)) .nil)) [GT.val (⟨(f_moved g).prog, (Int.tmod (g.acc + (f_insAt g.prog g.pc).x) 100), (f_moved g).pc, (f_moved g).written, (f_moved g).live, (f_moved g).ctl, (f_moved g).pend, (f_moved g).exit, (f_moved g).halted, (f_moved g).seen⟩ : TGuest) (⟨q32.prog, q32.written, q32.live, q32.seen⟩ : PGuest)] fun ac w β S => ?_
  have o76 := ow_Guest (x := (⟨(f_moved g).prog, (Int.tmod (g.acc + (f_insAt g.prog g.pc).x) 100), (f_moved g).pc, (f_moved g).written, (f_moved g).live, (f_moved g).ctl, (f_moved g).pend, (f_moved g).exit, (f_moved g).halted, (f_moved g).seen⟩ : TGuest)) (p := (⟨q32.prog, q32.written, q32.live, q32.seen⟩ : PGuest)) o37 o42 o45 o51 d53 d54 d55 d56 d57 d58 (tmod_in64 (by decide)) i40 i47 i48 i49
  exact ret1_of S (show f_plainly g = (⟨(f_moved g).prog, (Int.tmod (g.acc + (f_insAt g.prog g.pc).x) 100), (f_moved g).pc, (f_moved g).written, (f_moved g).live, (f_moved g).ctl, (f_moved g).pend, (f_moved g).exit, (f_moved g).halted, (f_moved g).seen⟩ : TGuest) from k0_impl_Plainly) rfl o76
 refine S.gd 7 .nil ((f_insAt g.prog g.pc).opc == 8) (fun ac w β h77 g78 S => ?_) (fun ac w β h77 g78 S => ?_)
 ·refine S.gd 7 .nil (g.acc == 0) (fun ac w β h79 g80 S => ?_) (fun ac w β h79 g80 S => ?_)
  ·refine S.gr 16 .nil [GT.val (⟨(f_moved g).prog, (f_moved g).acc, (f_insAt g.prog g.pc).x, (f_moved g).written, (f_moved g).live, (f_moved g).ctl, (f_moved g).pend, (f_moved g).exit, (f_moved g).halted, (f_moved g).seen⟩ : TGuest) (⟨q32.prog, q32.written, q32.live, q32.seen⟩ : PGuest)] fun ac w β S => ?_
   have o81 := ow_Guest (x := (⟨(f_moved g).prog, (f_moved g).acc, (f_insAt g.prog g.pc).x, (f_moved g).written, (f_moved g).live, (f_moved g).ctl, (f_moved g).pend, (f_moved g).exit, (f_moved g).halted, (f_moved g).seen⟩ : TGuest)) (p := (⟨q32.prog, q32.written, q32.live, q32.seen⟩ : PGuest)) o37 o42 o45 o51 d53 d54 d55 d56 d57 d58 i39 (RIns.x (d := (f_insAt g.prog g.pc)) (insAt_r (RGuest.prog (d := g) (S.arg hg)) g.pc)) i47 i48 i49
   exact ret1_of S (show f_plainly g = (⟨(f_moved g).prog, (f_moved g).acc, (f_insAt g.prog g.pc).x, (f_moved g).written, (f_moved g).live, (f_moved g).ctl, (f_moved g).pend, (f_moved g).exit, (f_moved g).halted, (f_moved g).seen⟩ : TGuest) from k0_impl_Plainly) rfl o81
  refine S.gr 11 .nil [GT.val (f_moved g) q32] fun ac w β S => ?_
  have o82 := ow_Guest (x := (f_moved g)) (p := q32) o37 o42 o45 o51 d53 d54 d55 d56 d57 d58 i39 i40 i47 i48 i49
  exact ret1_of S (show f_plainly g = (f_moved g) from k0_impl_Plainly) rfl o82
 refine S.gr 18 .nil [GT.val (f_moved g) q32] fun ac w β S => ?_
 have o83 := ow_Guest (x := (f_moved g)) (p := q32) o37 o42 o45 o51 d53 d54 d55 d56 d57 d58 i39 i40 i47 i48 i49
 exact ret1_of S (show f_plainly g = (f_moved g) from k0_impl_Plainly) rfl o83

theorem k0_impl_AddrPage {p : Prop} (h : p := by clear S; (first | (unfold f_addrPage; rw [if_pos (by omega)]; done) | (unfold f_addrPage; rw [if_pos (by omega)]; first | rfl | (simp; done)) | (unfold f_addrPage; rw [if_neg (by omega)]; done) | (unfold f_addrPage; rw [if_neg (by omega)]; first | rfl | (simp; done)))) : p := h
theorem c_impl_AddrPage (w0 : World) (addr : Int) (haddr : In64 addr) : Calls Tryz.prog 135 [I addr].toArray w0 (fun e w' => e = .returned (I (f_addrPage addr)) ∧ Chg NoB w0 w') := by
 refine Calls.run NoB Tryz.func135 ?_
 intro ac β S
 have hloaddr := haddr.lo; have hhiaddr := haddr.hi
 refine S.gd 12 .nil (decide (addr < 0)) (fun ac w β h1 g2 S => ?_) (fun ac w β h1 g2 S => ?_)
 ·exact S.gf 7 .nil [I (-1)] (retI k0_impl_AddrPage)
 exact S.gf 11 (.cons (Q_quo (x := addr) (y := 4) (by decide) (tdiv4_in64 haddr (by omega))) .nil) [I (Int.tdiv addr 4)] (retI k0_impl_AddrPage)

theorem c_impl_NeedOf (w0 : World) (write : Bool) : Calls Tryz.prog 136 [B write].toArray w0 (fun e w' => e = .returned (I (f_needOf write)) ∧ Chg NoB w0 w') := by
 refine Calls.run NoB Tryz.func136 ?_
 intro ac β S
 refine S.gb 11 .nil write (fun ac w β h1 S => ?_) (fun ac w β h1 S => ?_)
 ·exact S.gf 7 .nil [I 2] (retI (by clear S; (simp [f_needOf, *])))
 exact S.gf 9 .nil [I 1] (retI (by clear S; (simp [f_needOf, *])))

theorem k0_impl_SlotAt {p : Prop} (h : p := by clear S; (first | (unfold f_slotAt; rw [if_pos (by omega)]) | (unfold f_slotAt; rw [if_neg (by omega)]))) : p := h
theorem c_impl_SlotAt (w0 : World) (t : List TSlot) (pt : LP TSlot) (ht : RD w0 t pt) (page : Int) : Calls Tryz.prog 156 [slv t.length pt.1, I page].toArray w0 (fun e w' => e = .returned (GT.val (f_slotAt t page) ()) ∧ Chg NoB w0 w') := by
 refine Calls.run NoB Tryz.func156 ?_
 intro ac β S
 have hlet : t.length ≤ 4194304 := LRd.le ht
 refine S.gb 15 (.cons (Q_call fun w hw => c_impl_has w page (t.length : Int) (by omega)) .nil) (!(f_within page 0 ((t.length : Int) - 1))) (fun ac w β h1 S => ?_) (fun ac w β h1 S => ?_)
 ·have h2 := not_t h1
  have g3 := within_f h2
  exact S.gf 8 (.cons (Q_call fun w hw => c_impl_NoSlot w ) .nil) [GT.val (⟨-1, 0⟩ : TSlot) ()] (retV (p := ()) k0_impl_SlotAt)
 have h4 := not_f h1
 have g5 := within_t h4
 exact S.gf 13 (.cons (qt (S.arg ht) page Tryz.underlying77) (.cons (qs (S.arg ht) 55 page.toNat) .nil)) [GT.val (el t page.toNat) ()] (retV (p := ()) k0_impl_SlotAt)

theorem c_impl_RightsOk (w0 : World) (r : Int) : Calls Tryz.prog 205 [I r].toArray w0 (fun e w' => e = .returned (B (f_within r 0 3)) ∧ Chg NoB w0 w') := by
 refine Calls.run NoB Tryz.func205 ?_
 intro ac β S
 exact S.gf 13 (.cons (Q_call fun w hw => c_impl_within w r 0 3) .nil) [B (f_within r 0 3)] (retB (by clear S; first | rfl | (simp [f_within, *]; done) | (simp [f_within, *]; omega) | (simp_all [f_within]; done) | (simp_all [f_within]; omega)))

theorem k0_impl_Enough {p : Prop} (h : p := by clear S; first | rfl | (simp [f_enough, *]; done) | (simp [f_enough, *]; omega) | (simp_all [f_enough]; done) | (simp_all [f_enough]; omega)) : p := h
theorem c_impl_Enough (w0 : World) (rights : Int) (need : Int) : Calls Tryz.prog 186 [I rights, I need].toArray w0 (fun e w' => e = .returned (B (f_enough rights need)) ∧ Chg NoB w0 w') := by
 refine Calls.run NoB Tryz.func186 ?_
 intro ac β S
 refine S.gb 10 (.cons (Q_call fun w hw => c_impl_RightsOk w rights) .nil) (f_within rights 0 3) (fun ac w β h1 S => ?_) (fun ac w β h1 S => ?_)
 ·have g2 := within_t h1
  refine S.gb 4 (.cons (Q_call fun w hw => c_impl_RightsOk w need) .nil) (f_within need 0 3) (fun ac w β h3 S => ?_) (fun ac w β h3 S => ?_)
  ·have g4 := within_t h3
   exact S.gf 10 (.cons (Q_land64 (x := rights) (y := need)) .nil) [B ((land64 rights need) == need)] (retB k0_impl_Enough)
  have g5 := within_f h3
  exact S.gf 10 .nil [B false] (retB k0_impl_Enough)
 have g6 := within_f h1
 exact S.gf 14 .nil [B false] (retB k0_impl_Enough)

theorem k0_impl_WalkInner {p : Prop} (h : p := by clear S; (unfold f_walkInner; (repeat' split) <;> first | rfl | (exfalso; omega) | (exfalso; simp_all; done) | (exfalso; simp_all; omega))) : p := h
theorem c_impl_WalkInner (w0 : World) (inner : List TSlot) (pinner : LP TSlot) (hinner : RD w0 inner pinner) (page : Int) (need : Int) : Calls Tryz.prog 134 [slv inner.length pinner.1, I page, I need].toArray w0 (fun e w' => e = .returned (.tuple #[I (f_walkInner inner page need).1, B (f_walkInner inner page need).2]) ∧ Chg NoB w0 w') := by
 refine Calls.run NoB Tryz.func134 ?_
 intro ac β S
 have hleinner : inner.length ≤ 4194304 := LRd.le hinner
 refine S.gd 22 (.cons (Q_call fun w hw => c_impl_SlotAt w inner pinner (rd_of (S.arg hinner) hw) page) .nil) ((f_slotAt inner page).page == (-1)) (fun ac w β h1 g2 S => ?_) (fun ac w β h1 g2 S => ?_)
 ·exact S.gf 21 .nil [I (-1), B false] (ret2v (eqI (show (-1) = (f_walkInner inner page need).1 from k0_impl_WalkInner)) (eqB (show false = (f_walkInner inner page need).2 from k0_impl_WalkInner)))
 refine S.gb 7 (.cons (Q_call fun w hw => c_impl_Enough w (f_slotAt inner page).rights need) .nil) (!(f_enough (f_slotAt inner page).rights need)) (fun ac w β h3 S => ?_) (fun ac w β h3 S => ?_)
 ·have h4 := not_t h3
  exact S.gf 14 .nil [I (-1), B false] (ret2v (eqI (show (-1) = (f_walkInner inner page need).1 from k0_impl_WalkInner)) (eqB (show false = (f_walkInner inner page need).2 from k0_impl_WalkInner)))
 have h5 := not_f h3
 have g6 := enough_t h5
 refine S.gb 6 (.cons (Q_call fun w hw => c_impl_within w need 1 3) .nil) (!(f_within need 1 3)) (fun ac w β h7 S => ?_) (fun ac w β h7 S => ?_)
 ·have h8 := not_t h7
  have g9 := within_f h8
  exact S.gf 8 .nil [I (-1), B false] (ret2v (eqI (show (-1) = (f_walkInner inner page need).1 from k0_impl_WalkInner)) (eqB (show false = (f_walkInner inner page need).2 from k0_impl_WalkInner)))
 have h10 := not_f h7
 have g11 := within_t h10
 exact S.gf 12 .nil [I (f_slotAt inner page).page, B true] (ret2v (eqI (show (f_slotAt inner page).page = (f_walkInner inner page need).1 from k0_impl_WalkInner)) (eqB (show true = (f_walkInner inner page need).2 from k0_impl_WalkInner)))

theorem c_impl_FaultExit (w0 : World) (page : Int) (hpage : In64 page) (write : Bool) : Calls Tryz.prog 138 [I page, B write].toArray w0 (fun e w' => e = .returned (GT.val (f_faultExit page write) ()) ∧ Chg NoB w0 w') := by
 refine Calls.run NoB Tryz.func138 ?_
 intro ac β S
 have hlopage := hpage.lo; have hhipage := hpage.hi
 exact S.gf 14 (.cons (Q_sem (s := Instr.build 79 [(0, I 1), (1, I page), (2, B write)].toArray) (v := .agg [I 1, I page, B write, I 0].toArray) (fun w => by kernel_rfl)) .nil) [GT.val (⟨1, page, write, 0⟩ : TExit) ()] (retV (p := ()) (by clear S; rfl))

theorem c_impl_Stopped (w0 : World) (g : TGuest) (pg : PGuest) (hg : RD w0 g pg) (e : TExit) (he : RExit e) : Calls Tryz.prog 137 [GT.val g pg, GT.val e ()].toArray w0 (Ret1 NoB w0 (({ g with exit := e } : TGuest) : TGuest)) := by
 refine Calls.run NoB Tryz.func137 ?_
 intro ac β S
 have hleg_prog : g.prog.length ≤ 4194304 := LRd.le (RGuest.prog (d := g) hg)
 have hleg_written : g.written.length ≤ 4194304 := LRd.le (RGuest.written (d := g) hg)
 have hleg_live : g.live.length ≤ 4194304 := LRd.le (RGuest.live (d := g) hg)
 have hleg_seen : g.seen.length ≤ 4194304 := LRd.le (RGuest.seen (d := g) hg)
 refine S.go 10 .nil fun ac w β S => S.K1 (r := g) (d := 7) (c_impl_copyGuest w g pg (S.rd (S.arg hg))) fun ac w N q1 F2 S up o3 d4 => ?_
 clear up d4
 have i8 : In64 g.acc := RGuest.acc (d := g) o3.rn
 have i9 : In64 g.pc := RGuest.pc (d := g) o3.rn
 have i16 : RCtl g.ctl := RGuest.ctl (d := g) o3.rn
 have i17 : In64 g.pend := RGuest.pend (d := g) o3.rn
 obtain ⟨F5, F10, F13, F19, o6, o11, o14, o20, _, _, _, _, d22, d23, d24, d25, d26, d27⟩ := sp_Guest o3
 refine S.gr 18 .nil [GT.val (⟨g.prog, g.acc, g.pc, g.written, g.live, g.ctl, g.pend, e, g.halted, g.seen⟩ : TGuest) (⟨q1.prog, q1.written, q1.live, q1.seen⟩ : PGuest)] fun ac w β S => ?_
 have o28 := ow_Guest (x := (⟨g.prog, g.acc, g.pc, g.written, g.live, g.ctl, g.pend, e, g.halted, g.seen⟩ : TGuest)) (p := (⟨q1.prog, q1.written, q1.live, q1.seen⟩ : PGuest)) o6 o11 o14 o20 d22 d23 d24 d25 d26 d27 i8 i9 i16 i17 he
 exact ret1_of S (show ({ g with exit := e } : TGuest) = (⟨g.prog, g.acc, g.pc, g.written, g.live, g.ctl, g.pend, e, g.halted, g.seen⟩ : TGuest) by clear S; rfl) rfl o28

theorem k0_impl_AddrCell {p : Prop} (h : p := by clear S; (first | (unfold f_addrCell; rw [if_pos (by omega)]; done) | (unfold f_addrCell; rw [if_pos (by omega)]; first | rfl | (simp; done)) | (unfold f_addrCell; rw [if_neg (by omega)]; done) | (unfold f_addrCell; rw [if_neg (by omega)]; first | rfl | (simp; done)))) : p := h
theorem c_impl_AddrCell (w0 : World) (addr : Int) (haddr : In64 addr) : Calls Tryz.prog 140 [I addr].toArray w0 (fun e w' => e = .returned (I (f_addrCell addr)) ∧ Chg NoB w0 w') := by
 refine Calls.run NoB Tryz.func140 ?_
 intro ac β S
 have hloaddr := haddr.lo; have hhiaddr := haddr.hi
 refine S.gd 12 .nil (decide (addr < 0)) (fun ac w β h1 g2 S => ?_) (fun ac w β h1 g2 S => ?_)
 ·exact S.gf 7 .nil [I (-1)] (retI k0_impl_AddrCell)
 exact S.gf 11 (.cons (Q_rem (x := addr) (y := 4) (by decide)) .nil) [I (Int.tmod addr 4)] (retI k0_impl_AddrCell)

theorem k0_impl_WithCell {p : Prop} (h : p := by clear S; (unfold f_withCell; (repeat' split) <;> first | rfl | (simp; done) | (exfalso; omega) | (exfalso; simp_all; done) | (exfalso; simp_all; omega))) : p := h
theorem c_impl_WithCell (w0 : World) (m : List (List Int)) (pm : LP (List Int)) (hm : RD w0 m pm) (page : Int) (cell : Int) (v : Int) (hv : In64 v) : Calls Tryz.prog 139 [slv m.length pm.1, I page, I cell, I v].toArray w0 (Ret1 NoB w0 (f_withCell m page cell v : List (List Int))) := by
 refine Calls.run NoB Tryz.func139 ?_
 intro ac β S
 have hlem : m.length ≤ 4194304 := LRd.le hm
 have hlov := hv.lo; have hhiv := hv.hi
 refine S.go 8 .nil fun ac w β S => S.K1 (r := m) (d := 11) (c_impl_copyMem w m pm (S.rd (S.arg hm))) fun ac w N q1 F2 S up o3 d4 => ?_
 clear up d4
 refine S.gb 11 (.cons (Q_call fun w hw => c_impl_has w page (m.length : Int) (by omega)) .nil) (f_within page 0 ((m.length : Int) - 1)) (fun ac w β h5 S => ?_) (fun ac w β h5 S => ?_)
 ·have g6 := within_t h5
  have b7 : (el m page.toNat).length ≤ 4194304 := LRd.le (LRd.el (S.arg hm) page.toNat (by omega))
  refine S.gb 9 (.cons (qt (S.arg hm) page Tryz.underlying39) (.cons (qx (S.arg hm) 41 page.toNat) (.cons (Q_call fun w hw => c_impl_has w cell ((el m page.toNat).length : Int) (by omega)) .nil))) (f_within cell 0 (((el m page.toNat).length : Int) - 1)) (fun ac w β h8 S => ?_) (fun ac w β h8 S => ?_)
  ·have g9 := within_t h8
   refine S.gb 5 (.cons (Q_call fun w hw => c_impl_within w v 0 99) .nil) (f_within v 0 99) (fun ac w β h10 S => ?_) (fun ac w β h10 S => ?_)
   ·have g11 := within_t h10
    obtain ⟨F12, o13, _, b15⟩ := foc2_id o3 (k := page.toNat) (show page.toNat < m.length by omega)
    have l16 := LRd.le o13.rn
    have n17 := o13.sub
    refine S.go 9 (.cons (qt o3.rn page Tryz.underlying39) (.cons (qx o3.rn 41 page.toNat) (.cons (qt (LRd.el o3.rn page.toNat (by omega)) cell Tryz.underlying41) .nil))) fun ac w β S => S.SF (α := Int) o13 (t := 3) (k := cell.toNat) (j := 0) (off := (q1.2 page.toNat).1.off + cell.toNat * 1) (v := I v) (y := v) (q := ()) (fun _ _ _ => ⟨NoB, hv, fun _ h => False.elim h⟩) fun w N F19 q20 S up o18 d21 s22 n23 => ?_
    clear d21 o13
    obtain ⟨p24, o25, c26⟩ := b15 _ _ _ _ _ NoB up o18 s22 (fun b _ h => False.elim h) (by show [slv _ _] = [slv _ _]; rw [List.length_set]) (fun b h => n23 b (n17 b h))
    clear up o18 n23
    have l27 : (m.set page.toNat ((el m page.toNat).set cell.toNat v)).length = m.length := List.length_set
    refine S.gr 9 .nil [slv m.length q1.1] fun ac w β S => ?_
    exact ret1_of S (show f_withCell m page cell v = (m.set page.toNat ((el m page.toNat).set cell.toNat v)) from k0_impl_WithCell) (by rw [show m.length = (m.set page.toNat ((el m page.toNat).set cell.toNat v)).length from (by omega)]; rfl) o25
   have g28 := within_f h10
   refine S.gr 10 .nil [slv m.length q1.1] fun ac w β S => ?_
   exact ret1_of S (show f_withCell m page cell v = m from k0_impl_WithCell) rfl o3
  have g29 := within_f h8
  refine S.gr 15 .nil [slv m.length q1.1] fun ac w β S => ?_
  exact ret1_of S (show f_withCell m page cell v = m from k0_impl_WithCell) rfl o3
 have g30 := within_f h5
 refine S.gr 24 .nil [slv m.length q1.1] fun ac w β S => ?_
 exact ret1_of S (show f_withCell m page cell v = m from k0_impl_WithCell) rfl o3

theorem c_impl_Stored (w0 : World) (g : TGuest) (pg : PGuest) (hg : RD w0 g pg) : Calls Tryz.prog 141 [GT.val g pg].toArray w0 (Ret1 NoB w0 (f_moved g : TGuest)) := by
 refine Calls.run NoB Tryz.func141 ?_
 intro ac β S
 have hleg_prog : g.prog.length ≤ 4194304 := LRd.le (RGuest.prog (d := g) hg)
 have hleg_written : g.written.length ≤ 4194304 := LRd.le (RGuest.written (d := g) hg)
 have hleg_live : g.live.length ≤ 4194304 := LRd.le (RGuest.live (d := g) hg)
 have hleg_seen : g.seen.length ≤ 4194304 := LRd.le (RGuest.seen (d := g) hg)
 refine S.go 9 .nil fun ac w β S => S.K1 (r := f_moved g) (d := 4) (c_impl_Moved w g pg (S.rd (S.arg hg))) fun ac w N q1 F2 S up o3 d4 => ?_
 clear up d4
 refine S.gr 4 .nil [GT.val (f_moved g) q1] fun ac w β S => ?_
 exact ret1_of S (show f_moved g = (f_moved g) by clear S; rfl) rfl o3

theorem k0_impl_CellAt {p : Prop} (h : p := by clear S; (first | (unfold f_cellAt; rw [if_pos (by omega)]; done) | (unfold f_cellAt; rw [if_pos (by omega)]; first | rfl | (simp; done)) | (unfold f_cellAt; rw [if_neg (by omega)]; done) | (unfold f_cellAt; rw [if_neg (by omega)]; first | rfl | (simp; done)))) : p := h
theorem c_impl_CellAt (w0 : World) (m : List (List Int)) (pm : LP (List Int)) (hm : RD w0 m pm) (page : Int) (cell : Int) : Calls Tryz.prog 143 [slv m.length pm.1, I page, I cell].toArray w0 (fun e w' => e = .returned (I (f_cellAt m page cell)) ∧ Chg NoB w0 w') := by
 refine Calls.run NoB Tryz.func143 ?_
 intro ac β S
 have hlem : m.length ≤ 4194304 := LRd.le hm
 refine S.gb 14 (.cons (Q_call fun w hw => c_impl_has w page (m.length : Int) (by omega)) .nil) (!(f_within page 0 ((m.length : Int) - 1))) (fun ac w β h1 S => ?_) (fun ac w β h1 S => ?_)
 ·have h2 := not_t h1
  have g3 := within_f h2
  exact S.gf 18 .nil [I 0] (retI k0_impl_CellAt)
 have h4 := not_f h1
 have g5 := within_t h4
 have b6 : (el m page.toNat).length ≤ 4194304 := LRd.le (LRd.el (S.arg hm) page.toNat (by omega))
 refine S.gb 11 (.cons (qt (S.arg hm) page Tryz.underlying39) (.cons (qx (S.arg hm) 41 page.toNat) (.cons (Q_call fun w hw => c_impl_has w cell ((el m page.toNat).length : Int) (by omega)) .nil))) (!(f_within cell 0 (((el m page.toNat).length : Int) - 1))) (fun ac w β h7 S => ?_) (fun ac w β h7 S => ?_)
 ·have h8 := not_t h7
  have g9 := within_f h8
  exact S.gf 7 .nil [I 0] (retI k0_impl_CellAt)
 have h10 := not_f h7
 have g11 := within_t h10
 exact S.gf 16 (.cons (qt (S.arg hm) page Tryz.underlying39) (.cons (qx (S.arg hm) 41 page.toNat) (.cons (qt (LRd.el (S.arg hm) page.toNat (by omega)) cell Tryz.underlying41) (.cons (qx (LRd.el (S.arg hm) page.toNat (by omega)) 3 cell.toNat) .nil)))) [I (el (el m page.toNat) cell.toNat)] (retI k0_impl_CellAt)

theorem c_impl_Loaded (w0 : World) (g : TGuest) (pg : PGuest) (hg : RD w0 g pg) (v : Int) (hv : In64 v) : Calls Tryz.prog 142 [GT.val g pg, I v].toArray w0 (Ret1 NoB w0 (f_loaded g v : TGuest)) := by
 refine Calls.run NoB Tryz.func142 ?_
 intro ac β S
 have hleg_prog : g.prog.length ≤ 4194304 := LRd.le (RGuest.prog (d := g) hg)
 have hleg_written : g.written.length ≤ 4194304 := LRd.le (RGuest.written (d := g) hg)
 have hleg_live : g.live.length ≤ 4194304 := LRd.le (RGuest.live (d := g) hg)
 have hleg_seen : g.seen.length ≤ 4194304 := LRd.le (RGuest.seen (d := g) hg)
 have hlov := hv.lo; have hhiv := hv.hi
 refine S.go 17 .nil fun ac w β S => S.K1 (r := f_saw (⟨g.prog, v, g.pc, g.written, g.live, g.ctl, g.pend, g.exit, g.halted, g.seen⟩ : TGuest) v) (d := 9) (c_impl_Saw w (⟨g.prog, v, g.pc, g.written, g.live, g.ctl, g.pend, g.exit, g.halted, g.seen⟩ : TGuest) (⟨pg.prog, pg.written, pg.live, pg.seen⟩ : PGuest) (S.rd (show GT.rd KK _ _ (⟨g.prog, v, g.pc, g.written, g.live, g.ctl, g.pend, g.exit, g.halted, g.seen⟩ : TGuest) (⟨pg.prog, pg.written, pg.live, pg.seen⟩ : PGuest) from ⟨(RGuest.prog (p := pg) (d := g) (S.arg hg)), hv, (RGuest.pc (d := g) (S.arg hg)), (RGuest.written (p := pg) (d := g) (S.arg hg)), (RGuest.live (p := pg) (d := g) (S.arg hg)), (RGuest.ctl (d := g) (S.arg hg)), (RGuest.pend (d := g) (S.arg hg)), (RGuest.exit (d := g) (S.arg hg)), (RGuest.seen (p := pg) (d := g) (S.arg hg))⟩)) v hv) fun ac w N q1 F2 S up o3 d4 => ?_
 clear up d4
 refine S.K1 (r := f_moved (f_saw (⟨g.prog, v, g.pc, g.written, g.live, g.ctl, g.pend, g.exit, g.halted, g.seen⟩ : TGuest) v)) (d := 10) (c_impl_Moved w (f_saw (⟨g.prog, v, g.pc, g.written, g.live, g.ctl, g.pend, g.exit, g.halted, g.seen⟩ : TGuest) v) q1 (S.rd o3.rn)) fun ac w N q5 F6 S up o7 d8 => ?_
 clear up d8
 refine S.gr 4 .nil [GT.val (f_moved (f_saw (⟨g.prog, v, g.pc, g.written, g.live, g.ctl, g.pend, g.exit, g.halted, g.seen⟩ : TGuest) v)) q5] fun ac w β S => ?_
 exact ret1_of S (show f_loaded g v = (f_moved (f_saw (⟨g.prog, v, g.pc, g.written, g.live, g.ctl, g.pend, g.exit, g.halted, g.seen⟩ : TGuest) v)) by clear S; rfl) rfl o7

theorem c_impl_CallExit (w0 : World) (n : Int) (hn : In64 n) : Calls Tryz.prog 144 [I n].toArray w0 (fun e w' => e = .returned (GT.val (f_callExit n) ()) ∧ Chg NoB w0 w') := by
 refine Calls.run NoB Tryz.func144 ?_
 intro ac β S
 have hlon := hn.lo; have hhin := hn.hi
 exact S.gf 13 (.cons (Q_sem (s := Instr.build 79 [(0, I 2), (3, I n)].toArray) (v := .agg [I 2, I 0, B false, I n].toArray) (fun w => by kernel_rfl)) .nil) [GT.val (⟨2, 0, false, n⟩ : TExit) ()] (retV (p := ()) (by clear S; rfl))

theorem k0_impl_trapOf {p : Prop} (h : p := by clear S; (unfold f_trapOf; (repeat' split) <;> first | rfl | (exfalso; omega) | (exfalso; simp_all; done) | (exfalso; simp_all; omega) | (simp_all; done))) : p := h
theorem c_impl_trapOf (w0 : World) (want : Int) : Calls Tryz.prog 146 [I want].toArray w0 (fun e w' => e = .returned (I (f_trapOf want)) ∧ Chg NoB w0 w') := by
 refine Calls.run NoB Tryz.func146 ?_
 intro ac β S
 refine S.gd 12 .nil (want == 5) (fun ac w β h1 g2 S => ?_) (fun ac w β h1 g2 S => ?_)
 ·exact S.gf 7 .nil [I 1] (retI k0_impl_trapOf)
 exact S.gf 9 .nil [I 2] (retI k0_impl_trapOf)

theorem k0_impl_HasTrap {p : Prop} (h : p := by clear S; (unfold f_hasTrap; first | (rw [Bool.eq_iff_iff]; simp_all; done) | (rw [Bool.eq_iff_iff]; simp_all [f_within]; omega) | (simp_all; done))) : p := h
theorem c_impl_HasTrap (w0 : World) (traps : Int) (trap : Int) : Calls Tryz.prog 145 [I traps, I trap].toArray w0 (fun e w' => e = .returned (B (f_hasTrap traps trap)) ∧ Chg NoB w0 w') := by
 refine Calls.run NoB Tryz.func145 ?_
 intro ac β S
 refine S.gb 10 (.cons (Q_call fun w hw => c_impl_within w traps 0 3) .nil) (f_within traps 0 3) (fun ac w β h1 S => ?_) (fun ac w β h1 S => ?_)
 ·have g2 := within_t h1
  refine S.gd 3 .nil (trap == 1) (fun ac w β h3 g4 S => ?_) (fun ac w β h3 g4 S => ?_)
  ·exact S.gf 14 (.cons (Q_land64 (x := traps) (y := trap)) .nil) [B ((land64 traps trap) != 0)] (retB k0_impl_HasTrap)
  refine S.gd 5 .nil (trap == 2) (fun ac w β h5 g6 S => ?_) (fun ac w β h5 g6 S => ?_)
  ·exact S.gf 9 (.cons (Q_land64 (x := traps) (y := trap)) .nil) [B ((land64 traps trap) != 0)] (retB k0_impl_HasTrap)
  exact S.gf 9 .nil [B false] (retB k0_impl_HasTrap)
 have g7 := within_f h1
 exact S.gf 17 .nil [B false] (retB k0_impl_HasTrap)

theorem c_impl_OutExit (w0 : World) (n : Int) (hn : In64 n) : Calls Tryz.prog 187 [I n].toArray w0 (fun e w' => e = .returned (GT.val (f_outExit n) ()) ∧ Chg NoB w0 w') := by
 refine Calls.run NoB Tryz.func187 ?_
 intro ac β S
 have hlon := hn.lo; have hhin := hn.hi
 exact S.gf 13 (.cons (Q_sem (s := Instr.build 79 [(0, I 3), (3, I n)].toArray) (v := .agg [I 3, I 0, B false, I n].toArray) (fun w => by kernel_rfl)) .nil) [GT.val (⟨3, 0, false, n⟩ : TExit) ()] (retV (p := ()) (by clear S; rfl))

theorem k0_impl_trapped {p : Prop} (h : p := by clear S; (unfold f_trapped; (repeat' split) <;> first | rfl | (exfalso; omega) | (exfalso; simp_all; done) | (exfalso; simp_all; omega) | (simp_all; done))) : p := h
theorem c_impl_trapped (w0 : World) (x : TGuest) (px : PGuest) (hx : RD w0 x px) (want : Int) : Calls Tryz.prog 147 [GT.val x px, I want].toArray w0 (Ret1 NoB w0 (f_trapped x want : TGuest)) := by
 refine Calls.run NoB Tryz.func147 ?_
 intro ac β S
 have hlex_prog : x.prog.length ≤ 4194304 := LRd.le (RGuest.prog (d := x) hx)
 have hlex_written : x.written.length ≤ 4194304 := LRd.le (RGuest.written (d := x) hx)
 have hlex_live : x.live.length ≤ 4194304 := LRd.le (RGuest.live (d := x) hx)
 have hlex_seen : x.seen.length ≤ 4194304 := LRd.le (RGuest.seen (d := x) hx)
 refine S.gd 13 .nil (want == 5) (fun ac w β h1 g2 S => ?_) (fun ac w β h1 g2 S => ?_)
 ·refine S.go 2 .nil fun ac w β S => ?_
  refine drw ?_
  refine S.draw0 (f := 10) 9 (by kernel_rfl) (by kernel_rfl) fun w S => ?_
  refine S.hq 0 [0] [] [(7, .v (GT.val x px))] .nil fun ac S => ?_
  refine S.hq 1 [1] [] [(8, .p 0 0)] .nil fun ac S => ?_
  refine S.hq 2 [2] [] [(9, .v (slv x.prog.length px.prog.1))] .nil fun ac S => ?_
  refine S.hq 3 [3] [] [(10, .p 0 2)] .nil fun ac S => ?_
  refine S.hq 4 [4] [] [(11, .v (I x.pc))] .nil fun ac S => ?_
  refine S.sq 5 [] [(12, .v (GT.val (f_insAt x.prog x.pc) ()))] 2 [] (.cons (Q_call fun w hw => c_impl_InsAt w x.prog px.prog (rd_of (RGuest.prog (d := x) (S.arg hx)) hw) x.pc) .nil) fun ac w β S => ?_
  refine S.hq 6 [6] [] [(13, .v (I (f_insAt x.prog x.pc).x))] .nil fun ac S => ?_
  refine S.sq 7 [] [(14, .v (GT.val (f_outExit (f_insAt x.prog x.pc).x) ()))] 2 [] (.cons (Q_call fun w hw => c_impl_OutExit w (f_insAt x.prog x.pc).x (RIns.x (d := (f_insAt x.prog x.pc)) (insAt_r (RGuest.prog (d := x) (S.arg hx)) x.pc))) .nil) fun ac w β S => ?_
  refine WD.one (i := 8) (by kernel_rfl) ?_
  refine id (S.k1 15 (c_impl_Stopped w x px (S.rd (S.arg hx)) (f_outExit (f_insAt x.prog x.pc).x) (outExit_r (RIns.x (d := (f_insAt x.prog x.pc)) (insAt_r (RGuest.prog (d := x) (S.arg hx)) x.pc)))) fun ac w N q3 F4 S up o5 d6 => ?_)
  refine WD.next S up (by kernel_rfl) ?_
  clear up d6
  refine S.sl 9 [] [] 2 [(1, GT.cells ({ x with exit := (f_outExit (f_insAt x.prog x.pc).x) } : TGuest) q3)] .nil fun ac w β S => ?_
  refine WD.done (by kernel_rfl) ?_ _
  refine S.ex fun S => ?_
  refine S.gr 2 .nil [GT.val ({ x with exit := (f_outExit (f_insAt x.prog x.pc).x) } : TGuest) q3] fun ac w β S => ?_
  exact ret1_of S (show f_trapped x want = ({ x with exit := (f_outExit (f_insAt x.prog x.pc).x) } : TGuest) from k0_impl_trapped) rfl o5
 refine S.go 7 (.cons (Q_sem (s := Instr.build 79 [(0, I 4)].toArray) (v := .agg [I 4, I 0, B false, I 0].toArray) (fun w => by kernel_rfl)) .nil) fun ac w β S => S.K1 (r := ({ x with exit := (⟨4, 0, false, 0⟩ : TExit) } : TGuest)) (d := 18) (c_impl_Stopped w x px (S.rd (S.arg hx)) (⟨4, 0, false, 0⟩ : TExit) (show RExit (⟨4, 0, false, 0⟩ : TExit) from ⟨(show In64 4 from ⟨by decide, by decide⟩), (show In64 0 from ⟨by decide, by decide⟩), (show In64 0 from ⟨by decide, by decide⟩)⟩)) fun ac w N q7 F8 S up o9 d10 => ?_
 clear up d10
 refine S.gr 4 .nil [GT.val ({ x with exit := (⟨4, 0, false, 0⟩ : TExit) } : TGuest) q7] fun ac w β S => ?_
 exact ret1_of S (show f_trapped x want = ({ x with exit := (⟨4, 0, false, 0⟩ : TExit) } : TGuest) from k0_impl_trapped) rfl o9

theorem k0_impl_PutOut {p : Prop} (h : p := by clear S; (first | (unfold f_putOut; rw [if_pos (by omega)]; done) | (unfold f_putOut; rw [if_pos (by omega)]; first | rfl | (simp; done)) | (unfold f_putOut; rw [if_neg (by omega)]; done) | (unfold f_putOut; rw [if_neg (by omega)]; first | rfl | (simp; done)))) : p := h
theorem c_impl_PutOut (w0 : World) (b : TBare) (pb : PBare) (hb : RD w0 b pb) (n : Int) (hn : In64 n) : Calls Tryz.prog 148 [GT.val b pb, I n].toArray w0 (Ret1 NoB w0 (f_putOut b n : TBare)) := by
 refine Calls.run NoB Tryz.func148 ?_
 intro ac β S
 have hleb_mem : b.mem.length ≤ 4194304 := LRd.le (RBare.mem (d := b) hb)
 have hleb_guests : b.guests.length ≤ 4194304 := LRd.le (RBare.guests (d := b) hb)
 have hleb_outs : b.outs.length ≤ 4194304 := LRd.le (RBare.outs (d := b) hb)
 have hlon := hn.lo; have hhin := hn.hi
 refine S.go 9 .nil fun ac w β S => S.K1 (r := b) (d := 7) (c_impl_copyBare w b pb (S.rd (S.arg hb))) fun ac w N q1 F2 S up o3 d4 => ?_
 clear up d4
 have i14 : In64 b.pend := RBare.pend (d := b) o3.rn
 obtain ⟨F5, F8, F11, o6, o9, o12, _, _, _, d15, d16, d17⟩ := sp_Bare o3
 refine S.gd 13 .nil (decide ((b.outs.length : Int) < 40)) (fun ac w β h18 g19 S => ?_) (fun ac w β h18 g19 S => ?_)
 ·refine S.go 5 .nil fun ac w β S => S.B1 (α := Int) (x := n) (p := ()) (F := NoB) hn (fun b h => False.elim h) (fun b h => False.elim h) (d := 15) fun ac w N q20 F21 S up o22 d23 => ?_
  replace o6 := o6.up up
  replace o9 := o9.up up
  replace o12 := o12.up up
  clear up d23
  refine S.AF (α := Int) o12 o22.rn (fun _ _ h => h) (by' := 8) (d := 16) (lx := b.outs.length) (ly := 1) rfl rfl (show _ ≤ 4194304 by simp only [List.length_append, List.length_cons, List.length_nil]; omega) fun ac w N q27 F28 S up o29 d30 => ?_
  have d31 := d30 _ d16 o6.sub
  have d32 := d30 _ d17 o9.sub
  replace o6 := o6.upF d16 up
  replace o9 := o9.upF d17 up
  clear up d30
  refine S.gr 11 .nil [GT.val (⟨b.mem, b.guests, (b.outs ++ [n]), b.pend⟩ : TBare) (⟨q1.mem, q1.guests, q27⟩ : PBare)] fun ac w β S => ?_
  have o34 := ow_Bare (x := (⟨b.mem, b.guests, (b.outs ++ [n]), b.pend⟩ : TBare)) (p := (⟨q1.mem, q1.guests, q27⟩ : PBare)) o6 o9 o29 d15 d31 d32 i14
  exact ret1_of S (show f_putOut b n = (⟨b.mem, b.guests, (b.outs ++ [n]), b.pend⟩ : TBare) from k0_impl_PutOut) rfl o34
 refine S.gr 10 .nil [GT.val b q1] fun ac w β S => ?_
 have o35 := ow_Bare (x := b) (p := q1) o6 o9 o12 d15 d16 d17 i14
 exact ret1_of S (show f_putOut b n = b from k0_impl_PutOut) rfl o35

theorem c_impl_Held (w0 : World) (g : TGuest) (pg : PGuest) (hg : RD w0 g pg) : Calls Tryz.prog 150 [GT.val g pg].toArray w0 (Ret1 NoB w0 (f_held g : TGuest)) := by
 refine Calls.run NoB Tryz.func150 ?_
 intro ac β S
 have hleg_prog : g.prog.length ≤ 4194304 := LRd.le (RGuest.prog (d := g) hg)
 have hleg_written : g.written.length ≤ 4194304 := LRd.le (RGuest.written (d := g) hg)
 have hleg_live : g.live.length ≤ 4194304 := LRd.le (RGuest.live (d := g) hg)
 have hleg_seen : g.seen.length ≤ 4194304 := LRd.le (RGuest.seen (d := g) hg)
 refine S.go 15 .nil fun ac w β S => S.K1 (r := f_moved (⟨g.prog, g.acc, g.pc, g.written, g.live, g.ctl, g.pend, g.exit, true, g.seen⟩ : TGuest)) (d := 5) (c_impl_Moved w (⟨g.prog, g.acc, g.pc, g.written, g.live, g.ctl, g.pend, g.exit, true, g.seen⟩ : TGuest) (⟨pg.prog, pg.written, pg.live, pg.seen⟩ : PGuest) (S.rd (show GT.rd KK _ _ (⟨g.prog, g.acc, g.pc, g.written, g.live, g.ctl, g.pend, g.exit, true, g.seen⟩ : TGuest) (⟨pg.prog, pg.written, pg.live, pg.seen⟩ : PGuest) from ⟨(RGuest.prog (p := pg) (d := g) (S.arg hg)), (RGuest.acc (d := g) (S.arg hg)), (RGuest.pc (d := g) (S.arg hg)), (RGuest.written (p := pg) (d := g) (S.arg hg)), (RGuest.live (p := pg) (d := g) (S.arg hg)), (RGuest.ctl (d := g) (S.arg hg)), (RGuest.pend (d := g) (S.arg hg)), (RGuest.exit (d := g) (S.arg hg)), (RGuest.seen (p := pg) (d := g) (S.arg hg))⟩))) fun ac w N q1 F2 S up o3 d4 => ?_
 clear up d4
 refine S.gr 4 .nil [GT.val (f_moved (⟨g.prog, g.acc, g.pc, g.written, g.live, g.ctl, g.pend, g.exit, true, g.seen⟩ : TGuest)) q1] fun ac w β S => ?_
 exact ret1_of S (show f_held g = (f_moved (⟨g.prog, g.acc, g.pc, g.written, g.live, g.ctl, g.pend, g.exit, true, g.seen⟩ : TGuest)) by clear S; rfl) rfl o3

end Go.Proofs.YtlpaefknpmdaoaaGreat
