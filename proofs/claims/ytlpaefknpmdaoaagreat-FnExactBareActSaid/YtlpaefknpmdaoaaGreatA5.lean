/- The walks: what each function that the laws reach computes (part 3). -/
import Derived.Test.YtlpaefknpmdaoaaGreatA4
import Derived.Test.YtlpaefknpmdaoaaGreatProg
import Derived.KernelRfl
namespace Go.Proofs.YtlpaefknpmdaoaaGreat
open Go
set_option linter.unusedVariables false
set_option linter.unusedSimpArgs false
set_option maxRecDepth 100000
set_option maxHeartbeats 2000000

theorem k0_impl_BareStep {p : Prop} (h : p := by clear S; (first | (rw [bareStep_no (.inl (by assumption))]; done) | (rw [bareStep_no (.inr (.inl (by assumption)))]; done) | (rw [bareStep_no (.inr (.inr (by omega)))]; done) | (rw [bareStep_yes (by assumption) (by assumption) (by omega)]; first | (rw [bareTo1 (by omega), withGuest_at (by assumption)]; first | done | rfl) | (rw [bareTo1 (by omega), withGuest_eq (by assumption) rfl]; first | done | rfl) | (rw [bareTo1 (by omega), withGuest_eq (by assumption) (putOut_guests _ _)]; first | done | rfl) | (rw [bareTo2 (by omega), withGuest_at (by assumption)]; first | done | rfl) | (rw [bareTo2 (by omega), withGuest_eq (by assumption) rfl]; first | done | rfl) | (rw [bareTo2 (by omega), withGuest_eq (by assumption) (putOut_guests _ _)]; first | done | rfl) | (rw [mem_no (by omega) (by assumption), withGuest_at (by assumption)]; first | done | rfl) | (rw [mem_no (by omega) (by assumption), withGuest_eq (by assumption) rfl]; first | done | rfl) | (rw [mem_no (by omega) (by assumption), withGuest_eq (by assumption) (putOut_guests _ _)]; first | done | rfl) | (rw [mem_store (by omega) (by assumption), withGuest_at (by assumption)]; first | done | rfl) | (rw [mem_store (by omega) (by assumption), withGuest_eq (by assumption) rfl]; first | done | rfl) | (rw [mem_store (by omega) (by assumption), withGuest_eq (by assumption) (putOut_guests _ _)]; first | done | rfl) | (rw [mem_load (by omega) (by assumption), withGuest_at (by assumption)]; first | done | rfl) | (rw [mem_load (by omega) (by assumption), withGuest_eq (by assumption) rfl]; first | done | rfl) | (rw [mem_load (by omega) (by assumption), withGuest_eq (by assumption) (putOut_guests _ _)]; first | done | rfl) | (rw [out_call (by omega), withGuest_at (by assumption)]; first | done | rfl) | (rw [out_call (by omega), withGuest_eq (by assumption) rfl]; first | done | rfl) | (rw [out_call (by omega), withGuest_eq (by assumption) (putOut_guests _ _)]; first | done | rfl) | (rw [out_trap (by omega) (by assumption), withGuest_at (by assumption)]; first | done | rfl) | (rw [out_trap (by omega) (by assumption), withGuest_eq (by assumption) rfl]; first | done | rfl) | (rw [out_trap (by omega) (by assumption), withGuest_eq (by assumption) (putOut_guests _ _)]; first | done | rfl) | (rw [out_out (by omega) (by assumption), withGuest_at (by assumption)]; first | done | rfl) | (rw [out_out (by omega) (by assumption), withGuest_eq (by assumption) rfl]; first | done | rfl) | (rw [out_out (by omega) (by assumption), withGuest_eq (by assumption) (putOut_guests _ _)]; first | done | rfl) | (rw [out_halt (by omega) (by assumption), withGuest_at (by assumption)]; first | done | rfl) | (rw [out_halt (by omega) (by assumption), withGuest_eq (by assumption) rfl]; first | done | rfl) | (rw [out_halt (by omega) (by assumption), withGuest_eq (by assumption) (putOut_guests _ _)]; first | done | rfl)))) : p := h
theorem k1_impl_BareStep {p : Prop} (h : p := by clear S; (first | (rw [bareStep_no (.inl (by assumption))]; done) | (rw [bareStep_no (.inr (.inl (by assumption)))]; done) | (rw [bareStep_no (.inr (.inr (by omega)))]; done) | (rw [bareStep_yes (by assumption) (by assumption) (by omega)]; done))) : p := h
theorem c_impl_BareStep (w0 : World) (b : TBare) (pb : PBare) (hb : RD w0 b pb) (g : Int) : Calls Tryz.prog 83 [GT.val b pb, I g].toArray w0 (Ret2 NoB w0 ((f_bareStep b g).1 : TBare) ((f_bareStep b g).2 : Bool)) := by
 refine Calls.run NoB Tryz.func83 ?_
 intro ac β S
 have hleb_mem : b.mem.length ≤ 4194304 := LRd.le (RBare.mem (d := b) hb)
 have hleb_guests : b.guests.length ≤ 4194304 := LRd.le (RBare.guests (d := b) hb)
 have hleb_outs : b.outs.length ≤ 4194304 := LRd.le (RBare.outs (d := b) hb)
 refine S.go 11 .nil fun ac w β S => S.K2 (r := (f_guestAt b g).1) (r' := (f_guestAt b g).2) (d := 17) (c_impl_GuestAt w b pb (S.rd (S.arg hb)) g) fun ac w N q1 q2 F3 F4 S up o5 o6 d7 d8 d9 => ?_
 clear up d7
 clear d8
 have b10 := wantOf_bd (f_guestAt b g).1
 refine S.gb 22 (.cons (Q_call fun w hw => c_impl_WantOf w (f_guestAt b g).1 q1 (rd_of o5.rn hw)) (.cons (Q_call fun w hw => c_impl_BareOk w b pb (rd_of (S.arg hb) hw)) .nil)) (!(f_bareOk b)) (fun ac w β h11 S => ?_) (fun ac w β h11 S => ?_)
 ·have h12 := not_t h11
  refine S.go 13 .nil fun ac w β S => S.K1 (r := b) (d := 34) (c_impl_copyBare w b pb (S.rd (S.arg hb))) fun ac w N q13 F14 S up o15 d16 => ?_
  clear up d16
  refine S.gr 5 .nil [GT.val b q13, B false] fun ac w β S => ?_
  exact ret2_of (p' := ()) S (show (f_bareStep b g).1 = b from k0_impl_BareStep) (show (f_bareStep b g).2 = false from k1_impl_BareStep) rfl rfl o15 trivial
 have h17 := not_f h11
 have g18 := bareOk_t h17
 refine S.gb 4 .nil (!(f_guestAt b g).2) (fun ac w β h19 S => ?_) (fun ac w β h19 S => ?_)
 ·have h20 := not_t h19
  have g21 := guestAt_f h20
  refine S.go 9 .nil fun ac w β S => S.K1 (r := b) (d := 34) (c_impl_copyBare w b pb (S.rd (S.arg hb))) fun ac w N q22 F23 S up o24 d25 => ?_
  clear up d25
  refine S.gr 5 .nil [GT.val b q22, B false] fun ac w β S => ?_
  exact ret2_of (p' := ()) S (show (f_bareStep b g).1 = b from k0_impl_BareStep) (show (f_bareStep b g).2 = false from k1_impl_BareStep) rfl rfl o24 trivial
 have h26 := not_f h19
 have g27 := guestAt_t h26
 refine S.gd 5 .nil ((f_wantOf (f_guestAt b g).1) == 0) (fun ac w β h28 g29 S => ?_) (fun ac w β h28 g29 S => ?_)
 ·refine S.go 4 .nil fun ac w β S => S.K1 (r := b) (d := 34) (c_impl_copyBare w b pb (S.rd (S.arg hb))) fun ac w N q30 F31 S up o32 d33 => ?_
  clear up d33
  refine S.gr 5 .nil [GT.val b q30, B false] fun ac w β S => ?_
  exact ret2_of (p' := ()) S (show (f_bareStep b g).1 = b from k0_impl_BareStep) (show (f_bareStep b g).2 = false from k1_impl_BareStep) rfl rfl o32 trivial
 refine S.gd 34 (.cons (Q_call fun w hw => c_impl_Address w (f_guestAt b g).1 q1 (rd_of o5.rn hw)) (.cons (Q_call fun w hw => c_impl_InsAt w (f_guestAt b g).1.prog q1.prog (rd_of (RGuest.prog (d := (f_guestAt b g).1) o5.rn) hw) (f_guestAt b g).1.pc) .nil)) ((f_wantOf (f_guestAt b g).1) == 1) (fun ac w β h34 g35 S => ?_) (fun ac w β h34 g35 S => ?_)
 ·refine S.go 2 .nil fun ac w β S => ?_
  refine drw ?_
  refine S.draw0 (f := 7) 5 (by kernel_rfl) (by kernel_rfl) fun w S => ?_
  refine S.hq 0 [0] [] [(45, .v (GT.val b pb))] .nil fun ac S => ?_
  refine S.hq 1 [1] [] [(46, .v (I g))] .nil fun ac S => ?_
  refine S.hq 2 [2] [] [(47, .v (GT.val (f_guestAt b g).1 q1))] .nil fun ac S => ?_
  refine WD.one (i := 3) (by kernel_rfl) ?_
  refine id (S.k1 48 (c_impl_Interrupted w (f_guestAt b g).1 q1 (S.rd o5.rn)) fun ac w N q36 F37 S up o38 d39 => ?_)
  refine WD.next S up (by kernel_rfl) ?_
  replace o5 := o5.up up
  clear up d39
  refine WD.one (i := 4) (by kernel_rfl) ?_
  refine id (S.k1 49 (c_impl_WithGuest w b pb (S.rd (S.arg hb)) g (f_interrupted (f_guestAt b g).1) q36 (S.rd o38.rn)) fun ac w N q41 F42 S up o43 d44 => ?_)
  refine WD.next S up (by kernel_rfl) ?_
  replace o5 := o5.up up
  clear up d44
  refine S.sl 5 [] [] 4 [(1, GT.cells (f_withGuest b g (f_interrupted (f_guestAt b g).1)) q41)] .nil fun ac w β S => ?_
  refine S.sl 6 [] [(5, .v (B true))] 4 [] .nil fun ac w β S => ?_
  refine WD.done (by kernel_rfl) ?_ _
  refine S.ex fun S => ?_
  refine S.gr 2 .nil [GT.val (f_withGuest b g (f_interrupted (f_guestAt b g).1)) q41, B true] fun ac w β S => ?_
  exact ret2_of (p' := ()) S (show (f_bareStep b g).1 = (f_withGuest b g (f_interrupted (f_guestAt b g).1)) from k0_impl_BareStep) (show (f_bareStep b g).2 = true from k1_impl_BareStep) rfl rfl o43 trivial
 refine S.gd 7 .nil ((f_wantOf (f_guestAt b g).1) == 2) (fun ac w β h47 g48 S => ?_) (fun ac w β h47 g48 S => ?_)
 ·refine S.go 2 .nil fun ac w β S => ?_
  refine drw ?_
  refine S.draw0 (f := 7) 5 (by kernel_rfl) (by kernel_rfl) fun w S => ?_
  refine S.hq 0 [0] [] [(52, .v (GT.val b pb))] .nil fun ac S => ?_
  refine S.hq 1 [1] [] [(53, .v (I g))] .nil fun ac S => ?_
  refine S.hq 2 [2] [] [(54, .v (GT.val (f_guestAt b g).1 q1))] .nil fun ac S => ?_
  refine WD.one (i := 3) (by kernel_rfl) ?_
  refine id (S.k1 55 (c_impl_Plainly w (f_guestAt b g).1 q1 (S.rd o5.rn)) fun ac w N q49 F50 S up o51 d52 => ?_)
  refine WD.next S up (by kernel_rfl) ?_
  replace o5 := o5.up up
  clear up d52
  refine WD.one (i := 4) (by kernel_rfl) ?_
  refine id (S.k1 56 (c_impl_WithGuest w b pb (S.rd (S.arg hb)) g (f_plainly (f_guestAt b g).1) q49 (S.rd o51.rn)) fun ac w N q54 F55 S up o56 d57 => ?_)
  refine WD.next S up (by kernel_rfl) ?_
  replace o5 := o5.up up
  clear up d57
  refine S.sl 5 [] [] 4 [(1, GT.cells (f_withGuest b g (f_plainly (f_guestAt b g).1)) q54)] .nil fun ac w β S => ?_
  refine S.sl 6 [] [(5, .v (B true))] 4 [] .nil fun ac w β S => ?_
  refine WD.done (by kernel_rfl) ?_ _
  refine S.ex fun S => ?_
  refine S.gr 2 .nil [GT.val (f_withGuest b g (f_plainly (f_guestAt b g).1)) q54, B true] fun ac w β S => ?_
  exact ret2_of (p' := ()) S (show (f_bareStep b g).1 = (f_withGuest b g (f_plainly (f_guestAt b g).1)) from k0_impl_BareStep) (show (f_bareStep b g).2 = true from k1_impl_BareStep) rfl rfl o56 trivial
 refine S.gd 8 .nil ((f_wantOf (f_guestAt b g).1) == 3) (fun ac w β h60 g61 S => ?_) (fun ac w β h60 g61 S => ?_)
 ·refine S.gb 23 (.cons (Q_call fun w hw => c_impl_AddrPage w (f_address (f_guestAt b g).1) (address_in64 o5.rn)) (.cons (Q_call fun w hw => c_impl_NeedOf w ((f_wantOf (f_guestAt b g).1) == 4)) (.cons (Q_call fun w hw => c_impl_WalkInner w (f_guestAt b g).1.live q1.live (rd_of (RGuest.live (d := (f_guestAt b g).1) o5.rn) hw) (f_addrPage (f_address (f_guestAt b g).1)) (f_needOf ((f_wantOf (f_guestAt b g).1) == 4))) .nil))) (!(f_walkInner (f_guestAt b g).1.live (f_addrPage (f_address (f_guestAt b g).1)) (f_needOf ((f_wantOf (f_guestAt b g).1) == 4))).2) (fun ac w β h62 S => ?_) (fun ac w β h62 S => ?_)
  ·have h63 := not_t h62
   refine S.go 2 .nil fun ac w β S => ?_
   refine drw ?_
   refine S.draw0 (f := 11) 9 (by kernel_rfl) (by kernel_rfl) fun w S => ?_
   refine S.hq 0 [0] [] [(75, .v (GT.val b pb))] .nil fun ac S => ?_
   refine S.hq 1 [1] [] [(76, .v (I g))] .nil fun ac S => ?_
   refine S.hq 2 [2] [] [(77, .v (GT.val (f_guestAt b g).1 q1))] .nil fun ac S => ?_
   refine S.hq 3 [3] [] [(78, .v (I (f_address (f_guestAt b g).1)))] .nil fun ac S => ?_
   refine S.hq 5 [5] [] [(80, .v (B ((f_wantOf (f_guestAt b g).1) == 4)))] .nil fun ac S => ?_
   refine S.sq 4 [] [(79, .v (I (f_addrPage (f_address (f_guestAt b g).1))))] 4 [] (.cons (Q_call fun w hw => c_impl_AddrPage w (f_address (f_guestAt b g).1) (address_in64 o5.rn)) .nil) fun ac w β S => ?_
   refine S.sq 6 [] [(81, .v (GT.val (f_faultExit (f_addrPage (f_address (f_guestAt b g).1)) ((f_wantOf (f_guestAt b g).1) == 4)) ()))] 4 [] (.cons (Q_call fun w hw => c_impl_FaultExit w (f_addrPage (f_address (f_guestAt b g).1)) (addrPage_in64 (address_in64 o5.rn)) ((f_wantOf (f_guestAt b g).1) == 4)) .nil) fun ac w β S => ?_
   refine WD.one (i := 7) (by kernel_rfl) ?_
   refine id (S.k1 82 (c_impl_Stopped w (f_guestAt b g).1 q1 (S.rd o5.rn) (f_faultExit (f_addrPage (f_address (f_guestAt b g).1)) ((f_wantOf (f_guestAt b g).1) == 4)) (faultExit_r (addrPage_in64 (address_in64 o5.rn)) ((f_wantOf (f_guestAt b g).1) == 4))) fun ac w N q64 F65 S up o66 d67 => ?_)
   refine WD.next S up (by kernel_rfl) ?_
   replace o5 := o5.up up
   clear up d67
   refine WD.one (i := 8) (by kernel_rfl) ?_
   refine id (S.k1 83 (c_impl_WithGuest w b pb (S.rd (S.arg hb)) g ({ (f_guestAt b g).1 with exit := (f_faultExit (f_addrPage (f_address (f_guestAt b g).1)) ((f_wantOf (f_guestAt b g).1) == 4)) } : TGuest) q64 (S.rd o66.rn)) fun ac w N q69 F70 S up o71 d72 => ?_)
   refine WD.next S up (by kernel_rfl) ?_
   replace o5 := o5.up up
   clear up d72
   refine S.sl 9 [] [] 4 [(1, GT.cells (f_withGuest b g ({ (f_guestAt b g).1 with exit := (f_faultExit (f_addrPage (f_address (f_guestAt b g).1)) ((f_wantOf (f_guestAt b g).1) == 4)) } : TGuest)) q69)] .nil fun ac w β S => ?_
   refine S.sl 10 [] [(5, .v (B true))] 4 [] .nil fun ac w β S => ?_
   refine WD.done (by kernel_rfl) ?_ _
   refine S.ex fun S => ?_
   refine S.gr 2 .nil [GT.val (f_withGuest b g ({ (f_guestAt b g).1 with exit := (f_faultExit (f_addrPage (f_address (f_guestAt b g).1)) ((f_wantOf (f_guestAt b g).1) == 4)) } : TGuest)) q69, B true] fun ac w β S => ?_
   exact ret2_of (p' := ()) S (show (f_bareStep b g).1 = (f_withGuest b g ({ (f_guestAt b g).1 with exit := (f_faultExit (f_addrPage (f_address (f_guestAt b g).1)) ((f_wantOf (f_guestAt b g).1) == 4)) } : TGuest)) from k0_impl_BareStep) (show (f_bareStep b g).2 = true from k1_impl_BareStep) rfl rfl o71 trivial
  have h75 := not_f h62
  refine S.gd 7 .nil ((f_wantOf (f_guestAt b g).1) == 4) (fun ac w β h76 g77 S => ?_) (fun ac w β h76 g77 S => ?_)
  ·refine S.go 2 .nil fun ac w β S => ?_
   refine drw ?_
   refine S.draw0 (f := 10) 9 (by kernel_rfl) (by kernel_rfl) fun w S => ?_
   refine S.hq 0 [0] [] [(86, .p 0 0)] .nil fun ac S => ?_
   refine S.hq 1 [1] [] [(87, .v (slv b.mem.length pb.mem.1))] .nil fun ac S => ?_
   refine S.hq 2 [2] [] [(88, .v (I (f_walkInner (f_guestAt b g).1.live (f_addrPage (f_address (f_guestAt b g).1)) (f_needOf ((f_wantOf (f_guestAt b g).1) == 4))).1))] .nil fun ac S => ?_
   refine S.hq 3 [3] [] [(89, .v (I (f_address (f_guestAt b g).1)))] .nil fun ac S => ?_
   refine S.hq 5 [5] [] [(91, .p 2 1)] .nil fun ac S => ?_
   refine S.hq 6 [6] [] [(92, .v (I (f_guestAt b g).1.acc))] .nil fun ac S => ?_
   refine S.sq 4 [] [(90, .v (I (f_addrCell (f_address (f_guestAt b g).1))))] 4 [] (.cons (Q_call fun w hw => c_impl_AddrCell w (f_address (f_guestAt b g).1) (address_in64 o5.rn)) .nil) fun ac w β S => ?_
   refine WD.one (i := 7) (by kernel_rfl) ?_
   refine id (S.k1 93 (c_impl_WithCell w b.mem pb.mem (S.rd (RBare.mem (d := b) (S.arg hb))) (f_walkInner (f_guestAt b g).1.live (f_addrPage (f_address (f_guestAt b g).1)) (f_needOf ((f_wantOf (f_guestAt b g).1) == 4))).1 (f_addrCell (f_address (f_guestAt b g).1)) (f_guestAt b g).1.acc (RGuest.acc (d := (f_guestAt b g).1) o5.rn)) fun ac w N q78 F79 S up o80 d81 => ?_)
   refine WD.next S up (by kernel_rfl) ?_
   replace o5 := o5.up up
   clear up d81
   refine S.hq 8 [8] [] [(94, .p 0 0)] .nil fun ac S => ?_
   refine S.sl 9 [] [] 4 [(0, [slv (f_withCell b.mem (f_walkInner (f_guestAt b g).1.live (f_addrPage (f_address (f_guestAt b g).1)) (f_needOf ((f_wantOf (f_guestAt b g).1) == 4))).1 (f_addrCell (f_address (f_guestAt b g).1)) (f_guestAt b g).1.acc).length q78.1, slv b.guests.length pb.guests.1, slv b.outs.length pb.outs.1, I b.pend])] .nil fun ac w β S => ?_
   refine WD.done (by kernel_rfl) ?_ _
   refine S.ex fun S => ?_
   refine S.go 2 .nil fun ac w β S => ?_
   refine drw ?_
   refine S.draw0 (f := 7) 5 (by kernel_rfl) (by kernel_rfl) fun w S => ?_
   refine S.hq 0 [0] [] [(95, .v (GT.val (⟨(f_withCell b.mem (f_walkInner (f_guestAt b g).1.live (f_addrPage (f_address (f_guestAt b g).1)) (f_needOf ((f_wantOf (f_guestAt b g).1) == 4))).1 (f_addrCell (f_address (f_guestAt b g).1)) (f_guestAt b g).1.acc), b.guests, b.outs, b.pend⟩ : TBare) (⟨q78, pb.guests, pb.outs⟩ : PBare)))] .nil fun ac S => ?_
   refine S.hq 1 [1] [] [(96, .v (I g))] .nil fun ac S => ?_
   refine S.hq 2 [2] [] [(97, .v (GT.val (f_guestAt b g).1 q1))] .nil fun ac S => ?_
   refine WD.one (i := 3) (by kernel_rfl) ?_
   refine id (S.k1 98 (c_impl_Stored w (f_guestAt b g).1 q1 (S.rd o5.rn)) fun ac w N q83 F84 S up o85 d86 => ?_)
   refine WD.next S up (by kernel_rfl) ?_
   replace o5 := o5.up up
   replace o80 := o80.up up
   clear up d86
   refine WD.one (i := 4) (by kernel_rfl) ?_
   refine id (S.k1 99 (c_impl_WithGuest w (⟨(f_withCell b.mem (f_walkInner (f_guestAt b g).1.live (f_addrPage (f_address (f_guestAt b g).1)) (f_needOf ((f_wantOf (f_guestAt b g).1) == 4))).1 (f_addrCell (f_address (f_guestAt b g).1)) (f_guestAt b g).1.acc), b.guests, b.outs, b.pend⟩ : TBare) (⟨q78, pb.guests, pb.outs⟩ : PBare) (S.rd (show GT.rd KK _ _ (⟨(f_withCell b.mem (f_walkInner (f_guestAt b g).1.live (f_addrPage (f_address (f_guestAt b g).1)) (f_needOf ((f_wantOf (f_guestAt b g).1) == 4))).1 (f_addrCell (f_address (f_guestAt b g).1)) (f_guestAt b g).1.acc), b.guests, b.outs, b.pend⟩ : TBare) (⟨q78, pb.guests, pb.outs⟩ : PBare) from ⟨o80.rn, (RBare.guests (p := pb) (d := b) (S.arg hb)), (RBare.outs (p := pb) (d := b) (S.arg hb)), (RBare.pend (d := b) (S.arg hb))⟩)) g (f_moved (f_guestAt b g).1) q83 (S.rd o85.rn)) fun ac w N q89 F90 S up o91 d92 => ?_)
   refine WD.next S up (by kernel_rfl) ?_
   replace o5 := o5.up up
   clear up d92
   refine S.sl 5 [] [] 4 [(1, GT.cells (f_withGuest (⟨(f_withCell b.mem (f_walkInner (f_guestAt b g).1.live (f_addrPage (f_address (f_guestAt b g).1)) (f_needOf ((f_wantOf (f_guestAt b g).1) == 4))).1 (f_addrCell (f_address (f_guestAt b g).1)) (f_guestAt b g).1.acc), b.guests, b.outs, b.pend⟩ : TBare) g (f_moved (f_guestAt b g).1)) q89)] .nil fun ac w β S => ?_
   refine S.sl 6 [] [(5, .v (B true))] 4 [] .nil fun ac w β S => ?_
   refine WD.done (by kernel_rfl) ?_ _
   refine S.ex fun S => ?_
   refine S.gr 2 .nil [GT.val (f_withGuest (⟨(f_withCell b.mem (f_walkInner (f_guestAt b g).1.live (f_addrPage (f_address (f_guestAt b g).1)) (f_needOf ((f_wantOf (f_guestAt b g).1) == 4))).1 (f_addrCell (f_address (f_guestAt b g).1)) (f_guestAt b g).1.acc), b.guests, b.outs, b.pend⟩ : TBare) g (f_moved (f_guestAt b g).1)) q89, B true] fun ac w β S => ?_
   exact ret2_of (p' := ()) S (show (f_bareStep b g).1 = (f_withGuest (⟨(f_withCell b.mem (f_walkInner (f_guestAt b g).1.live (f_addrPage (f_address (f_guestAt b g).1)) (f_needOf ((f_wantOf (f_guestAt b g).1) == 4))).1 (f_addrCell (f_address (f_guestAt b g).1)) (f_guestAt b g).1.acc), b.guests, b.outs, b.pend⟩ : TBare) g (f_moved (f_guestAt b g).1)) from k0_impl_BareStep) (show (f_bareStep b g).2 = true from k1_impl_BareStep) rfl rfl o91 trivial
  refine S.go 5 .nil fun ac w β S => ?_
  refine drw ?_
  refine S.draw0 (f := 13) 11 (by kernel_rfl) (by kernel_rfl) fun w S => ?_
  refine S.hq 0 [0] [] [(100, .v (GT.val b pb))] .nil fun ac S => ?_
  refine S.hq 1 [1] [] [(101, .v (I g))] .nil fun ac S => ?_
  refine S.hq 2 [2] [] [(102, .v (GT.val (f_guestAt b g).1 q1))] .nil fun ac S => ?_
  refine S.hq 3 [3] [] [(103, .p 0 0)] .nil fun ac S => ?_
  refine S.hq 4 [4] [] [(104, .v (slv b.mem.length pb.mem.1))] .nil fun ac S => ?_
  refine S.hq 5 [5] [] [(105, .v (I (f_walkInner (f_guestAt b g).1.live (f_addrPage (f_address (f_guestAt b g).1)) (f_needOf ((f_wantOf (f_guestAt b g).1) == 4))).1))] .nil fun ac S => ?_
  refine S.hq 6 [6] [] [(106, .v (I (f_address (f_guestAt b g).1)))] .nil fun ac S => ?_
  refine S.sq 7 [] [(107, .v (I (f_addrCell (f_address (f_guestAt b g).1))))] 4 [] (.cons (Q_call fun w hw => c_impl_AddrCell w (f_address (f_guestAt b g).1) (address_in64 o5.rn)) .nil) fun ac w β S => ?_
  refine S.sq 8 [] [(108, .v (I (f_cellAt b.mem (f_walkInner (f_guestAt b g).1.live (f_addrPage (f_address (f_guestAt b g).1)) (f_needOf ((f_wantOf (f_guestAt b g).1) == 4))).1 (f_addrCell (f_address (f_guestAt b g).1)))))] 4 [] (.cons (Q_call fun w hw => c_impl_CellAt w b.mem pb.mem (rd_of (RBare.mem (d := b) (S.arg hb)) hw) (f_walkInner (f_guestAt b g).1.live (f_addrPage (f_address (f_guestAt b g).1)) (f_needOf ((f_wantOf (f_guestAt b g).1) == 4))).1 (f_addrCell (f_address (f_guestAt b g).1))) .nil) fun ac w β S => ?_
  refine WD.one (i := 9) (by kernel_rfl) ?_
  refine id (S.k1 109 (c_impl_Loaded w (f_guestAt b g).1 q1 (S.rd o5.rn) (f_cellAt b.mem (f_walkInner (f_guestAt b g).1.live (f_addrPage (f_address (f_guestAt b g).1)) (f_needOf ((f_wantOf (f_guestAt b g).1) == 4))).1 (f_addrCell (f_address (f_guestAt b g).1))) (cellAt_in64 (RBare.mem (d := b) (S.arg hb)) (f_walkInner (f_guestAt b g).1.live (f_addrPage (f_address (f_guestAt b g).1)) (f_needOf ((f_wantOf (f_guestAt b g).1) == 4))).1 (f_addrCell (f_address (f_guestAt b g).1)))) fun ac w N q96 F97 S up o98 d99 => ?_)
  refine WD.next S up (by kernel_rfl) ?_
  replace o5 := o5.up up
  clear up d99
  refine WD.one (i := 10) (by kernel_rfl) ?_
  refine id (S.k1 110 (c_impl_WithGuest w b pb (S.rd (S.arg hb)) g (f_loaded (f_guestAt b g).1 (f_cellAt b.mem (f_walkInner (f_guestAt b g).1.live (f_addrPage (f_address (f_guestAt b g).1)) (f_needOf ((f_wantOf (f_guestAt b g).1) == 4))).1 (f_addrCell (f_address (f_guestAt b g).1)))) q96 (S.rd o98.rn)) fun ac w N q101 F102 S up o103 d104 => ?_)
  refine WD.next S up (by kernel_rfl) ?_
  replace o5 := o5.up up
  clear up d104
  refine S.sl 11 [] [] 4 [(1, GT.cells (f_withGuest b g (f_loaded (f_guestAt b g).1 (f_cellAt b.mem (f_walkInner (f_guestAt b g).1.live (f_addrPage (f_address (f_guestAt b g).1)) (f_needOf ((f_wantOf (f_guestAt b g).1) == 4))).1 (f_addrCell (f_address (f_guestAt b g).1))))) q101)] .nil fun ac w β S => ?_
  refine S.sl 12 [] [(5, .v (B true))] 4 [] .nil fun ac w β S => ?_
  refine WD.done (by kernel_rfl) ?_ _
  refine S.ex fun S => ?_
  refine S.gr 2 .nil [GT.val (f_withGuest b g (f_loaded (f_guestAt b g).1 (f_cellAt b.mem (f_walkInner (f_guestAt b g).1.live (f_addrPage (f_address (f_guestAt b g).1)) (f_needOf ((f_wantOf (f_guestAt b g).1) == 4))).1 (f_addrCell (f_address (f_guestAt b g).1))))) q101, B true] fun ac w β S => ?_
  exact ret2_of (p' := ()) S (show (f_bareStep b g).1 = (f_withGuest b g (f_loaded (f_guestAt b g).1 (f_cellAt b.mem (f_walkInner (f_guestAt b g).1.live (f_addrPage (f_address (f_guestAt b g).1)) (f_needOf ((f_wantOf (f_guestAt b g).1) == 4))).1 (f_addrCell (f_address (f_guestAt b g).1))))) from k0_impl_BareStep) (show (f_bareStep b g).2 = true from k1_impl_BareStep) rfl rfl o103 trivial
 refine S.gd 6 .nil ((f_wantOf (f_guestAt b g).1) == 4) (fun ac w β h107 g108 S => ?_) (fun ac w β h107 g108 S => ?_)
 ·refine S.gb 20 (.cons (Q_call fun w hw => c_impl_AddrPage w (f_address (f_guestAt b g).1) (address_in64 o5.rn)) (.cons (Q_call fun w hw => c_impl_NeedOf w ((f_wantOf (f_guestAt b g).1) == 4)) (.cons (Q_call fun w hw => c_impl_WalkInner w (f_guestAt b g).1.live q1.live (rd_of (RGuest.live (d := (f_guestAt b g).1) o5.rn) hw) (f_addrPage (f_address (f_guestAt b g).1)) (f_needOf ((f_wantOf (f_guestAt b g).1) == 4))) .nil))) (!(f_walkInner (f_guestAt b g).1.live (f_addrPage (f_address (f_guestAt b g).1)) (f_needOf ((f_wantOf (f_guestAt b g).1) == 4))).2) (fun ac w β h109 S => ?_) (fun ac w β h109 S => ?_)
  ·have h110 := not_t h109
   refine S.go 2 .nil fun ac w β S => ?_
   refine drw ?_
   refine S.draw0 (f := 11) 9 (by kernel_rfl) (by kernel_rfl) fun w S => ?_
   refine S.hq 0 [0] [] [(75, .v (GT.val b pb))] .nil fun ac S => ?_
   refine S.hq 1 [1] [] [(76, .v (I g))] .nil fun ac S => ?_
   refine S.hq 2 [2] [] [(77, .v (GT.val (f_guestAt b g).1 q1))] .nil fun ac S => ?_
   refine S.hq 3 [3] [] [(78, .v (I (f_address (f_guestAt b g).1)))] .nil fun ac S => ?_
   refine S.hq 5 [5] [] [(80, .v (B ((f_wantOf (f_guestAt b g).1) == 4)))] .nil fun ac S => ?_
   refine S.sq 4 [] [(79, .v (I (f_addrPage (f_address (f_guestAt b g).1))))] 4 [] (.cons (Q_call fun w hw => c_impl_AddrPage w (f_address (f_guestAt b g).1) (address_in64 o5.rn)) .nil) fun ac w β S => ?_
   refine S.sq 6 [] [(81, .v (GT.val (f_faultExit (f_addrPage (f_address (f_guestAt b g).1)) ((f_wantOf (f_guestAt b g).1) == 4)) ()))] 4 [] (.cons (Q_call fun w hw => c_impl_FaultExit w (f_addrPage (f_address (f_guestAt b g).1)) (addrPage_in64 (address_in64 o5.rn)) ((f_wantOf (f_guestAt b g).1) == 4)) .nil) fun ac w β S => ?_
   refine WD.one (i := 7) (by kernel_rfl) ?_
   refine id (S.k1 82 (c_impl_Stopped w (f_guestAt b g).1 q1 (S.rd o5.rn) (f_faultExit (f_addrPage (f_address (f_guestAt b g).1)) ((f_wantOf (f_guestAt b g).1) == 4)) (faultExit_r (addrPage_in64 (address_in64 o5.rn)) ((f_wantOf (f_guestAt b g).1) == 4))) fun ac w N q111 F112 S up o113 d114 => ?_)
   refine WD.next S up (by kernel_rfl) ?_
   replace o5 := o5.up up
   clear up d114
   refine WD.one (i := 8) (by kernel_rfl) ?_
   refine id (S.k1 83 (c_impl_WithGuest w b pb (S.rd (S.arg hb)) g ({ (f_guestAt b g).1 with exit := (f_faultExit (f_addrPage (f_address (f_guestAt b g).1)) ((f_wantOf (f_guestAt b g).1) == 4)) } : TGuest) q111 (S.rd o113.rn)) fun ac w N q116 F117 S up o118 d119 => ?_)
   refine WD.next S up (by kernel_rfl) ?_
   replace o5 := o5.up up
   clear up d119
   refine S.sl 9 [] [] 4 [(1, GT.cells (f_withGuest b g ({ (f_guestAt b g).1 with exit := (f_faultExit (f_addrPage (f_address (f_guestAt b g).1)) ((f_wantOf (f_guestAt b g).1) == 4)) } : TGuest)) q116)] .nil fun ac w β S => ?_
   refine S.sl 10 [] [(5, .v (B true))] 4 [] .nil fun ac w β S => ?_
   refine WD.done (by kernel_rfl) ?_ _
   refine S.ex fun S => ?_
   refine S.gr 2 .nil [GT.val (f_withGuest b g ({ (f_guestAt b g).1 with exit := (f_faultExit (f_addrPage (f_address (f_guestAt b g).1)) ((f_wantOf (f_guestAt b g).1) == 4)) } : TGuest)) q116, B true] fun ac w β S => ?_
   exact ret2_of (p' := ()) S (show (f_bareStep b g).1 = (f_withGuest b g ({ (f_guestAt b g).1 with exit := (f_faultExit (f_addrPage (f_address (f_guestAt b g).1)) ((f_wantOf (f_guestAt b g).1) == 4)) } : TGuest)) from k0_impl_BareStep) (show (f_bareStep b g).2 = true from k1_impl_BareStep) rfl rfl o118 trivial
  have h122 := not_f h109
  refine S.go 7 .nil fun ac w β S => ?_
  refine S.lt 84 h107 fun S => ?_
  refine S.go 2 .nil fun ac w β S => ?_
  refine drw ?_
  refine S.draw0 (f := 10) 9 (by kernel_rfl) (by kernel_rfl) fun w S => ?_
  refine S.hq 0 [0] [] [(86, .p 0 0)] .nil fun ac S => ?_
  refine S.hq 1 [1] [] [(87, .v (slv b.mem.length pb.mem.1))] .nil fun ac S => ?_
  refine S.hq 2 [2] [] [(88, .v (I (f_walkInner (f_guestAt b g).1.live (f_addrPage (f_address (f_guestAt b g).1)) (f_needOf ((f_wantOf (f_guestAt b g).1) == 4))).1))] .nil fun ac S => ?_
  refine S.hq 3 [3] [] [(89, .v (I (f_address (f_guestAt b g).1)))] .nil fun ac S => ?_
  refine S.hq 5 [5] [] [(91, .p 2 1)] .nil fun ac S => ?_
  refine S.hq 6 [6] [] [(92, .v (I (f_guestAt b g).1.acc))] .nil fun ac S => ?_
  refine S.sq 4 [] [(90, .v (I (f_addrCell (f_address (f_guestAt b g).1))))] 4 [] (.cons (Q_call fun w hw => c_impl_AddrCell w (f_address (f_guestAt b g).1) (address_in64 o5.rn)) .nil) fun ac w β S => ?_
  refine WD.one (i := 7) (by kernel_rfl) ?_
  refine id (S.k1 93 (c_impl_WithCell w b.mem pb.mem (S.rd (RBare.mem (d := b) (S.arg hb))) (f_walkInner (f_guestAt b g).1.live (f_addrPage (f_address (f_guestAt b g).1)) (f_needOf ((f_wantOf (f_guestAt b g).1) == 4))).1 (f_addrCell (f_address (f_guestAt b g).1)) (f_guestAt b g).1.acc (RGuest.acc (d := (f_guestAt b g).1) o5.rn)) fun ac w N q123 F124 S up o125 d126 => ?_)
  refine WD.next S up (by kernel_rfl) ?_
  replace o5 := o5.up up
  clear up d126
  refine S.hq 8 [8] [] [(94, .p 0 0)] .nil fun ac S => ?_
  refine S.sl 9 [] [] 4 [(0, [slv (f_withCell b.mem (f_walkInner (f_guestAt b g).1.live (f_addrPage (f_address (f_guestAt b g).1)) (f_needOf ((f_wantOf (f_guestAt b g).1) == 4))).1 (f_addrCell (f_address (f_guestAt b g).1)) (f_guestAt b g).1.acc).length q123.1, slv b.guests.length pb.guests.1, slv b.outs.length pb.outs.1, I b.pend])] .nil fun ac w β S => ?_
  refine WD.done (by kernel_rfl) ?_ _
  refine S.ex fun S => ?_
  refine S.go 2 .nil fun ac w β S => ?_
  refine drw ?_
  refine S.draw0 (f := 7) 5 (by kernel_rfl) (by kernel_rfl) fun w S => ?_
  refine S.hq 0 [0] [] [(95, .v (GT.val (⟨(f_withCell b.mem (f_walkInner (f_guestAt b g).1.live (f_addrPage (f_address (f_guestAt b g).1)) (f_needOf ((f_wantOf (f_guestAt b g).1) == 4))).1 (f_addrCell (f_address (f_guestAt b g).1)) (f_guestAt b g).1.acc), b.guests, b.outs, b.pend⟩ : TBare) (⟨q123, pb.guests, pb.outs⟩ : PBare)))] .nil fun ac S => ?_
  refine S.hq 1 [1] [] [(96, .v (I g))] .nil fun ac S => ?_
  refine S.hq 2 [2] [] [(97, .v (GT.val (f_guestAt b g).1 q1))] .nil fun ac S => ?_
  refine WD.one (i := 3) (by kernel_rfl) ?_
  refine id (S.k1 98 (c_impl_Stored w (f_guestAt b g).1 q1 (S.rd o5.rn)) fun ac w N q128 F129 S up o130 d131 => ?_)
  refine WD.next S up (by kernel_rfl) ?_
  replace o5 := o5.up up
  replace o125 := o125.up up
  clear up d131
  refine WD.one (i := 4) (by kernel_rfl) ?_
  refine id (S.k1 99 (c_impl_WithGuest w (⟨(f_withCell b.mem (f_walkInner (f_guestAt b g).1.live (f_addrPage (f_address (f_guestAt b g).1)) (f_needOf ((f_wantOf (f_guestAt b g).1) == 4))).1 (f_addrCell (f_address (f_guestAt b g).1)) (f_guestAt b g).1.acc), b.guests, b.outs, b.pend⟩ : TBare) (⟨q123, pb.guests, pb.outs⟩ : PBare) (S.rd (show GT.rd KK _ _ (⟨(f_withCell b.mem (f_walkInner (f_guestAt b g).1.live (f_addrPage (f_address (f_guestAt b g).1)) (f_needOf ((f_wantOf (f_guestAt b g).1) == 4))).1 (f_addrCell (f_address (f_guestAt b g).1)) (f_guestAt b g).1.acc), b.guests, b.outs, b.pend⟩ : TBare) (⟨q123, pb.guests, pb.outs⟩ : PBare) from ⟨o125.rn, (RBare.guests (p := pb) (d := b) (S.arg hb)), (RBare.outs (p := pb) (d := b) (S.arg hb)), (RBare.pend (d := b) (S.arg hb))⟩)) g (f_moved (f_guestAt b g).1) q128 (S.rd o130.rn)) fun ac w N q134 F135 S up o136 d137 => ?_)
  refine WD.next S up (by kernel_rfl) ?_
  replace o5 := o5.up up
  clear up d137
  refine S.sl 5 [] [] 4 [(1, GT.cells (f_withGuest (⟨(f_withCell b.mem (f_walkInner (f_guestAt b g).1.live (f_addrPage (f_address (f_guestAt b g).1)) (f_needOf ((f_wantOf (f_guestAt b g).1) == 4))).1 (f_addrCell (f_address (f_guestAt b g).1)) (f_guestAt b g).1.acc), b.guests, b.outs, b.pend⟩ : TBare) g (f_moved (f_guestAt b g).1)) q134)] .nil fun ac w β S => ?_
  refine S.sl 6 [] [(5, .v (B true))] 4 [] .nil fun ac w β S => ?_
  refine WD.done (by kernel_rfl) ?_ _
  refine S.ex fun S => ?_
  refine S.gr 2 .nil [GT.val (f_withGuest (⟨(f_withCell b.mem (f_walkInner (f_guestAt b g).1.live (f_addrPage (f_address (f_guestAt b g).1)) (f_needOf ((f_wantOf (f_guestAt b g).1) == 4))).1 (f_addrCell (f_address (f_guestAt b g).1)) (f_guestAt b g).1.acc), b.guests, b.outs, b.pend⟩ : TBare) g (f_moved (f_guestAt b g).1)) q134, B true] fun ac w β S => ?_
  exact ret2_of (p' := ()) S (show (f_bareStep b g).1 = (f_withGuest (⟨(f_withCell b.mem (f_walkInner (f_guestAt b g).1.live (f_addrPage (f_address (f_guestAt b g).1)) (f_needOf ((f_wantOf (f_guestAt b g).1) == 4))).1 (f_addrCell (f_address (f_guestAt b g).1)) (f_guestAt b g).1.acc), b.guests, b.outs, b.pend⟩ : TBare) g (f_moved (f_guestAt b g).1)) from k0_impl_BareStep) (show (f_bareStep b g).2 = true from k1_impl_BareStep) rfl rfl o136 trivial
 refine S.gd 7 .nil ((f_wantOf (f_guestAt b g).1) == 6) (fun ac w β h141 g142 S => ?_) (fun ac w β h141 g142 S => ?_)
 ·refine S.go 2 .nil fun ac w β S => ?_
  refine drw ?_
  refine S.draw0 (f := 10) 8 (by kernel_rfl) (by kernel_rfl) fun w S => ?_
  refine S.hq 0 [0] [] [(113, .v (GT.val b pb))] .nil fun ac S => ?_
  refine S.hq 1 [1] [] [(114, .v (I g))] .nil fun ac S => ?_
  refine S.hq 2 [2] [] [(115, .v (GT.val (f_guestAt b g).1 q1))] .nil fun ac S => ?_
  refine S.hq 3 [3] [] [(116, .p 3 1)] .nil fun ac S => ?_
  refine S.hq 4 [4] [] [(117, .v (I (f_insAt (f_guestAt b g).1.prog (f_guestAt b g).1.pc).x))] .nil fun ac S => ?_
  refine S.sq 5 [] [(118, .v (GT.val (f_callExit (f_insAt (f_guestAt b g).1.prog (f_guestAt b g).1.pc).x) ()))] 4 [] (.cons (Q_call fun w hw => c_impl_CallExit w (f_insAt (f_guestAt b g).1.prog (f_guestAt b g).1.pc).x (RIns.x (d := (f_insAt (f_guestAt b g).1.prog (f_guestAt b g).1.pc)) (insAt_r (RGuest.prog (d := (f_guestAt b g).1) o5.rn) (f_guestAt b g).1.pc))) .nil) fun ac w β S => ?_
  refine WD.one (i := 6) (by kernel_rfl) ?_
  refine id (S.k1 119 (c_impl_Stopped w (f_guestAt b g).1 q1 (S.rd o5.rn) (f_callExit (f_insAt (f_guestAt b g).1.prog (f_guestAt b g).1.pc).x) (callExit_r (RIns.x (d := (f_insAt (f_guestAt b g).1.prog (f_guestAt b g).1.pc)) (insAt_r (RGuest.prog (d := (f_guestAt b g).1) o5.rn) (f_guestAt b g).1.pc)))) fun ac w N q143 F144 S up o145 d146 => ?_)
  refine WD.next S up (by kernel_rfl) ?_
  replace o5 := o5.up up
  clear up d146
  refine WD.one (i := 7) (by kernel_rfl) ?_
  refine id (S.k1 120 (c_impl_WithGuest w b pb (S.rd (S.arg hb)) g ({ (f_guestAt b g).1 with exit := (f_callExit (f_insAt (f_guestAt b g).1.prog (f_guestAt b g).1.pc).x) } : TGuest) q143 (S.rd o145.rn)) fun ac w N q148 F149 S up o150 d151 => ?_)
  refine WD.next S up (by kernel_rfl) ?_
  replace o5 := o5.up up
  clear up d151
  refine S.sl 8 [] [] 4 [(1, GT.cells (f_withGuest b g ({ (f_guestAt b g).1 with exit := (f_callExit (f_insAt (f_guestAt b g).1.prog (f_guestAt b g).1.pc).x) } : TGuest)) q148)] .nil fun ac w β S => ?_
  refine S.sl 9 [] [(5, .v (B true))] 4 [] .nil fun ac w β S => ?_
  refine WD.done (by kernel_rfl) ?_ _
  refine S.ex fun S => ?_
  refine S.gr 2 .nil [GT.val (f_withGuest b g ({ (f_guestAt b g).1 with exit := (f_callExit (f_insAt (f_guestAt b g).1.prog (f_guestAt b g).1.pc).x) } : TGuest)) q148, B true] fun ac w β S => ?_
  exact ret2_of (p' := ()) S (show (f_bareStep b g).1 = (f_withGuest b g ({ (f_guestAt b g).1 with exit := (f_callExit (f_insAt (f_guestAt b g).1.prog (f_guestAt b g).1.pc).x) } : TGuest)) from k0_impl_BareStep) (show (f_bareStep b g).2 = true from k1_impl_BareStep) rfl rfl o150 trivial
 refine S.gb 9 (.cons (Q_call fun w hw => c_impl_trapOf w (f_wantOf (f_guestAt b g).1)) (.cons (Q_call fun w hw => c_impl_HasTrap w (f_guestAt b g).1.ctl.traps (f_trapOf (f_wantOf (f_guestAt b g).1))) .nil)) (f_hasTrap (f_guestAt b g).1.ctl.traps (f_trapOf (f_wantOf (f_guestAt b g).1))) (fun ac w β h154 S => ?_) (fun ac w β h154 S => ?_)
 ·refine S.go 2 .nil fun ac w β S => ?_
  refine drw ?_
  refine S.draw0 (f := 8) 6 (by kernel_rfl) (by kernel_rfl) fun w S => ?_
  refine S.hq 0 [0] [] [(128, .v (GT.val b pb))] .nil fun ac S => ?_
  refine S.hq 1 [1] [] [(129, .v (I g))] .nil fun ac S => ?_
  refine S.hq 2 [2] [] [(130, .v (GT.val (f_guestAt b g).1 q1))] .nil fun ac S => ?_
  refine S.hq 3 [3] [] [(131, .v (I (f_wantOf (f_guestAt b g).1)))] .nil fun ac S => ?_
  refine WD.one (i := 4) (by kernel_rfl) ?_
  refine id (S.k1 132 (c_impl_trapped w (f_guestAt b g).1 q1 (S.rd o5.rn) (f_wantOf (f_guestAt b g).1)) fun ac w N q155 F156 S up o157 d158 => ?_)
  refine WD.next S up (by kernel_rfl) ?_
  replace o5 := o5.up up
  clear up d158
  refine WD.one (i := 5) (by kernel_rfl) ?_
  refine id (S.k1 133 (c_impl_WithGuest w b pb (S.rd (S.arg hb)) g (f_trapped (f_guestAt b g).1 (f_wantOf (f_guestAt b g).1)) q155 (S.rd o157.rn)) fun ac w N q160 F161 S up o162 d163 => ?_)
  refine WD.next S up (by kernel_rfl) ?_
  replace o5 := o5.up up
  clear up d163
  refine S.sl 6 [] [] 4 [(1, GT.cells (f_withGuest b g (f_trapped (f_guestAt b g).1 (f_wantOf (f_guestAt b g).1))) q160)] .nil fun ac w β S => ?_
  refine S.sl 7 [] [(5, .v (B true))] 4 [] .nil fun ac w β S => ?_
  refine WD.done (by kernel_rfl) ?_ _
  refine S.ex fun S => ?_
  refine S.gr 2 .nil [GT.val (f_withGuest b g (f_trapped (f_guestAt b g).1 (f_wantOf (f_guestAt b g).1))) q160, B true] fun ac w β S => ?_
  exact ret2_of (p' := ()) S (show (f_bareStep b g).1 = (f_withGuest b g (f_trapped (f_guestAt b g).1 (f_wantOf (f_guestAt b g).1))) from k0_impl_BareStep) (show (f_bareStep b g).2 = true from k1_impl_BareStep) rfl rfl o162 trivial
 refine S.gd 8 .nil ((f_wantOf (f_guestAt b g).1) == 5) (fun ac w β h166 g167 S => ?_) (fun ac w β h166 g167 S => ?_)
 ·refine S.go 2 .nil fun ac w β S => ?_
  refine drw ?_
  refine S.draw0 (f := 10) 8 (by kernel_rfl) (by kernel_rfl) fun w S => ?_
  refine S.hq 0 [0] [] [(137, .v (GT.val b pb))] .nil fun ac S => ?_
  refine S.hq 1 [1] [] [(138, .p 3 1)] .nil fun ac S => ?_
  refine S.hq 2 [2] [] [(139, .v (I (f_insAt (f_guestAt b g).1.prog (f_guestAt b g).1.pc).x))] .nil fun ac S => ?_
  refine S.hq 4 [4] [] [(141, .v (I g))] .nil fun ac S => ?_
  refine S.hq 5 [5] [] [(142, .v (GT.val (f_guestAt b g).1 q1))] .nil fun ac S => ?_
  refine WD.one (i := 3) (by kernel_rfl) ?_
  refine id (S.k1 140 (c_impl_PutOut w b pb (S.rd (S.arg hb)) (f_insAt (f_guestAt b g).1.prog (f_guestAt b g).1.pc).x (RIns.x (d := (f_insAt (f_guestAt b g).1.prog (f_guestAt b g).1.pc)) (insAt_r (RGuest.prog (d := (f_guestAt b g).1) o5.rn) (f_guestAt b g).1.pc))) fun ac w N q168 F169 S up o170 d171 => ?_)
  refine WD.next S up (by kernel_rfl) ?_
  replace o5 := o5.up up
  clear up d171
  refine WD.one (i := 6) (by kernel_rfl) ?_
  refine id (S.k1 143 (c_impl_Moved w (f_guestAt b g).1 q1 (S.rd o5.rn)) fun ac w N q173 F174 S up o175 d176 => ?_)
  refine WD.next S up (by kernel_rfl) ?_
  replace o5 := o5.up up
  replace o170 := o170.up up
  clear up d176
  refine WD.one (i := 7) (by kernel_rfl) ?_
  refine id (S.k1 144 (c_impl_WithGuest w (f_putOut b (f_insAt (f_guestAt b g).1.prog (f_guestAt b g).1.pc).x) q168 (S.rd o170.rn) g (f_moved (f_guestAt b g).1) q173 (S.rd o175.rn)) fun ac w N q179 F180 S up o181 d182 => ?_)
  refine WD.next S up (by kernel_rfl) ?_
  replace o5 := o5.up up
  clear up d182
  refine S.sl 8 [] [] 4 [(1, GT.cells (f_withGuest (f_putOut b (f_insAt (f_guestAt b g).1.prog (f_guestAt b g).1.pc).x) g (f_moved (f_guestAt b g).1)) q179)] .nil fun ac w β S => ?_
  refine S.sl 9 [] [(5, .v (B true))] 4 [] .nil fun ac w β S => ?_
  refine WD.done (by kernel_rfl) ?_ _
  refine S.ex fun S => ?_
  refine S.gr 2 .nil [GT.val (f_withGuest (f_putOut b (f_insAt (f_guestAt b g).1.prog (f_guestAt b g).1.pc).x) g (f_moved (f_guestAt b g).1)) q179, B true] fun ac w β S => ?_
  exact ret2_of (p' := ()) S (show (f_bareStep b g).1 = (f_withGuest (f_putOut b (f_insAt (f_guestAt b g).1.prog (f_guestAt b g).1.pc).x) g (f_moved (f_guestAt b g).1)) from k0_impl_BareStep) (show (f_bareStep b g).2 = true from k1_impl_BareStep) rfl rfl o181 trivial
 refine S.go 5 .nil fun ac w β S => ?_
 refine drw ?_
 refine S.draw0 (f := 7) 5 (by kernel_rfl) (by kernel_rfl) fun w S => ?_
 refine S.hq 0 [0] [] [(145, .v (GT.val b pb))] .nil fun ac S => ?_
 refine S.hq 1 [1] [] [(146, .v (I g))] .nil fun ac S => ?_
 refine S.hq 2 [2] [] [(147, .v (GT.val (f_guestAt b g).1 q1))] .nil fun ac S => ?_
 refine WD.one (i := 3) (by kernel_rfl) ?_
 refine id (S.k1 148 (c_impl_Held w (f_guestAt b g).1 q1 (S.rd o5.rn)) fun ac w N q186 F187 S up o188 d189 => ?_)
 refine WD.next S up (by kernel_rfl) ?_
 clear up d189
 refine WD.one (i := 4) (by kernel_rfl) ?_
 refine id (S.k1 149 (c_impl_WithGuest w b pb (S.rd (S.arg hb)) g (f_held (f_guestAt b g).1) q186 (S.rd o188.rn)) fun ac w N q191 F192 S up o193 d194 => ?_)
 refine WD.next S up (by kernel_rfl) ?_
 clear up d194
 refine S.sl 5 [] [] 4 [(1, GT.cells (f_withGuest b g (f_held (f_guestAt b g).1)) q191)] .nil fun ac w β S => ?_
 refine S.sl 6 [] [(5, .v (B true))] 4 [] .nil fun ac w β S => ?_
 refine WD.done (by kernel_rfl) ?_ _
 refine S.ex fun S => ?_
 refine S.gr 2 .nil [GT.val (f_withGuest b g (f_held (f_guestAt b g).1)) q191, B true] fun ac w β S => ?_
 exact ret2_of (p' := ()) S (show (f_bareStep b g).1 = (f_withGuest b g (f_held (f_guestAt b g).1)) from k0_impl_BareStep) (show (f_bareStep b g).2 = true from k1_impl_BareStep) rfl rfl o193 trivial

theorem k0_impl_WithSlot {p : Prop} (h : p := by clear S; (first | (unfold f_withSlot; rw [if_pos (by omega)]; done) | (unfold f_withSlot; rw [if_pos (by omega)]; first | rfl | (simp; done)) | (unfold f_withSlot; rw [if_neg (by omega)]; done) | (unfold f_withSlot; rw [if_neg (by omega)]; first | rfl | (simp; done)))) : p := h
theorem c_impl_WithSlot (w0 : World) (tb : List TSlot) (ptb : LP TSlot) (htb : RD w0 tb ptb) (page : Int) (s : TSlot) (hs : RSlot s) : Calls Tryz.prog 154 [slv tb.length ptb.1, I page, GT.val s ()].toArray w0 (Ret1 NoB w0 (f_withSlot tb page s : List TSlot)) := by
 refine Calls.run NoB Tryz.func154 ?_
 intro ac β S
 have hletb : tb.length ≤ 4194304 := LRd.le htb
 refine S.go 9 .nil fun ac w β S => S.K1 (r := tb) (d := 9) (c_impl_copyTable w tb ptb (S.rd (S.arg htb))) fun ac w N q1 F2 S up o3 d4 => ?_
 clear up d4
 refine S.gb 12 (.cons (Q_call fun w hw => c_impl_has w page (tb.length : Int) (by omega)) .nil) (f_within page 0 ((tb.length : Int) - 1)) (fun ac w β h5 S => ?_) (fun ac w β h5 S => ?_)
 ·have g6 := within_t h5
  have e7 : RSlot (el tb page.toNat) := (LRd.el o3.rn page.toNat (by omega))
  refine S.go 6 (.cons (qt o3.rn page Tryz.underlying77) .nil) fun ac w β S => S.SF (α := TSlot) o3 (t := 55) (k := page.toNat) (j := 0) (off := q1.1.off + page.toNat * 2) (v := GT.val s ()) (y := s) (q := ()) (fun _ _ _ => ⟨NoB, hs, fun _ h => False.elim h⟩) fun w N F9 q10 S up o8 d11 s12 n13 => ?_
  clear up d11 o3 n13
  have l14 : (tb.set page.toNat s).length = tb.length := List.length_set
  refine S.gr 9 .nil [slv tb.length q1.1] fun ac w β S => ?_
  exact ret1_of S (show f_withSlot tb page s = (tb.set page.toNat s) from k0_impl_WithSlot) (by rw [show tb.length = (tb.set page.toNat s).length from (by rw [List.length_set])]; rfl) o8
 have g15 := within_f h5
 refine S.gr 10 .nil [slv tb.length q1.1] fun ac w β S => ?_
 exact ret1_of S (show f_withSlot tb page s = tb from k0_impl_WithSlot) rfl o3

theorem c_impl_BareSet_1 (w0 : World) (x : TGuest) (px : PGuest) (F : Bl) (hx : GT.own KK F w0 x px) (hF : ∀ b, F b → b < w0.heap.size) (page : Int) (qpage : LP Int) (hpage : RD w0 [page] qpage) (s : TSlot) (qs : LP TSlot) (hs : RD w0 [s] qs) : Calls Tryz.prog 153 [GT.val x px, pt qpage.1.b (qpage.1.off + 0 * 1), pt qs.1.b (qs.1.off + 0 * 2)].toArray w0 (RetT NoB F w0 (({ x with written := f_withSlot x.written page s } : TGuest) : TGuest)) := by
 refine Calls.run NoB Tryz.func153 ?_
 intro ac β S
 have ox : Ow w0 F w0 (Lt w0.heap.size) F x px := ⟨hx, hF, fun b hb => .inr hb⟩
 have i4 : In64 x.acc := RGuest.acc (d := x) ox.rn
 have i5 : In64 x.pc := RGuest.pc (d := x) ox.rn
 have i12 : RCtl x.ctl := RGuest.ctl (d := x) ox.rn
 have i13 : In64 x.pend := RGuest.pend (d := x) ox.rn
 have i14 : RExit x.exit := RGuest.exit (d := x) ox.rn
 obtain ⟨F1, F6, F9, F15, o2, o7, o10, o16, _, _, _, _, _, d19, d20, _, _, d23⟩ := sp_Guest ox
 refine S.go 12 (.cons (Q_el1 (S.arg hpage) (t := 3) (k := 0) (Nat.succ_pos 0) rfl (by kernel_rfl)) (.cons (Q_el (S.arg hs) (t := 55) (k := 0) (Nat.succ_pos 0) rfl (by kernel_rfl) (by kernel_rfl)) .nil)) fun ac w β S => S.K1 (r := f_withSlot x.written page s) (d := 9) (c_impl_WithSlot w x.written px.written (S.rd o7.rn) page s (show RSlot s from LRd.el (S.arg hs) 0 (Nat.succ_pos 0))) fun ac w N q24 F25 S up o26 d27 => ?_
 replace o26 := o26.wk (M' := F)
 have d28 := Disj.w d27 o2.sub
 have d30 := Disj.w d27 o10.sub
 have d31 := Disj.w d27 o16.sub
 replace o2 := o2.up up
 replace o10 := o10.up up
 replace o16 := o16.up up
 clear up d27
 refine S.gr 11 .nil [GT.val (⟨x.prog, x.acc, x.pc, (f_withSlot x.written page s), x.live, x.ctl, x.pend, x.exit, x.halted, x.seen⟩ : TGuest) (⟨px.prog, q24, px.live, px.seen⟩ : PGuest)] fun ac w β S => ?_
 have o32 := ow_Guest (x := (⟨x.prog, x.acc, x.pc, (f_withSlot x.written page s), x.live, x.ctl, x.pend, x.exit, x.halted, x.seen⟩ : TGuest)) (p := (⟨px.prog, q24, px.live, px.seen⟩ : PGuest)) o2 o26 o10 o16 d28 d19 d20 (Disj.symm d30) (Disj.symm d31) d23 i4 i5 i12 i13 i14
 exact retT_of S (show ({ x with written := f_withSlot x.written page s } : TGuest) = (⟨x.prog, x.acc, x.pc, (f_withSlot x.written page s), x.live, x.ctl, x.pend, x.exit, x.halted, x.seen⟩ : TGuest) by clear S; rfl) rfl o32

theorem c_impl_BareFlush_1 (w0 : World) (x : TGuest) (px : PGuest) (F : Bl) (hx : GT.own KK F w0 x px) (hF : ∀ b, F b → b < w0.heap.size) (page : Int) (qpage : LP Int) (hpage : RD w0 [page] qpage) : Calls Tryz.prog 155 [GT.val x px, pt qpage.1.b (qpage.1.off + 0 * 1)].toArray w0 (RetT NoB F w0 (({ x with live := f_withSlot x.live page (f_slotAt x.written page) } : TGuest) : TGuest)) := by
 refine Calls.run NoB Tryz.func155 ?_
 intro ac β S
 have ox : Ow w0 F w0 (Lt w0.heap.size) F x px := ⟨hx, hF, fun b hb => .inr hb⟩
 have i4 : In64 x.acc := RGuest.acc (d := x) ox.rn
 have i5 : In64 x.pc := RGuest.pc (d := x) ox.rn
 have i12 : RCtl x.ctl := RGuest.ctl (d := x) ox.rn
 have i13 : In64 x.pend := RGuest.pend (d := x) ox.rn
 have i14 : RExit x.exit := RGuest.exit (d := x) ox.rn
 obtain ⟨F1, F6, F9, F15, o2, o7, o10, o16, _, _, _, _, d18, _, d20, _, d22, _⟩ := sp_Guest ox
 refine S.go 7 .nil fun ac w β S => ?_
 refine drw ?_
 refine S.draw0 (f := 10) 9 (by kernel_rfl) (by kernel_rfl) fun w S => ?_
 refine S.hq 0 [0] [] [(4, .p 0 4)] .nil fun ac S => ?_
 refine S.hq 1 [1] [] [(5, .v (slv x.live.length px.live.1))] .nil fun ac S => ?_
 refine S.hq 2 [2] [] [(6, .v (I page))] (.cons (Q_el1 (S.arg hpage) (t := 3) (k := 0) (Nat.succ_pos 0) rfl (by kernel_rfl)) .nil) fun ac S => ?_
 refine S.hq 3 [3] [] [(7, .p 0 3)] .nil fun ac S => ?_
 refine S.hq 4 [4] [] [(8, .v (slv x.written.length px.written.1))] .nil fun ac S => ?_
 refine S.hq 5 [5] [] [(9, .v (I page))] (.cons (Q_el1 (S.arg hpage) (t := 3) (k := 0) (Nat.succ_pos 0) rfl (by kernel_rfl)) .nil) fun ac S => ?_
 refine S.sq 6 [] [(10, .v (GT.val (f_slotAt x.written page) ()))] 2 [] (.cons (Q_call fun w hw => c_impl_SlotAt w x.written px.written (rd_of o7.rn hw) page) .nil) fun ac w β S => ?_
 refine WD.one (i := 7) (by kernel_rfl) ?_
 refine id (S.k1 11 (c_impl_WithSlot w x.live px.live (S.rd o10.rn) page (f_slotAt x.written page) (slotAt_r o7.rn page)) fun ac w N q24 F25 S up o26 d27 => ?_)
 refine WD.next S up (by kernel_rfl) ?_
 replace o26 := o26.wk (M' := F)
 have d28 := Disj.w d27 o2.sub
 have d29 := Disj.w d27 o7.sub
 have d31 := Disj.w d27 o16.sub
 replace o2 := o2.up up
 replace o7 := o7.up up
 replace o16 := o16.up up
 clear up d27
 refine S.hq 8 [8] [] [(12, .p 0 4)] .nil fun ac S => ?_
 refine S.sl 9 [] [] 2 [(0, [slv x.prog.length px.prog.1, I x.acc, I x.pc, slv x.written.length px.written.1, slv (f_withSlot x.live page (f_slotAt x.written page)).length q24.1, I x.ctl.traps, I x.ctl.post, B x.ctl.opn, I x.pend, I x.exit.kind, I x.exit.page, B x.exit.wr, I x.exit.n, B x.halted, slv x.seen.length px.seen.1])] .nil fun ac w β S => ?_
 refine WD.done (by kernel_rfl) ?_ _
 refine S.ex fun S => ?_
 refine S.gr 8 .nil [GT.val (⟨x.prog, x.acc, x.pc, x.written, (f_withSlot x.live page (f_slotAt x.written page)), x.ctl, x.pend, x.exit, x.halted, x.seen⟩ : TGuest) (⟨px.prog, px.written, q24, px.seen⟩ : PGuest)] fun ac w β S => ?_
 have o32 := ow_Guest (x := (⟨x.prog, x.acc, x.pc, x.written, (f_withSlot x.live page (f_slotAt x.written page)), x.ctl, x.pend, x.exit, x.halted, x.seen⟩ : TGuest)) (p := (⟨px.prog, px.written, q24, px.seen⟩ : PGuest)) o2 o7 o26 o16 d18 d28 d20 d29 d22 (Disj.symm d31) i4 i5 i12 i13 i14
 exact retT_of S (show ({ x with live := f_withSlot x.live page (f_slotAt x.written page) } : TGuest) = (⟨x.prog, x.acc, x.pc, x.written, (f_withSlot x.live page (f_slotAt x.written page)), x.ctl, x.pend, x.exit, x.halted, x.seen⟩ : TGuest) by clear S; rfl) rfl o32

theorem k0_impl_BareAnswer_1 {p : Prop} (h : p := by clear S; (unfold f_answer; first | (rw [if_pos (by assumption)]; done) | (rw [if_neg (by assumption)]; done))) : p := h
theorem c_impl_BareAnswer_1 (w0 : World) (x : TGuest) (px : PGuest) (F : Bl) (hx : GT.own KK F w0 x px) (hF : ∀ b, F b → b < w0.heap.size) (kind : Int) (qkind : LP Int) (hkind : RD w0 [kind] qkind) (v : Int) (qv : LP Int) (hv : RD w0 [v] qv) : Calls Tryz.prog 158 [GT.val x px, pt qkind.1.b (qkind.1.off + 0 * 1), pt qv.1.b (qv.1.off + 0 * 1)].toArray w0 (RetT NoB F w0 ((f_answer kind v x) : TGuest)) := by
 refine Calls.run NoB Tryz.func158 ?_
 intro ac β S
 have ox : Ow w0 F w0 (Lt w0.heap.size) F x px := ⟨hx, hF, fun b hb => .inr hb⟩
 refine S.gd 13 (.cons (Q_el1 (S.arg hkind) (t := 3) (k := 0) (Nat.succ_pos 0) rfl (by kernel_rfl)) .nil) (kind == 2) (fun ac w β h1 g2 S => ?_) (fun ac w β h1 g2 S => ?_)
 ·refine S.go 11 (.cons (Q_el1 (S.arg hv) (t := 3) (k := 0) (Nat.succ_pos 0) rfl (by kernel_rfl)) (.cons (Q_sem (s := Instr.build 79 [].toArray) (v := .agg [I 0, I 0, B false, I 0].toArray) (fun w => by kernel_rfl)) .nil)) fun ac w β S => S.K1 (r := ({ (⟨x.prog, v, x.pc, x.written, x.live, x.ctl, x.pend, x.exit, x.halted, x.seen⟩ : TGuest) with exit := (⟨0, 0, false, 0⟩ : TExit) } : TGuest)) (d := 11) (c_impl_Stopped w (⟨x.prog, v, x.pc, x.written, x.live, x.ctl, x.pend, x.exit, x.halted, x.seen⟩ : TGuest) (⟨px.prog, px.written, px.live, px.seen⟩ : PGuest) (S.rd (show GT.rd KK _ _ (⟨x.prog, v, x.pc, x.written, x.live, x.ctl, x.pend, x.exit, x.halted, x.seen⟩ : TGuest) (⟨px.prog, px.written, px.live, px.seen⟩ : PGuest) from ⟨(RGuest.prog (p := px) (d := x) ox.rn), (show In64 v from LRd.el (S.arg hv) 0 (Nat.succ_pos 0)), (RGuest.pc (d := x) ox.rn), (RGuest.written (p := px) (d := x) ox.rn), (RGuest.live (p := px) (d := x) ox.rn), (RGuest.ctl (d := x) ox.rn), (RGuest.pend (d := x) ox.rn), (RGuest.exit (d := x) ox.rn), (RGuest.seen (p := px) (d := x) ox.rn)⟩)) (⟨0, 0, false, 0⟩ : TExit) (show RExit (⟨0, 0, false, 0⟩ : TExit) from ⟨(show In64 0 from ⟨by decide, by decide⟩), (show In64 0 from ⟨by decide, by decide⟩), (show In64 0 from ⟨by decide, by decide⟩)⟩)) fun ac w N q3 F4 S up o5 d6 => ?_
  replace o5 := o5.wk (M' := F)
  replace ox := ox.up up
  clear up d6
  refine S.K1 (r := f_moved ({ (⟨x.prog, v, x.pc, x.written, x.live, x.ctl, x.pend, x.exit, x.halted, x.seen⟩ : TGuest) with exit := (⟨0, 0, false, 0⟩ : TExit) } : TGuest)) (d := 12) (c_impl_Moved w ({ (⟨x.prog, v, x.pc, x.written, x.live, x.ctl, x.pend, x.exit, x.halted, x.seen⟩ : TGuest) with exit := (⟨0, 0, false, 0⟩ : TExit) } : TGuest) q3 (S.rd o5.rn)) fun ac w N q8 F9 S up o10 d11 => ?_
  replace o10 := o10.wk (M' := F)
  replace ox := ox.up up
  clear up d11
  refine S.gr 4 .nil [GT.val (f_moved ({ (⟨x.prog, v, x.pc, x.written, x.live, x.ctl, x.pend, x.exit, x.halted, x.seen⟩ : TGuest) with exit := (⟨0, 0, false, 0⟩ : TExit) } : TGuest)) q8] fun ac w β S => ?_
  exact retT_of S (show (f_answer kind v x) = (f_moved ({ (⟨x.prog, v, x.pc, x.written, x.live, x.ctl, x.pend, x.exit, x.halted, x.seen⟩ : TGuest) with exit := (⟨0, 0, false, 0⟩ : TExit) } : TGuest)) from k0_impl_BareAnswer_1) rfl o10
 refine S.go 7 (.cons (Q_sem (s := Instr.build 79 [].toArray) (v := .agg [I 0, I 0, B false, I 0].toArray) (fun w => by kernel_rfl)) .nil) fun ac w β S => S.K1 (r := ({ x with exit := (⟨0, 0, false, 0⟩ : TExit) } : TGuest)) (d := 11) (c_impl_Stopped w x px (S.rd ox.rn) (⟨0, 0, false, 0⟩ : TExit) (show RExit (⟨0, 0, false, 0⟩ : TExit) from ⟨(show In64 0 from ⟨by decide, by decide⟩), (show In64 0 from ⟨by decide, by decide⟩), (show In64 0 from ⟨by decide, by decide⟩)⟩)) fun ac w N q14 F15 S up o16 d17 => ?_
 replace o16 := o16.wk (M' := F)
 replace ox := ox.up up
 clear up d17
 refine S.K1 (r := f_moved ({ x with exit := (⟨0, 0, false, 0⟩ : TExit) } : TGuest)) (d := 12) (c_impl_Moved w ({ x with exit := (⟨0, 0, false, 0⟩ : TExit) } : TGuest) q14 (S.rd o16.rn)) fun ac w N q19 F20 S up o21 d22 => ?_
 replace o21 := o21.wk (M' := F)
 replace ox := ox.up up
 clear up d22
 refine S.gr 4 .nil [GT.val (f_moved ({ x with exit := (⟨0, 0, false, 0⟩ : TExit) } : TGuest)) q19] fun ac w β S => ?_
 exact retT_of S (show (f_answer kind v x) = (f_moved ({ x with exit := (⟨0, 0, false, 0⟩ : TExit) } : TGuest)) from k0_impl_BareAnswer_1) rfl o21

theorem k0_impl_BareResume_1 {p : Prop} (h : p := by clear S; (first | (unfold f_resume; rw [if_pos (by assumption)]; done) | (unfold f_resume; rw [if_neg (by assumption)]; done))) : p := h
theorem c_impl_BareResume_1 (w0 : World) (x : TGuest) (px : PGuest) (F : Bl) (hx : GT.own KK F w0 x px) (hF : ∀ b, F b → b < w0.heap.size) (kind : Int) (qkind : LP Int) (hkind : RD w0 [kind] qkind) : Calls Tryz.prog 159 [GT.val x px, pt qkind.1.b (qkind.1.off + 0 * 1)].toArray w0 (RetT NoB F w0 ((f_resume kind x) : TGuest)) := by
 refine Calls.run NoB Tryz.func159 ?_
 intro ac β S
 have ox : Ow w0 F w0 (Lt w0.heap.size) F x px := ⟨hx, hF, fun b hb => .inr hb⟩
 have i4 : In64 x.acc := RGuest.acc (d := x) ox.rn
 have i5 : In64 x.pc := RGuest.pc (d := x) ox.rn
 have i12 : RCtl x.ctl := RGuest.ctl (d := x) ox.rn
 have i13 : In64 x.pend := RGuest.pend (d := x) ox.rn
 obtain ⟨F1, F6, F9, F15, o2, o7, o10, o16, _, _, _, _, d18, d19, d20, d21, d22, d23⟩ := sp_Guest ox
 refine S.gd 20 (.cons (Q_sem (s := Instr.build 79 [].toArray) (v := .agg [I 0, I 0, B false, I 0].toArray) (fun w => by kernel_rfl)) (.cons (Q_el1 (S.arg hkind) (t := 3) (k := 0) (Nat.succ_pos 0) rfl (by kernel_rfl)) .nil)) (kind == 4) (fun ac w β h24 g25 S => ?_) (fun ac w β h24 g25 S => ?_)
 ·refine S.go 4 .nil fun ac w β S => S.K1 (r := f_held (⟨x.prog, x.acc, x.pc, x.written, x.live, x.ctl, x.pend, (⟨0, 0, false, 0⟩ : TExit), x.halted, x.seen⟩ : TGuest)) (d := 9) (c_impl_Held w (⟨x.prog, x.acc, x.pc, x.written, x.live, x.ctl, x.pend, (⟨0, 0, false, 0⟩ : TExit), x.halted, x.seen⟩ : TGuest) (⟨px.prog, px.written, px.live, px.seen⟩ : PGuest) (S.rd (show GT.rd KK _ _ (⟨x.prog, x.acc, x.pc, x.written, x.live, x.ctl, x.pend, (⟨0, 0, false, 0⟩ : TExit), x.halted, x.seen⟩ : TGuest) (⟨px.prog, px.written, px.live, px.seen⟩ : PGuest) from ⟨o2.rn, i4, i5, o7.rn, o10.rn, i12, i13, (show RExit (⟨0, 0, false, 0⟩ : TExit) from ⟨(show In64 0 from ⟨by decide, by decide⟩), (show In64 0 from ⟨by decide, by decide⟩), (show In64 0 from ⟨by decide, by decide⟩)⟩), o16.rn⟩))) fun ac w N q26 F27 S up o28 d29 => ?_
  replace o28 := o28.wk (M' := F)
  replace o2 := o2.up up
  replace o7 := o7.up up
  replace o10 := o10.up up
  replace o16 := o16.up up
  clear up d29
  have i37 : In64 (f_held (⟨x.prog, x.acc, x.pc, x.written, x.live, x.ctl, x.pend, (⟨0, 0, false, 0⟩ : TExit), x.halted, x.seen⟩ : TGuest)).acc := RGuest.acc (d := (f_held (⟨x.prog, x.acc, x.pc, x.written, x.live, x.ctl, x.pend, (⟨0, 0, false, 0⟩ : TExit), x.halted, x.seen⟩ : TGuest))) o28.rn
  have i38 : In64 (f_held (⟨x.prog, x.acc, x.pc, x.written, x.live, x.ctl, x.pend, (⟨0, 0, false, 0⟩ : TExit), x.halted, x.seen⟩ : TGuest)).pc := RGuest.pc (d := (f_held (⟨x.prog, x.acc, x.pc, x.written, x.live, x.ctl, x.pend, (⟨0, 0, false, 0⟩ : TExit), x.halted, x.seen⟩ : TGuest))) o28.rn
  have i45 : RCtl (f_held (⟨x.prog, x.acc, x.pc, x.written, x.live, x.ctl, x.pend, (⟨0, 0, false, 0⟩ : TExit), x.halted, x.seen⟩ : TGuest)).ctl := RGuest.ctl (d := (f_held (⟨x.prog, x.acc, x.pc, x.written, x.live, x.ctl, x.pend, (⟨0, 0, false, 0⟩ : TExit), x.halted, x.seen⟩ : TGuest))) o28.rn
  have i46 : In64 (f_held (⟨x.prog, x.acc, x.pc, x.written, x.live, x.ctl, x.pend, (⟨0, 0, false, 0⟩ : TExit), x.halted, x.seen⟩ : TGuest)).pend := RGuest.pend (d := (f_held (⟨x.prog, x.acc, x.pc, x.written, x.live, x.ctl, x.pend, (⟨0, 0, false, 0⟩ : TExit), x.halted, x.seen⟩ : TGuest))) o28.rn
  have i47 : RExit (f_held (⟨x.prog, x.acc, x.pc, x.written, x.live, x.ctl, x.pend, (⟨0, 0, false, 0⟩ : TExit), x.halted, x.seen⟩ : TGuest)).exit := RGuest.exit (d := (f_held (⟨x.prog, x.acc, x.pc, x.written, x.live, x.ctl, x.pend, (⟨0, 0, false, 0⟩ : TExit), x.halted, x.seen⟩ : TGuest))) o28.rn
  obtain ⟨F34, F39, F42, F48, o35, o40, o43, o49, _, _, _, _, d51, d52, d53, d54, d55, d56⟩ := sp_Guest o28
  refine S.gr 4 .nil [GT.val (f_held (⟨x.prog, x.acc, x.pc, x.written, x.live, x.ctl, x.pend, (⟨0, 0, false, 0⟩ : TExit), x.halted, x.seen⟩ : TGuest)) q26] fun ac w β S => ?_
  have o57 := ow_Guest (x := (f_held (⟨x.prog, x.acc, x.pc, x.written, x.live, x.ctl, x.pend, (⟨0, 0, false, 0⟩ : TExit), x.halted, x.seen⟩ : TGuest))) (p := q26) o35 o40 o43 o49 d51 d52 d53 d54 d55 d56 i37 i38 i45 i46 i47
  exact retT_of S (show (f_resume kind x) = (f_held (⟨x.prog, x.acc, x.pc, x.written, x.live, x.ctl, x.pend, (⟨0, 0, false, 0⟩ : TExit), x.halted, x.seen⟩ : TGuest)) from k0_impl_BareResume_1) rfl o57
 refine S.gr 10 .nil [GT.val (⟨x.prog, x.acc, x.pc, x.written, x.live, x.ctl, x.pend, (⟨0, 0, false, 0⟩ : TExit), x.halted, x.seen⟩ : TGuest) (⟨px.prog, px.written, px.live, px.seen⟩ : PGuest)] fun ac w β S => ?_
 have o58 := ow_Guest (x := (⟨x.prog, x.acc, x.pc, x.written, x.live, x.ctl, x.pend, (⟨0, 0, false, 0⟩ : TExit), x.halted, x.seen⟩ : TGuest)) (p := (⟨px.prog, px.written, px.live, px.seen⟩ : PGuest)) o2 o7 o10 o16 d18 d19 d20 d21 d22 d23 i4 i5 i12 i13 (show RExit (⟨0, 0, false, 0⟩ : TExit) from ⟨(show In64 0 from ⟨by decide, by decide⟩), (show In64 0 from ⟨by decide, by decide⟩), (show In64 0 from ⟨by decide, by decide⟩)⟩)
 exact retT_of S (show (f_resume kind x) = (⟨x.prog, x.acc, x.pc, x.written, x.live, x.ctl, x.pend, (⟨0, 0, false, 0⟩ : TExit), x.halted, x.seen⟩ : TGuest) from k0_impl_BareResume_1) rfl o58

theorem c_impl_BareInject_1 (w0 : World) (x : TGuest) (px : PGuest) (F : Bl) (hx : GT.own KK F w0 x px) (hF : ∀ b, F b → b < w0.heap.size) (p : Int) (qp : LP Int) (hp : RD w0 [p] qp) : Calls Tryz.prog 161 [GT.val x px, pt qp.1.b (qp.1.off + 0 * 1)].toArray w0 (RetT NoB F w0 (({ x with pend := p } : TGuest) : TGuest)) := by
 refine Calls.run NoB Tryz.func161 ?_
 intro ac β S
 have ox : Ow w0 F w0 (Lt w0.heap.size) F x px := ⟨hx, hF, fun b hb => .inr hb⟩
 have i4 : In64 x.acc := RGuest.acc (d := x) ox.rn
 have i5 : In64 x.pc := RGuest.pc (d := x) ox.rn
 have i12 : RCtl x.ctl := RGuest.ctl (d := x) ox.rn
 have i14 : RExit x.exit := RGuest.exit (d := x) ox.rn
 obtain ⟨F1, F6, F9, F15, o2, o7, o10, o16, _, _, _, _, d18, d19, d20, d21, d22, d23⟩ := sp_Guest ox
 refine S.gr 20 (.cons (Q_el1 (S.arg hp) (t := 3) (k := 0) (Nat.succ_pos 0) rfl (by kernel_rfl)) .nil) [GT.val (⟨x.prog, x.acc, x.pc, x.written, x.live, x.ctl, p, x.exit, x.halted, x.seen⟩ : TGuest) (⟨px.prog, px.written, px.live, px.seen⟩ : PGuest)] fun ac w β S => ?_
 have o24 := ow_Guest (x := (⟨x.prog, x.acc, x.pc, x.written, x.live, x.ctl, p, x.exit, x.halted, x.seen⟩ : TGuest)) (p := (⟨px.prog, px.written, px.live, px.seen⟩ : PGuest)) o2 o7 o10 o16 d18 d19 d20 d21 d22 d23 i4 i5 i12 (show In64 p from LRd.el (S.arg hp) 0 (Nat.succ_pos 0)) i14
 exact retT_of S (show ({ x with pend := p } : TGuest) = (⟨x.prog, x.acc, x.pc, x.written, x.live, x.ctl, p, x.exit, x.halted, x.seen⟩ : TGuest) by clear S; rfl) rfl o24

theorem c_impl_BareCtl_1 (w0 : World) (x : TGuest) (px : PGuest) (F : Bl) (hx : GT.own KK F w0 x px) (hF : ∀ b, F b → b < w0.heap.size) (c : TCtl) (qc : LP TCtl) (hc : RD w0 [c] qc) : Calls Tryz.prog 163 [GT.val x px, pt qc.1.b (qc.1.off + 0 * 3)].toArray w0 (RetT NoB F w0 (({ x with ctl := c } : TGuest) : TGuest)) := by
 refine Calls.run NoB Tryz.func163 ?_
 intro ac β S
 have ox : Ow w0 F w0 (Lt w0.heap.size) F x px := ⟨hx, hF, fun b hb => .inr hb⟩
 have i4 : In64 x.acc := RGuest.acc (d := x) ox.rn
 have i5 : In64 x.pc := RGuest.pc (d := x) ox.rn
 have i13 : In64 x.pend := RGuest.pend (d := x) ox.rn
 have i14 : RExit x.exit := RGuest.exit (d := x) ox.rn
 obtain ⟨F1, F6, F9, F15, o2, o7, o10, o16, _, _, _, _, d18, d19, d20, d21, d22, d23⟩ := sp_Guest ox
 refine S.gr 20 (.cons (Q_el (S.arg hc) (t := 59) (k := 0) (Nat.succ_pos 0) rfl (by kernel_rfl) (by kernel_rfl)) .nil) [GT.val (⟨x.prog, x.acc, x.pc, x.written, x.live, c, x.pend, x.exit, x.halted, x.seen⟩ : TGuest) (⟨px.prog, px.written, px.live, px.seen⟩ : PGuest)] fun ac w β S => ?_
 have o24 := ow_Guest (x := (⟨x.prog, x.acc, x.pc, x.written, x.live, c, x.pend, x.exit, x.halted, x.seen⟩ : TGuest)) (p := (⟨px.prog, px.written, px.live, px.seen⟩ : PGuest)) o2 o7 o10 o16 d18 d19 d20 d21 d22 d23 i4 i5 (show RCtl c from LRd.el (S.arg hc) 0 (Nat.succ_pos 0)) i13 i14
 exact retT_of S (show ({ x with ctl := c } : TGuest) = (⟨x.prog, x.acc, x.pc, x.written, x.live, c, x.pend, x.exit, x.halted, x.seen⟩ : TGuest) by clear S; rfl) rfl o24

theorem k0_impl_changed_impl_BareSet_1 {p : Prop} (h : p := by clear S; (first | (unfold f_changed; rw [if_neg (by rintro ⟨h1, h2, h3⟩; first | omega | simp_all)]; done) | ((have hg := guestAt_t (by assumption)); unfold f_changed f_withGuest; rw [if_pos ⟨by assumption, hg, by first | assumption | rfl⟩, if_pos hg, guestAt_1 hg]; done))) : p := h
theorem k1_impl_changed_impl_BareSet_1 {p : Prop} (h : p := by clear S; (first | (unfold f_changed; rw [if_neg (by rintro ⟨h1, h2, h3⟩; first | omega | simp_all)]; done) | ((have hg := guestAt_t (by assumption)); unfold f_changed; rw [if_pos ⟨by assumption, hg, by first | assumption | rfl⟩]; done))) : p := h
theorem c_impl_changed_impl_BareSet_1 (w0 : World) (b : TBare) (pb : PBare) (hb : RD w0 b pb) (g : Int) (condition : Bool) (page : Int) (qpage : LP Int) (hpage : RD w0 [page] qpage) (s : TSlot) (qs : LP TSlot) (hs : RD w0 [s] qs) : Calls Tryz.prog 151 [GT.val b pb, I g, B condition, .func (.func 153) #[] #[pt qpage.1.b (qpage.1.off + 0 * 1), pt qs.1.b (qs.1.off + 0 * 2)]].toArray w0 (Ret2 NoB w0 ((f_changed b g condition (fun x => ({ x with written := f_withSlot x.written page s } : TGuest))).1 : TBare) ((f_changed b g condition (fun x => ({ x with written := f_withSlot x.written page s } : TGuest))).2 : Bool)) := by
 refine Calls.run NoB Tryz.func151 ?_
 intro ac β S
 have hleb_mem : b.mem.length ≤ 4194304 := LRd.le (RBare.mem (d := b) hb)
 have hleb_guests : b.guests.length ≤ 4194304 := LRd.le (RBare.guests (d := b) hb)
 have hleb_outs : b.outs.length ≤ 4194304 := LRd.le (RBare.outs (d := b) hb)
 refine S.go 11 .nil fun ac w β S => S.K2 (r := (f_guestAt b g).1) (r' := (f_guestAt b g).2) (d := 15) (c_impl_GuestAt w b pb (S.rd (S.arg hb)) g) fun ac w N q1 q2 F3 F4 S up o5 o6 d7 d8 d9 => ?_
 clear up d7
 clear d8
 refine S.gb 15 (.cons (Q_call fun w hw => c_impl_BareOk w b pb (rd_of (S.arg hb) hw)) .nil) (!(f_bareOk b)) (fun ac w β h10 S => ?_) (fun ac w β h10 S => ?_)
 ·have h11 := not_t h10
  refine S.go 13 .nil fun ac w β S => S.K1 (r := b) (d := 30) (c_impl_copyBare w b pb (S.rd (S.arg hb))) fun ac w N q12 F13 S up o14 d15 => ?_
  clear up d15
  refine S.gr 5 .nil [GT.val b q12, B false] fun ac w β S => ?_
  exact ret2_of (p' := ()) S (show (f_changed b g condition (fun x => ({ x with written := f_withSlot x.written page s } : TGuest))).1 = b from k0_impl_changed_impl_BareSet_1) (show (f_changed b g condition (fun x => ({ x with written := f_withSlot x.written page s } : TGuest))).2 = false from k1_impl_changed_impl_BareSet_1) rfl rfl o14 trivial
 have h16 := not_f h10
 have g17 := bareOk_t h16
 refine S.gb 4 .nil (!(f_guestAt b g).2) (fun ac w β h18 S => ?_) (fun ac w β h18 S => ?_)
 ·have h19 := not_t h18
  have g20 := guestAt_f h19
  refine S.go 9 .nil fun ac w β S => S.K1 (r := b) (d := 30) (c_impl_copyBare w b pb (S.rd (S.arg hb))) fun ac w N q21 F22 S up o23 d24 => ?_
  clear up d24
  refine S.gr 5 .nil [GT.val b q21, B false] fun ac w β S => ?_
  exact ret2_of (p' := ()) S (show (f_changed b g condition (fun x => ({ x with written := f_withSlot x.written page s } : TGuest))).1 = b from k0_impl_changed_impl_BareSet_1) (show (f_changed b g condition (fun x => ({ x with written := f_withSlot x.written page s } : TGuest))).2 = false from k1_impl_changed_impl_BareSet_1) rfl rfl o23 trivial
 have h25 := not_f h18
 have g26 := guestAt_t h25
 refine S.gb 5 .nil (!condition) (fun ac w β h27 S => ?_) (fun ac w β h27 S => ?_)
 ·have h28 := not_t h27
  refine S.go 4 .nil fun ac w β S => S.K1 (r := b) (d := 30) (c_impl_copyBare w b pb (S.rd (S.arg hb))) fun ac w N q29 F30 S up o31 d32 => ?_
  clear up d32
  refine S.gr 5 .nil [GT.val b q29, B false] fun ac w β S => ?_
  exact ret2_of (p' := ()) S (show (f_changed b g condition (fun x => ({ x with written := f_withSlot x.written page s } : TGuest))).1 = b from k0_impl_changed_impl_BareSet_1) (show (f_changed b g condition (fun x => ({ x with written := f_withSlot x.written page s } : TGuest))).2 = false from k1_impl_changed_impl_BareSet_1) rfl rfl o31 trivial
 have h33 := not_f h27
 refine S.go 4 .nil fun ac w β S => ?_
 refine drw ?_
 refine S.draw0 (f := 8) 6 (by kernel_rfl) (by kernel_rfl) fun w S => ?_
 refine S.hq 0 [0] [] [(31, .v (GT.val b pb))] .nil fun ac S => ?_
 refine S.hq 1 [1] [] [(32, .v (I g))] .nil fun ac S => ?_
 refine S.hq 2 [2] [] [(33, .v (.func (.func 153) #[] #[pt qpage.1.b (qpage.1.off + 0 * 1), pt qs.1.b (qs.1.off + 0 * 2)]))] .nil fun ac S => ?_
 refine S.hq 3 [3] [] [(34, .v (GT.val (f_guestAt b g).1 q1))] .nil fun ac S => ?_
 refine WD.one (i := 4) (by kernel_rfl) ?_
 refine id (S.callT0 (r := ({ (f_guestAt b g).1 with written := f_withSlot (f_guestAt b g).1.written page s } : TGuest)) (d := 35) o5 (c_impl_BareSet_1 w (f_guestAt b g).1 q1 F3 (S.ownw o5) (fun b hb => (S.sep b (o5.sub b hb)).1) page qpage (S.rd (S.arg hpage)) s qs (S.rd (S.arg hs))) fun ac w N q34 F35 S up o36 d37   => ?_)
 refine WD.next S up (by kernel_rfl) ?_
 clear up d37 o5
 refine WD.one (i := 5) (by kernel_rfl) ?_
 refine id (S.k1 36 (c_impl_WithGuest w b pb (S.rd (S.arg hb)) g ({ (f_guestAt b g).1 with written := f_withSlot (f_guestAt b g).1.written page s } : TGuest) q34 (S.rd o36.rn)) fun ac w N q38 F39 S up o40 d41 => ?_)
 refine WD.next S up (by kernel_rfl) ?_
 clear up d41
 refine S.sl 6 [] [] 3 [(1, GT.cells (f_withGuest b g ({ (f_guestAt b g).1 with written := f_withSlot (f_guestAt b g).1.written page s } : TGuest)) q38)] .nil fun ac w β S => ?_
 refine S.sl 7 [] [(9, .v (B true))] 3 [] .nil fun ac w β S => ?_
 refine WD.done (by kernel_rfl) ?_ _
 refine S.ex fun S => ?_
 refine S.gr 2 .nil [GT.val (f_withGuest b g ({ (f_guestAt b g).1 with written := f_withSlot (f_guestAt b g).1.written page s } : TGuest)) q38, B true] fun ac w β S => ?_
 exact ret2_of (p' := ()) S (show (f_changed b g condition (fun x => ({ x with written := f_withSlot x.written page s } : TGuest))).1 = (f_withGuest b g ({ (f_guestAt b g).1 with written := f_withSlot (f_guestAt b g).1.written page s } : TGuest)) from k0_impl_changed_impl_BareSet_1) (show (f_changed b g condition (fun x => ({ x with written := f_withSlot x.written page s } : TGuest))).2 = true from k1_impl_changed_impl_BareSet_1) rfl rfl o40 trivial

theorem k0_impl_changed_impl_BareFlush_1 {p : Prop} (h : p := by clear S; (first | (unfold f_changed; rw [if_neg (by rintro ⟨h1, h2, h3⟩; first | omega | simp_all)]; done) | ((have hg := guestAt_t (by assumption)); unfold f_changed f_withGuest; rw [if_pos ⟨by assumption, hg, by first | assumption | rfl⟩, if_pos hg, guestAt_1 hg]; done))) : p := h
theorem k1_impl_changed_impl_BareFlush_1 {p : Prop} (h : p := by clear S; (first | (unfold f_changed; rw [if_neg (by rintro ⟨h1, h2, h3⟩; first | omega | simp_all)]; done) | ((have hg := guestAt_t (by assumption)); unfold f_changed; rw [if_pos ⟨by assumption, hg, by first | assumption | rfl⟩]; done))) : p := h
theorem c_impl_changed_impl_BareFlush_1 (w0 : World) (b : TBare) (pb : PBare) (hb : RD w0 b pb) (g : Int) (condition : Bool) (page : Int) (qpage : LP Int) (hpage : RD w0 [page] qpage) : Calls Tryz.prog 151 [GT.val b pb, I g, B condition, .func (.func 155) #[] #[pt qpage.1.b (qpage.1.off + 0 * 1)]].toArray w0 (Ret2 NoB w0 ((f_changed b g condition (fun x => ({ x with live := f_withSlot x.live page (f_slotAt x.written page) } : TGuest))).1 : TBare) ((f_changed b g condition (fun x => ({ x with live := f_withSlot x.live page (f_slotAt x.written page) } : TGuest))).2 : Bool)) := by
 refine Calls.run NoB Tryz.func151 ?_
 intro ac β S
 have hleb_mem : b.mem.length ≤ 4194304 := LRd.le (RBare.mem (d := b) hb)
 have hleb_guests : b.guests.length ≤ 4194304 := LRd.le (RBare.guests (d := b) hb)
 have hleb_outs : b.outs.length ≤ 4194304 := LRd.le (RBare.outs (d := b) hb)
 refine S.go 11 .nil fun ac w β S => S.K2 (r := (f_guestAt b g).1) (r' := (f_guestAt b g).2) (d := 15) (c_impl_GuestAt w b pb (S.rd (S.arg hb)) g) fun ac w N q1 q2 F3 F4 S up o5 o6 d7 d8 d9 => ?_
 clear up d7
 clear d8
 refine S.gb 15 (.cons (Q_call fun w hw => c_impl_BareOk w b pb (rd_of (S.arg hb) hw)) .nil) (!(f_bareOk b)) (fun ac w β h10 S => ?_) (fun ac w β h10 S => ?_)
 ·have h11 := not_t h10
  refine S.go 13 .nil fun ac w β S => S.K1 (r := b) (d := 30) (c_impl_copyBare w b pb (S.rd (S.arg hb))) fun ac w N q12 F13 S up o14 d15 => ?_
  clear up d15
  refine S.gr 5 .nil [GT.val b q12, B false] fun ac w β S => ?_
  exact ret2_of (p' := ()) S (show (f_changed b g condition (fun x => ({ x with live := f_withSlot x.live page (f_slotAt x.written page) } : TGuest))).1 = b from k0_impl_changed_impl_BareFlush_1) (show (f_changed b g condition (fun x => ({ x with live := f_withSlot x.live page (f_slotAt x.written page) } : TGuest))).2 = false from k1_impl_changed_impl_BareFlush_1) rfl rfl o14 trivial
 have h16 := not_f h10
 have g17 := bareOk_t h16
 refine S.gb 4 .nil (!(f_guestAt b g).2) (fun ac w β h18 S => ?_) (fun ac w β h18 S => ?_)
 ·have h19 := not_t h18
  have g20 := guestAt_f h19
  refine S.go 9 .nil fun ac w β S => S.K1 (r := b) (d := 30) (c_impl_copyBare w b pb (S.rd (S.arg hb))) fun ac w N q21 F22 S up o23 d24 => ?_
  clear up d24
  refine S.gr 5 .nil [GT.val b q21, B false] fun ac w β S => ?_
  exact ret2_of (p' := ()) S (show (f_changed b g condition (fun x => ({ x with live := f_withSlot x.live page (f_slotAt x.written page) } : TGuest))).1 = b from k0_impl_changed_impl_BareFlush_1) (show (f_changed b g condition (fun x => ({ x with live := f_withSlot x.live page (f_slotAt x.written page) } : TGuest))).2 = false from k1_impl_changed_impl_BareFlush_1) rfl rfl o23 trivial
 have h25 := not_f h18
 have g26 := guestAt_t h25
 refine S.gb 5 .nil (!condition) (fun ac w β h27 S => ?_) (fun ac w β h27 S => ?_)
 ·have h28 := not_t h27
  refine S.go 4 .nil fun ac w β S => S.K1 (r := b) (d := 30) (c_impl_copyBare w b pb (S.rd (S.arg hb))) fun ac w N q29 F30 S up o31 d32 => ?_
  clear up d32
  refine S.gr 5 .nil [GT.val b q29, B false] fun ac w β S => ?_
  exact ret2_of (p' := ()) S (show (f_changed b g condition (fun x => ({ x with live := f_withSlot x.live page (f_slotAt x.written page) } : TGuest))).1 = b from k0_impl_changed_impl_BareFlush_1) (show (f_changed b g condition (fun x => ({ x with live := f_withSlot x.live page (f_slotAt x.written page) } : TGuest))).2 = false from k1_impl_changed_impl_BareFlush_1) rfl rfl o31 trivial
 have h33 := not_f h27
 refine S.go 4 .nil fun ac w β S => ?_
 refine drw ?_
 refine S.draw0 (f := 8) 6 (by kernel_rfl) (by kernel_rfl) fun w S => ?_
 refine S.hq 0 [0] [] [(31, .v (GT.val b pb))] .nil fun ac S => ?_
 refine S.hq 1 [1] [] [(32, .v (I g))] .nil fun ac S => ?_
 refine S.hq 2 [2] [] [(33, .v (.func (.func 155) #[] #[pt qpage.1.b (qpage.1.off + 0 * 1)]))] .nil fun ac S => ?_
 refine S.hq 3 [3] [] [(34, .v (GT.val (f_guestAt b g).1 q1))] .nil fun ac S => ?_
 refine WD.one (i := 4) (by kernel_rfl) ?_
 refine id (S.callT0 (r := ({ (f_guestAt b g).1 with live := f_withSlot (f_guestAt b g).1.live page (f_slotAt (f_guestAt b g).1.written page) } : TGuest)) (d := 35) o5 (c_impl_BareFlush_1 w (f_guestAt b g).1 q1 F3 (S.ownw o5) (fun b hb => (S.sep b (o5.sub b hb)).1) page qpage (S.rd (S.arg hpage))) fun ac w N q34 F35 S up o36 d37   => ?_)
 refine WD.next S up (by kernel_rfl) ?_
 clear up d37 o5
 refine WD.one (i := 5) (by kernel_rfl) ?_
 refine id (S.k1 36 (c_impl_WithGuest w b pb (S.rd (S.arg hb)) g ({ (f_guestAt b g).1 with live := f_withSlot (f_guestAt b g).1.live page (f_slotAt (f_guestAt b g).1.written page) } : TGuest) q34 (S.rd o36.rn)) fun ac w N q38 F39 S up o40 d41 => ?_)
 refine WD.next S up (by kernel_rfl) ?_
 clear up d41
 refine S.sl 6 [] [] 3 [(1, GT.cells (f_withGuest b g ({ (f_guestAt b g).1 with live := f_withSlot (f_guestAt b g).1.live page (f_slotAt (f_guestAt b g).1.written page) } : TGuest)) q38)] .nil fun ac w β S => ?_
 refine S.sl 7 [] [(9, .v (B true))] 3 [] .nil fun ac w β S => ?_
 refine WD.done (by kernel_rfl) ?_ _
 refine S.ex fun S => ?_
 refine S.gr 2 .nil [GT.val (f_withGuest b g ({ (f_guestAt b g).1 with live := f_withSlot (f_guestAt b g).1.live page (f_slotAt (f_guestAt b g).1.written page) } : TGuest)) q38, B true] fun ac w β S => ?_
 exact ret2_of (p' := ()) S (show (f_changed b g condition (fun x => ({ x with live := f_withSlot x.live page (f_slotAt x.written page) } : TGuest))).1 = (f_withGuest b g ({ (f_guestAt b g).1 with live := f_withSlot (f_guestAt b g).1.live page (f_slotAt (f_guestAt b g).1.written page) } : TGuest)) from k0_impl_changed_impl_BareFlush_1) (show (f_changed b g condition (fun x => ({ x with live := f_withSlot x.live page (f_slotAt x.written page) } : TGuest))).2 = true from k1_impl_changed_impl_BareFlush_1) rfl rfl o40 trivial

theorem k0_impl_changed_impl_BareAnswer_1 {p : Prop} (h : p := by clear S; (first | (unfold f_changed; rw [if_neg (by rintro ⟨h1, h2, h3⟩; first | omega | simp_all)]; done) | ((have hg := guestAt_t (by assumption)); unfold f_changed f_withGuest; rw [if_pos ⟨by assumption, hg, by first | assumption | rfl⟩, if_pos hg, guestAt_1 hg]; done))) : p := h
theorem k1_impl_changed_impl_BareAnswer_1 {p : Prop} (h : p := by clear S; (first | (unfold f_changed; rw [if_neg (by rintro ⟨h1, h2, h3⟩; first | omega | simp_all)]; done) | ((have hg := guestAt_t (by assumption)); unfold f_changed; rw [if_pos ⟨by assumption, hg, by first | assumption | rfl⟩]; done))) : p := h
theorem c_impl_changed_impl_BareAnswer_1 (w0 : World) (b : TBare) (pb : PBare) (hb : RD w0 b pb) (g : Int) (condition : Bool) (kind : Int) (qkind : LP Int) (hkind : RD w0 [kind] qkind) (v : Int) (qv : LP Int) (hv : RD w0 [v] qv) : Calls Tryz.prog 151 [GT.val b pb, I g, B condition, .func (.func 158) #[] #[pt qkind.1.b (qkind.1.off + 0 * 1), pt qv.1.b (qv.1.off + 0 * 1)]].toArray w0 (Ret2 NoB w0 ((f_changed b g condition (fun x => (f_answer kind v x))).1 : TBare) ((f_changed b g condition (fun x => (f_answer kind v x))).2 : Bool)) := by
 refine Calls.run NoB Tryz.func151 ?_
 intro ac β S
 have hleb_mem : b.mem.length ≤ 4194304 := LRd.le (RBare.mem (d := b) hb)
 have hleb_guests : b.guests.length ≤ 4194304 := LRd.le (RBare.guests (d := b) hb)
 have hleb_outs : b.outs.length ≤ 4194304 := LRd.le (RBare.outs (d := b) hb)
 refine S.go 11 .nil fun ac w β S => S.K2 (r := (f_guestAt b g).1) (r' := (f_guestAt b g).2) (d := 15) (c_impl_GuestAt w b pb (S.rd (S.arg hb)) g) fun ac w N q1 q2 F3 F4 S up o5 o6 d7 d8 d9 => ?_
 clear up d7
 clear d8
 refine S.gb 15 (.cons (Q_call fun w hw => c_impl_BareOk w b pb (rd_of (S.arg hb) hw)) .nil) (!(f_bareOk b)) (fun ac w β h10 S => ?_) (fun ac w β h10 S => ?_)
 ·have h11 := not_t h10
  refine S.go 13 .nil fun ac w β S => S.K1 (r := b) (d := 30) (c_impl_copyBare w b pb (S.rd (S.arg hb))) fun ac w N q12 F13 S up o14 d15 => ?_
  clear up d15
  refine S.gr 5 .nil [GT.val b q12, B false] fun ac w β S => ?_
  exact ret2_of (p' := ()) S (show (f_changed b g condition (fun x => (f_answer kind v x))).1 = b from k0_impl_changed_impl_BareAnswer_1) (show (f_changed b g condition (fun x => (f_answer kind v x))).2 = false from k1_impl_changed_impl_BareAnswer_1) rfl rfl o14 trivial
 have h16 := not_f h10
 have g17 := bareOk_t h16
 refine S.gb 4 .nil (!(f_guestAt b g).2) (fun ac w β h18 S => ?_) (fun ac w β h18 S => ?_)
 ·have h19 := not_t h18
  have g20 := guestAt_f h19
  refine S.go 9 .nil fun ac w β S => S.K1 (r := b) (d := 30) (c_impl_copyBare w b pb (S.rd (S.arg hb))) fun ac w N q21 F22 S up o23 d24 => ?_
  clear up d24
  refine S.gr 5 .nil [GT.val b q21, B false] fun ac w β S => ?_
  exact ret2_of (p' := ()) S (show (f_changed b g condition (fun x => (f_answer kind v x))).1 = b from k0_impl_changed_impl_BareAnswer_1) (show (f_changed b g condition (fun x => (f_answer kind v x))).2 = false from k1_impl_changed_impl_BareAnswer_1) rfl rfl o23 trivial
 have h25 := not_f h18
 have g26 := guestAt_t h25
 refine S.gb 5 .nil (!condition) (fun ac w β h27 S => ?_) (fun ac w β h27 S => ?_)
 ·have h28 := not_t h27
  refine S.go 4 .nil fun ac w β S => S.K1 (r := b) (d := 30) (c_impl_copyBare w b pb (S.rd (S.arg hb))) fun ac w N q29 F30 S up o31 d32 => ?_
  clear up d32
  refine S.gr 5 .nil [GT.val b q29, B false] fun ac w β S => ?_
  exact ret2_of (p' := ()) S (show (f_changed b g condition (fun x => (f_answer kind v x))).1 = b from k0_impl_changed_impl_BareAnswer_1) (show (f_changed b g condition (fun x => (f_answer kind v x))).2 = false from k1_impl_changed_impl_BareAnswer_1) rfl rfl o31 trivial
 have h33 := not_f h27
 refine S.go 4 .nil fun ac w β S => ?_
 refine drw ?_
 refine S.draw0 (f := 8) 6 (by kernel_rfl) (by kernel_rfl) fun w S => ?_
 refine S.hq 0 [0] [] [(31, .v (GT.val b pb))] .nil fun ac S => ?_
 refine S.hq 1 [1] [] [(32, .v (I g))] .nil fun ac S => ?_
 refine S.hq 2 [2] [] [(33, .v (.func (.func 158) #[] #[pt qkind.1.b (qkind.1.off + 0 * 1), pt qv.1.b (qv.1.off + 0 * 1)]))] .nil fun ac S => ?_
 refine S.hq 3 [3] [] [(34, .v (GT.val (f_guestAt b g).1 q1))] .nil fun ac S => ?_
 refine WD.one (i := 4) (by kernel_rfl) ?_
 refine id (S.callT0 (r := (f_answer kind v (f_guestAt b g).1)) (d := 35) o5 (c_impl_BareAnswer_1 w (f_guestAt b g).1 q1 F3 (S.ownw o5) (fun b hb => (S.sep b (o5.sub b hb)).1) kind qkind (S.rd (S.arg hkind)) v qv (S.rd (S.arg hv))) fun ac w N q34 F35 S up o36 d37   => ?_)
 refine WD.next S up (by kernel_rfl) ?_
 clear up d37 o5
 refine WD.one (i := 5) (by kernel_rfl) ?_
 refine id (S.k1 36 (c_impl_WithGuest w b pb (S.rd (S.arg hb)) g (f_answer kind v (f_guestAt b g).1) q34 (S.rd o36.rn)) fun ac w N q38 F39 S up o40 d41 => ?_)
 refine WD.next S up (by kernel_rfl) ?_
 clear up d41
 refine S.sl 6 [] [] 3 [(1, GT.cells (f_withGuest b g (f_answer kind v (f_guestAt b g).1)) q38)] .nil fun ac w β S => ?_
 refine S.sl 7 [] [(9, .v (B true))] 3 [] .nil fun ac w β S => ?_
 refine WD.done (by kernel_rfl) ?_ _
 refine S.ex fun S => ?_
 refine S.gr 2 .nil [GT.val (f_withGuest b g (f_answer kind v (f_guestAt b g).1)) q38, B true] fun ac w β S => ?_
 exact ret2_of (p' := ()) S (show (f_changed b g condition (fun x => (f_answer kind v x))).1 = (f_withGuest b g (f_answer kind v (f_guestAt b g).1)) from k0_impl_changed_impl_BareAnswer_1) (show (f_changed b g condition (fun x => (f_answer kind v x))).2 = true from k1_impl_changed_impl_BareAnswer_1) rfl rfl o40 trivial

theorem k0_impl_changed_impl_BareResume_1 {p : Prop} (h : p := by clear S; (first | (unfold f_changed; rw [if_neg (by rintro ⟨h1, h2, h3⟩; first | omega | simp_all)]; done) | ((have hg := guestAt_t (by assumption)); unfold f_changed f_withGuest; rw [if_pos ⟨by assumption, hg, by first | assumption | rfl⟩, if_pos hg, guestAt_1 hg]; done))) : p := h
theorem k1_impl_changed_impl_BareResume_1 {p : Prop} (h : p := by clear S; (first | (unfold f_changed; rw [if_neg (by rintro ⟨h1, h2, h3⟩; first | omega | simp_all)]; done) | ((have hg := guestAt_t (by assumption)); unfold f_changed; rw [if_pos ⟨by assumption, hg, by first | assumption | rfl⟩]; done))) : p := h
theorem c_impl_changed_impl_BareResume_1 (w0 : World) (b : TBare) (pb : PBare) (hb : RD w0 b pb) (g : Int) (condition : Bool) (kind : Int) (qkind : LP Int) (hkind : RD w0 [kind] qkind) : Calls Tryz.prog 151 [GT.val b pb, I g, B condition, .func (.func 159) #[] #[pt qkind.1.b (qkind.1.off + 0 * 1)]].toArray w0 (Ret2 NoB w0 ((f_changed b g condition (fun x => (f_resume kind x))).1 : TBare) ((f_changed b g condition (fun x => (f_resume kind x))).2 : Bool)) := by
 refine Calls.run NoB Tryz.func151 ?_
 intro ac β S
 have hleb_mem : b.mem.length ≤ 4194304 := LRd.le (RBare.mem (d := b) hb)
 have hleb_guests : b.guests.length ≤ 4194304 := LRd.le (RBare.guests (d := b) hb)
 have hleb_outs : b.outs.length ≤ 4194304 := LRd.le (RBare.outs (d := b) hb)
 refine S.go 11 .nil fun ac w β S => S.K2 (r := (f_guestAt b g).1) (r' := (f_guestAt b g).2) (d := 15) (c_impl_GuestAt w b pb (S.rd (S.arg hb)) g) fun ac w N q1 q2 F3 F4 S up o5 o6 d7 d8 d9 => ?_
 clear up d7
 clear d8
 refine S.gb 15 (.cons (Q_call fun w hw => c_impl_BareOk w b pb (rd_of (S.arg hb) hw)) .nil) (!(f_bareOk b)) (fun ac w β h10 S => ?_) (fun ac w β h10 S => ?_)
 ·have h11 := not_t h10
  refine S.go 13 .nil fun ac w β S => S.K1 (r := b) (d := 30) (c_impl_copyBare w b pb (S.rd (S.arg hb))) fun ac w N q12 F13 S up o14 d15 => ?_
  clear up d15
  refine S.gr 5 .nil [GT.val b q12, B false] fun ac w β S => ?_
  exact ret2_of (p' := ()) S (show (f_changed b g condition (fun x => (f_resume kind x))).1 = b from k0_impl_changed_impl_BareResume_1) (show (f_changed b g condition (fun x => (f_resume kind x))).2 = false from k1_impl_changed_impl_BareResume_1) rfl rfl o14 trivial
 have h16 := not_f h10
 have g17 := bareOk_t h16
 refine S.gb 4 .nil (!(f_guestAt b g).2) (fun ac w β h18 S => ?_) (fun ac w β h18 S => ?_)
 ·have h19 := not_t h18
  have g20 := guestAt_f h19
  refine S.go 9 .nil fun ac w β S => S.K1 (r := b) (d := 30) (c_impl_copyBare w b pb (S.rd (S.arg hb))) fun ac w N q21 F22 S up o23 d24 => ?_
  clear up d24
  refine S.gr 5 .nil [GT.val b q21, B false] fun ac w β S => ?_
  exact ret2_of (p' := ()) S (show (f_changed b g condition (fun x => (f_resume kind x))).1 = b from k0_impl_changed_impl_BareResume_1) (show (f_changed b g condition (fun x => (f_resume kind x))).2 = false from k1_impl_changed_impl_BareResume_1) rfl rfl o23 trivial
 have h25 := not_f h18
 have g26 := guestAt_t h25
 refine S.gb 5 .nil (!condition) (fun ac w β h27 S => ?_) (fun ac w β h27 S => ?_)
 ·have h28 := not_t h27
  refine S.go 4 .nil fun ac w β S => S.K1 (r := b) (d := 30) (c_impl_copyBare w b pb (S.rd (S.arg hb))) fun ac w N q29 F30 S up o31 d32 => ?_
  clear up d32
  refine S.gr 5 .nil [GT.val b q29, B false] fun ac w β S => ?_
  exact ret2_of (p' := ()) S (show (f_changed b g condition (fun x => (f_resume kind x))).1 = b from k0_impl_changed_impl_BareResume_1) (show (f_changed b g condition (fun x => (f_resume kind x))).2 = false from k1_impl_changed_impl_BareResume_1) rfl rfl o31 trivial
 have h33 := not_f h27
 refine S.go 4 .nil fun ac w β S => ?_
 refine drw ?_
 refine S.draw0 (f := 8) 6 (by kernel_rfl) (by kernel_rfl) fun w S => ?_
 refine S.hq 0 [0] [] [(31, .v (GT.val b pb))] .nil fun ac S => ?_
 refine S.hq 1 [1] [] [(32, .v (I g))] .nil fun ac S => ?_
 refine S.hq 2 [2] [] [(33, .v (.func (.func 159) #[] #[pt qkind.1.b (qkind.1.off + 0 * 1)]))] .nil fun ac S => ?_
 refine S.hq 3 [3] [] [(34, .v (GT.val (f_guestAt b g).1 q1))] .nil fun ac S => ?_
 refine WD.one (i := 4) (by kernel_rfl) ?_
 refine id (S.callT0 (r := (f_resume kind (f_guestAt b g).1)) (d := 35) o5 (c_impl_BareResume_1 w (f_guestAt b g).1 q1 F3 (S.ownw o5) (fun b hb => (S.sep b (o5.sub b hb)).1) kind qkind (S.rd (S.arg hkind))) fun ac w N q34 F35 S up o36 d37   => ?_)
 refine WD.next S up (by kernel_rfl) ?_
 clear up d37 o5
 refine WD.one (i := 5) (by kernel_rfl) ?_
 refine id (S.k1 36 (c_impl_WithGuest w b pb (S.rd (S.arg hb)) g (f_resume kind (f_guestAt b g).1) q34 (S.rd o36.rn)) fun ac w N q38 F39 S up o40 d41 => ?_)
 refine WD.next S up (by kernel_rfl) ?_
 clear up d41
 refine S.sl 6 [] [] 3 [(1, GT.cells (f_withGuest b g (f_resume kind (f_guestAt b g).1)) q38)] .nil fun ac w β S => ?_
 refine S.sl 7 [] [(9, .v (B true))] 3 [] .nil fun ac w β S => ?_
 refine WD.done (by kernel_rfl) ?_ _
 refine S.ex fun S => ?_
 refine S.gr 2 .nil [GT.val (f_withGuest b g (f_resume kind (f_guestAt b g).1)) q38, B true] fun ac w β S => ?_
 exact ret2_of (p' := ()) S (show (f_changed b g condition (fun x => (f_resume kind x))).1 = (f_withGuest b g (f_resume kind (f_guestAt b g).1)) from k0_impl_changed_impl_BareResume_1) (show (f_changed b g condition (fun x => (f_resume kind x))).2 = true from k1_impl_changed_impl_BareResume_1) rfl rfl o40 trivial

theorem k0_impl_changed_impl_BareInject_1 {p : Prop} (h : p := by clear S; (first | (unfold f_changed; rw [if_neg (by rintro ⟨h1, h2, h3⟩; first | omega | simp_all)]; done) | ((have hg := guestAt_t (by assumption)); unfold f_changed f_withGuest; rw [if_pos ⟨by assumption, hg, by first | assumption | rfl⟩, if_pos hg, guestAt_1 hg]; done))) : p := h
theorem k1_impl_changed_impl_BareInject_1 {p : Prop} (h : p := by clear S; (first | (unfold f_changed; rw [if_neg (by rintro ⟨h1, h2, h3⟩; first | omega | simp_all)]; done) | ((have hg := guestAt_t (by assumption)); unfold f_changed; rw [if_pos ⟨by assumption, hg, by first | assumption | rfl⟩]; done))) : p := h
theorem c_impl_changed_impl_BareInject_1 (w0 : World) (b : TBare) (pb : PBare) (hb : RD w0 b pb) (g : Int) (condition : Bool) (p : Int) (qp : LP Int) (hp : RD w0 [p] qp) : Calls Tryz.prog 151 [GT.val b pb, I g, B condition, .func (.func 161) #[] #[pt qp.1.b (qp.1.off + 0 * 1)]].toArray w0 (Ret2 NoB w0 ((f_changed b g condition (fun x => ({ x with pend := p } : TGuest))).1 : TBare) ((f_changed b g condition (fun x => ({ x with pend := p } : TGuest))).2 : Bool)) := by
 refine Calls.run NoB Tryz.func151 ?_
 intro ac β S
 have hleb_mem : b.mem.length ≤ 4194304 := LRd.le (RBare.mem (d := b) hb)
 have hleb_guests : b.guests.length ≤ 4194304 := LRd.le (RBare.guests (d := b) hb)
 have hleb_outs : b.outs.length ≤ 4194304 := LRd.le (RBare.outs (d := b) hb)
 refine S.go 11 .nil fun ac w β S => S.K2 (r := (f_guestAt b g).1) (r' := (f_guestAt b g).2) (d := 15) (c_impl_GuestAt w b pb (S.rd (S.arg hb)) g) fun ac w N q1 q2 F3 F4 S up o5 o6 d7 d8 d9 => ?_
 clear up d7
 clear d8
 refine S.gb 15 (.cons (Q_call fun w hw => c_impl_BareOk w b pb (rd_of (S.arg hb) hw)) .nil) (!(f_bareOk b)) (fun ac w β h10 S => ?_) (fun ac w β h10 S => ?_)
 ·have h11 := not_t h10
  refine S.go 13 .nil fun ac w β S => S.K1 (r := b) (d := 30) (c_impl_copyBare w b pb (S.rd (S.arg hb))) fun ac w N q12 F13 S up o14 d15 => ?_
  clear up d15
  refine S.gr 5 .nil [GT.val b q12, B false] fun ac w β S => ?_
  exact ret2_of (p' := ()) S (show (f_changed b g condition (fun x => ({ x with pend := p } : TGuest))).1 = b from k0_impl_changed_impl_BareInject_1) (show (f_changed b g condition (fun x => ({ x with pend := p } : TGuest))).2 = false from k1_impl_changed_impl_BareInject_1) rfl rfl o14 trivial
 have h16 := not_f h10
 have g17 := bareOk_t h16
 refine S.gb 4 .nil (!(f_guestAt b g).2) (fun ac w β h18 S => ?_) (fun ac w β h18 S => ?_)
 ·have h19 := not_t h18
  have g20 := guestAt_f h19
  refine S.go 9 .nil fun ac w β S => S.K1 (r := b) (d := 30) (c_impl_copyBare w b pb (S.rd (S.arg hb))) fun ac w N q21 F22 S up o23 d24 => ?_
  clear up d24
  refine S.gr 5 .nil [GT.val b q21, B false] fun ac w β S => ?_
  exact ret2_of (p' := ()) S (show (f_changed b g condition (fun x => ({ x with pend := p } : TGuest))).1 = b from k0_impl_changed_impl_BareInject_1) (show (f_changed b g condition (fun x => ({ x with pend := p } : TGuest))).2 = false from k1_impl_changed_impl_BareInject_1) rfl rfl o23 trivial
 have h25 := not_f h18
 have g26 := guestAt_t h25
 refine S.gb 5 .nil (!condition) (fun ac w β h27 S => ?_) (fun ac w β h27 S => ?_)
 ·have h28 := not_t h27
  refine S.go 4 .nil fun ac w β S => S.K1 (r := b) (d := 30) (c_impl_copyBare w b pb (S.rd (S.arg hb))) fun ac w N q29 F30 S up o31 d32 => ?_
  clear up d32
  refine S.gr 5 .nil [GT.val b q29, B false] fun ac w β S => ?_
  exact ret2_of (p' := ()) S (show (f_changed b g condition (fun x => ({ x with pend := p } : TGuest))).1 = b from k0_impl_changed_impl_BareInject_1) (show (f_changed b g condition (fun x => ({ x with pend := p } : TGuest))).2 = false from k1_impl_changed_impl_BareInject_1) rfl rfl o31 trivial
 have h33 := not_f h27
 refine S.go 4 .nil fun ac w β S => ?_
 refine drw ?_
 refine S.draw0 (f := 8) 6 (by kernel_rfl) (by kernel_rfl) fun w S => ?_
 refine S.hq 0 [0] [] [(31, .v (GT.val b pb))] .nil fun ac S => ?_
 refine S.hq 1 [1] [] [(32, .v (I g))] .nil fun ac S => ?_
 refine S.hq 2 [2] [] [(33, .v (.func (.func 161) #[] #[pt qp.1.b (qp.1.off + 0 * 1)]))] .nil fun ac S => ?_
 refine S.hq 3 [3] [] [(34, .v (GT.val (f_guestAt b g).1 q1))] .nil fun ac S => ?_
 refine WD.one (i := 4) (by kernel_rfl) ?_
 refine id (S.callT0 (r := ({ (f_guestAt b g).1 with pend := p } : TGuest)) (d := 35) o5 (c_impl_BareInject_1 w (f_guestAt b g).1 q1 F3 (S.ownw o5) (fun b hb => (S.sep b (o5.sub b hb)).1) p qp (S.rd (S.arg hp))) fun ac w N q34 F35 S up o36 d37   => ?_)
 refine WD.next S up (by kernel_rfl) ?_
 clear up d37 o5
 refine WD.one (i := 5) (by kernel_rfl) ?_
 refine id (S.k1 36 (c_impl_WithGuest w b pb (S.rd (S.arg hb)) g ({ (f_guestAt b g).1 with pend := p } : TGuest) q34 (S.rd o36.rn)) fun ac w N q38 F39 S up o40 d41 => ?_)
 refine WD.next S up (by kernel_rfl) ?_
 clear up d41
 refine S.sl 6 [] [] 3 [(1, GT.cells (f_withGuest b g ({ (f_guestAt b g).1 with pend := p } : TGuest)) q38)] .nil fun ac w β S => ?_
 refine S.sl 7 [] [(9, .v (B true))] 3 [] .nil fun ac w β S => ?_
 refine WD.done (by kernel_rfl) ?_ _
 refine S.ex fun S => ?_
 refine S.gr 2 .nil [GT.val (f_withGuest b g ({ (f_guestAt b g).1 with pend := p } : TGuest)) q38, B true] fun ac w β S => ?_
 exact ret2_of (p' := ()) S (show (f_changed b g condition (fun x => ({ x with pend := p } : TGuest))).1 = (f_withGuest b g ({ (f_guestAt b g).1 with pend := p } : TGuest)) from k0_impl_changed_impl_BareInject_1) (show (f_changed b g condition (fun x => ({ x with pend := p } : TGuest))).2 = true from k1_impl_changed_impl_BareInject_1) rfl rfl o40 trivial

theorem k0_impl_changed_impl_BareCtl_1 {p : Prop} (h : p := by clear S; (first | (unfold f_changed; rw [if_neg (by rintro ⟨h1, h2, h3⟩; first | omega | simp_all)]; done) | ((have hg := guestAt_t (by assumption)); unfold f_changed f_withGuest; rw [if_pos ⟨by assumption, hg, by first | assumption | rfl⟩, if_pos hg, guestAt_1 hg]; done))) : p := h
theorem k1_impl_changed_impl_BareCtl_1 {p : Prop} (h : p := by clear S; (first | (unfold f_changed; rw [if_neg (by rintro ⟨h1, h2, h3⟩; first | omega | simp_all)]; done) | ((have hg := guestAt_t (by assumption)); unfold f_changed; rw [if_pos ⟨by assumption, hg, by first | assumption | rfl⟩]; done))) : p := h
theorem c_impl_changed_impl_BareCtl_1 (w0 : World) (b : TBare) (pb : PBare) (hb : RD w0 b pb) (g : Int) (condition : Bool) (c : TCtl) (qc : LP TCtl) (hc : RD w0 [c] qc) : Calls Tryz.prog 151 [GT.val b pb, I g, B condition, .func (.func 163) #[] #[pt qc.1.b (qc.1.off + 0 * 3)]].toArray w0 (Ret2 NoB w0 ((f_changed b g condition (fun x => ({ x with ctl := c } : TGuest))).1 : TBare) ((f_changed b g condition (fun x => ({ x with ctl := c } : TGuest))).2 : Bool)) := by
 refine Calls.run NoB Tryz.func151 ?_
 intro ac β S
 have hleb_mem : b.mem.length ≤ 4194304 := LRd.le (RBare.mem (d := b) hb)
 have hleb_guests : b.guests.length ≤ 4194304 := LRd.le (RBare.guests (d := b) hb)
 have hleb_outs : b.outs.length ≤ 4194304 := LRd.le (RBare.outs (d := b) hb)
 refine S.go 11 .nil fun ac w β S => S.K2 (r := (f_guestAt b g).1) (r' := (f_guestAt b g).2) (d := 15) (c_impl_GuestAt w b pb (S.rd (S.arg hb)) g) fun ac w N q1 q2 F3 F4 S up o5 o6 d7 d8 d9 => ?_
 clear up d7
 clear d8
 refine S.gb 15 (.cons (Q_call fun w hw => c_impl_BareOk w b pb (rd_of (S.arg hb) hw)) .nil) (!(f_bareOk b)) (fun ac w β h10 S => ?_) (fun ac w β h10 S => ?_)
 ·have h11 := not_t h10
  refine S.go 13 .nil fun ac w β S => S.K1 (r := b) (d := 30) (c_impl_copyBare w b pb (S.rd (S.arg hb))) fun ac w N q12 F13 S up o14 d15 => ?_
  clear up d15
  refine S.gr 5 .nil [GT.val b q12, B false] fun ac w β S => ?_
  exact ret2_of (p' := ()) S (show (f_changed b g condition (fun x => ({ x with ctl := c } : TGuest))).1 = b from k0_impl_changed_impl_BareCtl_1) (show (f_changed b g condition (fun x => ({ x with ctl := c } : TGuest))).2 = false from k1_impl_changed_impl_BareCtl_1) rfl rfl o14 trivial
 have h16 := not_f h10
 have g17 := bareOk_t h16
 refine S.gb 4 .nil (!(f_guestAt b g).2) (fun ac w β h18 S => ?_) (fun ac w β h18 S => ?_)
 ·have h19 := not_t h18
  have g20 := guestAt_f h19
  refine S.go 9 .nil fun ac w β S => S.K1 (r := b) (d := 30) (c_impl_copyBare w b pb (S.rd (S.arg hb))) fun ac w N q21 F22 S up o23 d24 => ?_
  clear up d24
  refine S.gr 5 .nil [GT.val b q21, B false] fun ac w β S => ?_
  exact ret2_of (p' := ()) S (show (f_changed b g condition (fun x => ({ x with ctl := c } : TGuest))).1 = b from k0_impl_changed_impl_BareCtl_1) (show (f_changed b g condition (fun x => ({ x with ctl := c } : TGuest))).2 = false from k1_impl_changed_impl_BareCtl_1) rfl rfl o23 trivial
 have h25 := not_f h18
 have g26 := guestAt_t h25
 refine S.gb 5 .nil (!condition) (fun ac w β h27 S => ?_) (fun ac w β h27 S => ?_)
 ·have h28 := not_t h27
  refine S.go 4 .nil fun ac w β S => S.K1 (r := b) (d := 30) (c_impl_copyBare w b pb (S.rd (S.arg hb))) fun ac w N q29 F30 S up o31 d32 => ?_
  clear up d32
  refine S.gr 5 .nil [GT.val b q29, B false] fun ac w β S => ?_
  exact ret2_of (p' := ()) S (show (f_changed b g condition (fun x => ({ x with ctl := c } : TGuest))).1 = b from k0_impl_changed_impl_BareCtl_1) (show (f_changed b g condition (fun x => ({ x with ctl := c } : TGuest))).2 = false from k1_impl_changed_impl_BareCtl_1) rfl rfl o31 trivial
 have h33 := not_f h27
 refine S.go 4 .nil fun ac w β S => ?_
 refine drw ?_
 refine S.draw0 (f := 8) 6 (by kernel_rfl) (by kernel_rfl) fun w S => ?_
 refine S.hq 0 [0] [] [(31, .v (GT.val b pb))] .nil fun ac S => ?_
 refine S.hq 1 [1] [] [(32, .v (I g))] .nil fun ac S => ?_
 refine S.hq 2 [2] [] [(33, .v (.func (.func 163) #[] #[pt qc.1.b (qc.1.off + 0 * 3)]))] .nil fun ac S => ?_
 refine S.hq 3 [3] [] [(34, .v (GT.val (f_guestAt b g).1 q1))] .nil fun ac S => ?_
 refine WD.one (i := 4) (by kernel_rfl) ?_
 refine id (S.callT0 (r := ({ (f_guestAt b g).1 with ctl := c } : TGuest)) (d := 35) o5 (c_impl_BareCtl_1 w (f_guestAt b g).1 q1 F3 (S.ownw o5) (fun b hb => (S.sep b (o5.sub b hb)).1) c qc (S.rd (S.arg hc))) fun ac w N q34 F35 S up o36 d37   => ?_)
 refine WD.next S up (by kernel_rfl) ?_
 clear up d37 o5
 refine WD.one (i := 5) (by kernel_rfl) ?_
 refine id (S.k1 36 (c_impl_WithGuest w b pb (S.rd (S.arg hb)) g ({ (f_guestAt b g).1 with ctl := c } : TGuest) q34 (S.rd o36.rn)) fun ac w N q38 F39 S up o40 d41 => ?_)
 refine WD.next S up (by kernel_rfl) ?_
 clear up d41
 refine S.sl 6 [] [] 3 [(1, GT.cells (f_withGuest b g ({ (f_guestAt b g).1 with ctl := c } : TGuest)) q38)] .nil fun ac w β S => ?_
 refine S.sl 7 [] [(9, .v (B true))] 3 [] .nil fun ac w β S => ?_
 refine WD.done (by kernel_rfl) ?_ _
 refine S.ex fun S => ?_
 refine S.gr 2 .nil [GT.val (f_withGuest b g ({ (f_guestAt b g).1 with ctl := c } : TGuest)) q38, B true] fun ac w β S => ?_
 exact ret2_of (p' := ()) S (show (f_changed b g condition (fun x => ({ x with ctl := c } : TGuest))).1 = (f_withGuest b g ({ (f_guestAt b g).1 with ctl := c } : TGuest)) from k0_impl_changed_impl_BareCtl_1) (show (f_changed b g condition (fun x => ({ x with ctl := c } : TGuest))).2 = true from k1_impl_changed_impl_BareCtl_1) rfl rfl o40 trivial

theorem k0_impl_BareSet {p : Prop} (h : p := by clear S; (first | (rw [set_has (by assumption)]; done) | (rw [set_hasnt (by assumption)]; done))) : p := h
theorem c_impl_BareSet (w0 : World) (b : TBare) (pb : PBare) (hb : RD w0 b pb) (g : Int) (page : Int) (hpage : In64 page) (s : TSlot) (hs : RSlot s) : Calls Tryz.prog 84 [GT.val b pb, I g, I page, GT.val s ()].toArray w0 (Ret2 NoB w0 ((f_bareSet b g page s).1 : TBare) ((f_bareSet b g page s).2 : Bool)) := by
 refine Calls.run NoB Tryz.func84 ?_
 intro ac β S
 have hleb_mem : b.mem.length ≤ 4194304 := LRd.le (RBare.mem (d := b) hb)
 have hleb_guests : b.guests.length ≤ 4194304 := LRd.le (RBare.guests (d := b) hb)
 have hleb_outs : b.outs.length ≤ 4194304 := LRd.le (RBare.outs (d := b) hb)
 have hlopage := hpage.lo; have hhipage := hpage.hi
 refine S.go 10 .nil fun ac w β S => ?_
 refine S.Frz 1 page () hpage fun β N b1 F2 S up o3 d4 => ?_
 clear up d4
 refine S.Frz 1 s () hs fun β N b5 F6 S up o7 d8 => ?_
 replace o3 := o3.up up
 clear up d8
 refine drw ?_
 rcases Bool.eq_false_or_eq_true (f_within page 0 (4 - 1)) with h10 | h10
 ·have g11 := within_t h10
  let σ12 : Sy := ⟨[(1, .v (I g)), (4, .p 0 0), (6, .v (pt (cap1 b1 () : LP Int).1.b ((cap1 b1 () : LP Int).1.off + 0 * 1))), (7, .v (pt (cap1 b5 () : LP TSlot).1.b ((cap1 b5 () : LP TSlot).1.off + 0 * 2))), (8, .p 1 0)], [GT.cells b pb, Zc TBare]⟩
  obtain ⟨u0, N0, β0, S, o3, o7⟩ : ∃ u0 N0 β0, St Tryz.prog Tryz.f84.ntmps w0 NoB u0 N0 β0 σ12 ac w ∧ Ow w0 NoB u0 N0 F2 ([page]) (cap1 b1 () : LP Int) ∧ Ow w0 NoB u0 N0 F6 ([s]) (cap1 b5 () : LP TSlot) := ⟨_, _, _, S.z, o3, o7⟩
  refine wp_region_cut (fun ac w => ∃ q31 F32 u N β, St Tryz.prog Tryz.f84.ntmps w0 NoB u N β (σ12.dl [1, 4, 6, 7] [(9, .v (B (f_changed b g (f_slotOk s 8) (fun x => ({ x with written := f_withSlot x.written page s } : TGuest))).2))] 2 [(1, GT.cells (f_changed b g (f_slotOk s 8) (fun x => ({ x with written := f_withSlot x.written page s } : TGuest))).1 q31)]) ac w ∧ Ow w0 NoB u N F32 (f_changed b g (f_slotOk s 8) (fun x => ({ x with written := f_withSlot x.written page s } : TGuest))).1 q31) ?_ ?_
  ·refine S.draw0 (f := 14) 12 (by kernel_rfl) (by kernel_rfl) fun w S => ?_
   refine S.hq 0 [0] [] [(10, .v (GT.val b pb))] .nil fun ac S => ?_
   refine S.hq 1 [1] [] [(11, .v (I g))] .nil fun ac S => ?_
   refine S.hq 2 [2] [] [(12, .v (I page))] (.cons (Q_el1 o3.rn (t := 3) (k := 0) (Nat.succ_pos 0) rfl (by kernel_rfl)) .nil) fun ac S => ?_
   refine S.hq 8 [8] [] [(18, .v (.func (.func 153) #[] #[pt (cap1 b1 () : LP Int).1.b ((cap1 b1 () : LP Int).1.off + 0 * 1), pt (cap1 b5 () : LP TSlot).1.b ((cap1 b5 () : LP TSlot).1.off + 0 * 2)]))] .nil fun ac S => ?_
   refine WD.nameW fun W hW => ?_
   refine WD.castW (l' := mkL 14 [0, 1, 2, 8]) (by kernel_rfl) ?_
   have hK33 ac w q31 F32 u N β (S : St Tryz.prog Tryz.f84.ntmps w0 NoB u N β (σ12.dl [1, 4, 6, 7] [(9, .v (B (f_changed b g (f_slotOk s 8) (fun x => ({ x with written := f_withSlot x.written page s } : TGuest))).2))] 2 [(1, GT.cells (f_changed b g (f_slotOk s 8) (fun x => ({ x with written := f_withSlot x.written page s } : TGuest))).1 q31)]) ac w) (o30 : Ow w0 NoB u N F32 (f_changed b g (f_slotOk s 8) (fun x => ({ x with written := f_withSlot x.written page s } : TGuest))).1 q31) : W 0 (mkL 14 [0, 1, 2, 3, 4, 5, 6, 7, 8, 9, 10, 11, 12, 13]) ac w := by
    exact od hW ⟨rfl, q31, F32, _, _, _, S.z, o30⟩
   have hK34 ac w q28 F29 u N β (S : St Tryz.prog Tryz.f84.ntmps w0 NoB u N β (σ12.dl [1, 4, 6, 7] [(20, .v (GT.val (f_changed b g (f_slotOk s 8) (fun x => ({ x with written := f_withSlot x.written page s } : TGuest))).1 q28)), (21, .v (B (f_changed b g (f_slotOk s 8) (fun x => ({ x with written := f_withSlot x.written page s } : TGuest))).2))] 2 []) ac w) (o27 : Ow w0 NoB u N F29 (f_changed b g (f_slotOk s 8) (fun x => ({ x with written := f_withSlot x.written page s } : TGuest))).1 q28) (hNN : NN N0 u0 N u) (hBB : BB σ12.bx.length β0 β) : W 2 (mkL 14 [0, 1, 2, 3, 4, 5, 6, 7, 8, 9, 10, 11]) ac w := by
    exact ox1 hW 12 (S.wl hW [13] .nil fun _ _ _ S => hK33 _ _ q28 F29 _ _ _ S o27)
   have hK35 ac w u N β (S : St Tryz.prog Tryz.f84.ntmps w0 NoB u N β (σ12.dl [1, 4, 6, 7] [(10, .v (GT.val b pb)), (11, .v (I g)), (17, .v (B (f_slotOk s 8))), (18, .v (.func (.func 153) #[] #[pt (cap1 b1 () : LP Int).1.b ((cap1 b1 () : LP Int).1.off + 0 * 1), pt (cap1 b5 () : LP TSlot).1.b ((cap1 b5 () : LP TSlot).1.off + 0 * 2)]))] 2 []) ac w) (o3 : Ow w0 NoB u N F2 ([page]) (cap1 b1 () : LP Int)) (o7 : Ow w0 NoB u N F6 ([s]) (cap1 b5 () : LP TSlot)) (hNN : NN N0 u0 N u) (hBB : BB σ12.bx.length β0 β) : W 5 (mkL 14 [0, 1, 2, 3, 4, 5, 6, 7, 8]) ac w := by
    refine ox1 hW 9 ?_
    refine id (S.call2 (r := (f_changed b g (f_slotOk s 8) (fun x => ({ x with written := f_withSlot x.written page s } : TGuest))).1) (r' := (f_changed b g (f_slotOk s 8) (fun x => ({ x with written := f_withSlot x.written page s } : TGuest))).2) (d := 19) (c_impl_changed_impl_BareSet_1 w b pb (S.rd (S.arg hb)) g (f_slotOk s 8) page (cap1 b1 () : LP Int) (S.rd o3.rn) s (cap1 b5 () : LP TSlot) (S.rd o7.rn)) (by kernel_rfl) rfl fun ac w N q36 q37 F38 F39 S up o40 o41 d42 d43 d44 => ?_)
    have hb45 := fun b h => (⟨(up b (hNN b h).1).1, (up b (hNN b h).1).2.trans (hNN b h).2⟩ : _ ∧ _)
    refine WD.sc S hb45 hBB fun hC => ?_
    replace o3 := o3.up up
    replace o7 := o7.up up
    clear up d42
    clear d43
    exact S.wh hW [10, 11] hC fun _ S => hK34 _ _ q36 F38 _ _ _ S o40 hb45 hBB
   have hK50 ac w u N β (S : St Tryz.prog Tryz.f84.ntmps w0 NoB u N β (σ12.dl [1, 4, 6, 7] [(10, .v (GT.val b pb)), (11, .v (I g)), (14, .v (B true)), (15, .v (GT.val s ())), (18, .v (.func (.func 153) #[] #[pt (cap1 b1 () : LP Int).1.b ((cap1 b1 () : LP Int).1.off + 0 * 1), pt (cap1 b5 () : LP TSlot).1.b ((cap1 b5 () : LP TSlot).1.off + 0 * 2)]))] 2 []) ac w) (o3 : Ow w0 NoB u N F2 ([page]) (cap1 b1 () : LP Int)) (o7 : Ow w0 NoB u N F6 ([s]) (cap1 b5 () : LP TSlot)) (hNN : NN N0 u0 N u) (hBB : BB σ12.bx.length β0 β) : W 7 (mkL 14 [0, 1, 2, 3, 4, 5, 8]) ac w := by
    exact ox1 hW 6 (S.wq hW hNN hBB [7] (.cons (Q_call fun w hw => c_impl_SlotOk w s 8 (by omega) (by omega)) .nil) fun _ _ _ S hB => hK35 _ _ _ _ _ S o3 o7 hNN hB)
   have hK51 ac w u N β (S : St Tryz.prog Tryz.f84.ntmps w0 NoB u N β (σ12.dl [1, 4, 6] [(10, .v (GT.val b pb)), (11, .v (I g)), (14, .v (B true)), (18, .v (.func (.func 153) #[] #[pt (cap1 b1 () : LP Int).1.b ((cap1 b1 () : LP Int).1.off + 0 * 1), pt (cap1 b5 () : LP TSlot).1.b ((cap1 b5 () : LP TSlot).1.off + 0 * 2)]))] 2 []) ac w) (o3 : Ow w0 NoB u N F2 ([page]) (cap1 b1 () : LP Int)) (o7 : Ow w0 NoB u N F6 ([s]) (cap1 b5 () : LP TSlot)) (hNN : NN N0 u0 N u) (hBB : BB σ12.bx.length β0 β) : W 8 (mkL 14 [0, 1, 2, 3, 4, 8]) ac w := by
    exact ox1 hW 5 (S.wq hW hNN hBB [] (.cons (Q_el o7.rn (t := 55) (k := 0) (Nat.succ_pos 0) rfl (by kernel_rfl) (by kernel_rfl)) .nil) fun _ _ _ S hB => hK50 _ _ _ _ _ S o3 o7 hNN hB)
   have hNN : NN N0 u0 N0 u0 := fun b h => ⟨h, rfl⟩
   have hBB : BB σ12.bx.length β0 β0 := fun _ _ => rfl
   exact ox1 hW 3 (S.wqo hW hNN hBB [4] [(4, true)] (.cons (Q_call fun w hw => c_impl_has w page 4 (by omega)) .nil) (.cons h10 .nil) fun _ _ _ S hB => hK51 _ _ _ _ _ S o3 o7 hNN hB)
  clear S o3 o7
  rintro ac w ⟨q31, F32, u, N, β, S, o30⟩
  refine S.ex fun S => ?_
  refine S.gr 2 .nil [GT.val (f_changed b g (f_slotOk s 8) (fun x => ({ x with written := f_withSlot x.written page s } : TGuest))).1 q31, B (f_changed b g (f_slotOk s 8) (fun x => ({ x with written := f_withSlot x.written page s } : TGuest))).2] fun ac w β S => ?_
  exact ret2_of (p' := ()) S (show (f_bareSet b g page s).1 = (f_changed b g (f_slotOk s 8) (fun x => ({ x with written := f_withSlot x.written page s } : TGuest))).1 from k0_impl_BareSet) (show (f_bareSet b g page s).2 = (f_changed b g (f_slotOk s 8) (fun x => ({ x with written := f_withSlot x.written page s } : TGuest))).2 from k0_impl_BareSet) rfl rfl o30 trivial
 ·have g52 := within_f h10
  let σ53 : Sy := ⟨[(1, .v (I g)), (4, .p 0 0), (6, .v (pt (cap1 b1 () : LP Int).1.b ((cap1 b1 () : LP Int).1.off + 0 * 1))), (7, .v (pt (cap1 b5 () : LP TSlot).1.b ((cap1 b5 () : LP TSlot).1.off + 0 * 2))), (8, .p 1 0)], [GT.cells b pb, Zc TBare]⟩
  obtain ⟨u0, N0, β0, S, o3, o7⟩ : ∃ u0 N0 β0, St Tryz.prog Tryz.f84.ntmps w0 NoB u0 N0 β0 σ53 ac w ∧ Ow w0 NoB u0 N0 F2 ([page]) (cap1 b1 () : LP Int) ∧ Ow w0 NoB u0 N0 F6 ([s]) (cap1 b5 () : LP TSlot) := ⟨_, _, _, S.z, o3, o7⟩
  refine wp_region_cut (fun ac w => ∃ q72 F73 u N β, St Tryz.prog Tryz.f84.ntmps w0 NoB u N β (σ53.dl [1, 4, 6, 7] [(9, .v (B (f_changed b g false (fun x => ({ x with written := f_withSlot x.written page s } : TGuest))).2))] 2 [(1, GT.cells (f_changed b g false (fun x => ({ x with written := f_withSlot x.written page s } : TGuest))).1 q72)]) ac w ∧ Ow w0 NoB u N F73 (f_changed b g false (fun x => ({ x with written := f_withSlot x.written page s } : TGuest))).1 q72) ?_ ?_
  ·refine S.draw0 (f := 14) 12 (by kernel_rfl) (by kernel_rfl) fun w S => ?_
   refine S.hq 0 [0] [] [(10, .v (GT.val b pb))] .nil fun ac S => ?_
   refine S.hq 1 [1] [] [(11, .v (I g))] .nil fun ac S => ?_
   refine S.hq 2 [2] [] [(12, .v (I page))] (.cons (Q_el1 o3.rn (t := 3) (k := 0) (Nat.succ_pos 0) rfl (by kernel_rfl)) .nil) fun ac S => ?_
   refine S.hq 8 [8] [] [(18, .v (.func (.func 153) #[] #[pt (cap1 b1 () : LP Int).1.b ((cap1 b1 () : LP Int).1.off + 0 * 1), pt (cap1 b5 () : LP TSlot).1.b ((cap1 b5 () : LP TSlot).1.off + 0 * 2)]))] .nil fun ac S => ?_
   refine WD.nameW fun W hW => ?_
   refine WD.castW (l' := mkL 14 [0, 1, 2, 8]) (by kernel_rfl) ?_
   have hK74 ac w q72 F73 u N β (S : St Tryz.prog Tryz.f84.ntmps w0 NoB u N β (σ53.dl [1, 4, 6, 7] [(9, .v (B (f_changed b g false (fun x => ({ x with written := f_withSlot x.written page s } : TGuest))).2))] 2 [(1, GT.cells (f_changed b g false (fun x => ({ x with written := f_withSlot x.written page s } : TGuest))).1 q72)]) ac w) (o71 : Ow w0 NoB u N F73 (f_changed b g false (fun x => ({ x with written := f_withSlot x.written page s } : TGuest))).1 q72) : W 0 (mkL 14 [0, 1, 2, 3, 4, 5, 6, 7, 8, 9, 10, 11, 12, 13]) ac w := by
    exact od hW ⟨rfl, q72, F73, _, _, _, S.z, o71⟩
   have hK75 ac w q69 F70 u N β (S : St Tryz.prog Tryz.f84.ntmps w0 NoB u N β (σ53.dl [1, 4, 6, 7] [(20, .v (GT.val (f_changed b g false (fun x => ({ x with written := f_withSlot x.written page s } : TGuest))).1 q69)), (21, .v (B (f_changed b g false (fun x => ({ x with written := f_withSlot x.written page s } : TGuest))).2))] 2 []) ac w) (o68 : Ow w0 NoB u N F70 (f_changed b g false (fun x => ({ x with written := f_withSlot x.written page s } : TGuest))).1 q69) (hNN : NN N0 u0 N u) (hBB : BB σ53.bx.length β0 β) : W 2 (mkL 14 [0, 1, 2, 3, 4, 5, 6, 7, 8, 9, 10, 11]) ac w := by
    exact ox1 hW 12 (S.wl hW [13] .nil fun _ _ _ S => hK74 _ _ q69 F70 _ _ _ S o68)
   have hK76 ac w u N β (S : St Tryz.prog Tryz.f84.ntmps w0 NoB u N β (σ53.dl [1, 4, 6, 7] [(10, .v (GT.val b pb)), (11, .v (I g)), (17, .v (B false)), (18, .v (.func (.func 153) #[] #[pt (cap1 b1 () : LP Int).1.b ((cap1 b1 () : LP Int).1.off + 0 * 1), pt (cap1 b5 () : LP TSlot).1.b ((cap1 b5 () : LP TSlot).1.off + 0 * 2)]))] 2 []) ac w) (o3 : Ow w0 NoB u N F2 ([page]) (cap1 b1 () : LP Int)) (o7 : Ow w0 NoB u N F6 ([s]) (cap1 b5 () : LP TSlot)) (hNN : NN N0 u0 N u) (hBB : BB σ53.bx.length β0 β) : W 5 (mkL 14 [0, 1, 2, 3, 4, 5, 6, 7, 8]) ac w := by
    refine ox1 hW 9 ?_
    refine id (S.call2 (r := (f_changed b g false (fun x => ({ x with written := f_withSlot x.written page s } : TGuest))).1) (r' := (f_changed b g false (fun x => ({ x with written := f_withSlot x.written page s } : TGuest))).2) (d := 19) (c_impl_changed_impl_BareSet_1 w b pb (S.rd (S.arg hb)) g false page (cap1 b1 () : LP Int) (S.rd o3.rn) s (cap1 b5 () : LP TSlot) (S.rd o7.rn)) (by kernel_rfl) rfl fun ac w N q77 q78 F79 F80 S up o81 o82 d83 d84 d85 => ?_)
    have hb86 := fun b h => (⟨(up b (hNN b h).1).1, (up b (hNN b h).1).2.trans (hNN b h).2⟩ : _ ∧ _)
    refine WD.sc S hb86 hBB fun hC => ?_
    replace o3 := o3.up up
    replace o7 := o7.up up
    clear up d83
    clear d84
    exact S.wh hW [10, 11] hC fun _ S => hK75 _ _ q77 F79 _ _ _ S o81 hb86 hBB
   have hK91 ac w u N β (S : St Tryz.prog Tryz.f84.ntmps w0 NoB u N β (σ53.dl [1, 4, 6, 7] [(10, .v (GT.val b pb)), (11, .v (I g)), (14, .v (B false)), (15, .v undef), (18, .v (.func (.func 153) #[] #[pt (cap1 b1 () : LP Int).1.b ((cap1 b1 () : LP Int).1.off + 0 * 1), pt (cap1 b5 () : LP TSlot).1.b ((cap1 b5 () : LP TSlot).1.off + 0 * 2)]))] 2 []) ac w) (o3 : Ow w0 NoB u N F2 ([page]) (cap1 b1 () : LP Int)) (o7 : Ow w0 NoB u N F6 ([s]) (cap1 b5 () : LP TSlot)) (hNN : NN N0 u0 N u) (hBB : BB σ53.bx.length β0 β) : W 7 (mkL 14 [0, 1, 2, 3, 4, 5, 8]) ac w := by
    exact ox1 hW 6 (S.wq hW hNN hBB [7] .nil fun _ _ _ S hB => hK76 _ _ _ _ _ S o3 o7 hNN hB)
   have hK92 ac w u N β (S : St Tryz.prog Tryz.f84.ntmps w0 NoB u N β (σ53.dl [1, 4, 6] [(10, .v (GT.val b pb)), (11, .v (I g)), (14, .v (B false)), (18, .v (.func (.func 153) #[] #[pt (cap1 b1 () : LP Int).1.b ((cap1 b1 () : LP Int).1.off + 0 * 1), pt (cap1 b5 () : LP TSlot).1.b ((cap1 b5 () : LP TSlot).1.off + 0 * 2)]))] 2 []) ac w) (o3 : Ow w0 NoB u N F2 ([page]) (cap1 b1 () : LP Int)) (o7 : Ow w0 NoB u N F6 ([s]) (cap1 b5 () : LP TSlot)) (hNN : NN N0 u0 N u) (hBB : BB σ53.bx.length β0 β) : W 8 (mkL 14 [0, 1, 2, 3, 4, 8]) ac w := by
    exact ox1 hW 5 (S.wq hW hNN hBB [] .nil fun _ _ _ S hB => hK91 _ _ _ _ _ S o3 o7 hNN hB)
   have hNN : NN N0 u0 N0 u0 := fun b h => ⟨h, rfl⟩
   have hBB : BB σ53.bx.length β0 β0 := fun _ _ => rfl
   exact ox1 hW 3 (S.wqo hW hNN hBB [4] [(4, false)] (.cons (Q_call fun w hw => c_impl_has w page 4 (by omega)) .nil) (.cons h10 .nil) fun _ _ _ S hB => hK92 _ _ _ _ _ S o3 o7 hNN hB)
  clear S o3 o7
  rintro ac w ⟨q72, F73, u, N, β, S, o71⟩
  refine S.ex fun S => ?_
  refine S.gr 2 .nil [GT.val (f_changed b g false (fun x => ({ x with written := f_withSlot x.written page s } : TGuest))).1 q72, B (f_changed b g false (fun x => ({ x with written := f_withSlot x.written page s } : TGuest))).2] fun ac w β S => ?_
  exact ret2_of (p' := ()) S (show (f_bareSet b g page s).1 = (f_changed b g false (fun x => ({ x with written := f_withSlot x.written page s } : TGuest))).1 from k0_impl_BareSet) (show (f_bareSet b g page s).2 = (f_changed b g false (fun x => ({ x with written := f_withSlot x.written page s } : TGuest))).2 from k0_impl_BareSet) rfl rfl o71 trivial

theorem c_impl_BareFlush (w0 : World) (b : TBare) (pb : PBare) (hb : RD w0 b pb) (g : Int) (page : Int) (hpage : In64 page) : Calls Tryz.prog 85 [GT.val b pb, I g, I page].toArray w0 (Ret2 NoB w0 ((f_bareFlush b g page).1 : TBare) ((f_bareFlush b g page).2 : Bool)) := by
 refine Calls.run NoB Tryz.func85 ?_
 intro ac β S
 have hleb_mem : b.mem.length ≤ 4194304 := LRd.le (RBare.mem (d := b) hb)
 have hleb_guests : b.guests.length ≤ 4194304 := LRd.le (RBare.guests (d := b) hb)
 have hleb_outs : b.outs.length ≤ 4194304 := LRd.le (RBare.outs (d := b) hb)
 have hlopage := hpage.lo; have hhipage := hpage.hi
 refine S.go 9 .nil fun ac w β S => ?_
 refine S.Frz 1 page () hpage fun β N b1 F2 S up o3 d4 => ?_
 clear up d4
 refine drw ?_
 refine S.draw0 (f := 10) 8 (by kernel_rfl) (by kernel_rfl) fun w S => ?_
 refine S.hq 0 [0] [] [(8, .v (GT.val b pb))] .nil fun ac S => ?_
 refine S.hq 1 [1] [] [(9, .v (I g))] .nil fun ac S => ?_
 refine S.hq 2 [2] [] [(10, .v (I page))] (.cons (Q_el1 o3.rn (t := 3) (k := 0) (Nat.succ_pos 0) rfl (by kernel_rfl)) .nil) fun ac S => ?_
 refine S.hq 4 [4] [] [(12, .v (.func (.func 155) #[] #[pt (cap1 b1 () : LP Int).1.b ((cap1 b1 () : LP Int).1.off + 0 * 1)]))] .nil fun ac S => ?_
 refine S.sq 3 [] [(11, .v (B (f_within page 0 (4 - 1))))] 2 [] (.cons (Q_call fun w hw => c_impl_has w page 4 (by omega)) .nil) fun ac w β S => ?_
 refine WD.one (i := 5) (by kernel_rfl) ?_
 refine id (S.call2 (r := (f_changed b g (f_within page 0 (4 - 1)) (fun x => ({ x with live := f_withSlot x.live page (f_slotAt x.written page) } : TGuest))).1) (r' := (f_changed b g (f_within page 0 (4 - 1)) (fun x => ({ x with live := f_withSlot x.live page (f_slotAt x.written page) } : TGuest))).2) (d := 13) (c_impl_changed_impl_BareFlush_1 w b pb (S.rd (S.arg hb)) g (f_within page 0 (4 - 1)) page (cap1 b1 () : LP Int) (S.rd o3.rn)) (by kernel_rfl) rfl fun ac w N q5 q6 F7 F8 S up o9 o10 d11 d12 d13 => ?_)
 refine WD.next S up (by kernel_rfl) ?_
 clear up d11
 clear d12
 refine S.hq 6 [6] [] [(14, .v (GT.val (f_changed b g (f_within page 0 (4 - 1)) (fun x => ({ x with live := f_withSlot x.live page (f_slotAt x.written page) } : TGuest))).1 q5))] .nil fun ac S => ?_
 refine S.hq 7 [7] [] [(15, .v (B (f_changed b g (f_within page 0 (4 - 1)) (fun x => ({ x with live := f_withSlot x.live page (f_slotAt x.written page) } : TGuest))).2))] .nil fun ac S => ?_
 refine S.sl 8 [] [] 2 [(1, GT.cells (f_changed b g (f_within page 0 (4 - 1)) (fun x => ({ x with live := f_withSlot x.live page (f_slotAt x.written page) } : TGuest))).1 q5)] .nil fun ac w β S => ?_
 refine S.sl 9 [] [(7, .v (B (f_changed b g (f_within page 0 (4 - 1)) (fun x => ({ x with live := f_withSlot x.live page (f_slotAt x.written page) } : TGuest))).2))] 2 [] .nil fun ac w β S => ?_
 refine WD.done (by kernel_rfl) ?_ _
 refine S.ex fun S => ?_
 refine S.gr 2 .nil [GT.val (f_changed b g (f_within page 0 (4 - 1)) (fun x => ({ x with live := f_withSlot x.live page (f_slotAt x.written page) } : TGuest))).1 q5, B (f_changed b g (f_within page 0 (4 - 1)) (fun x => ({ x with live := f_withSlot x.live page (f_slotAt x.written page) } : TGuest))).2] fun ac w β S => ?_
 exact ret2_of (p' := ()) S (show (f_bareFlush b g page).1 = (f_changed b g (f_within page 0 (4 - 1)) (fun x => ({ x with live := f_withSlot x.live page (f_slotAt x.written page) } : TGuest))).1 by clear S; rfl) (show (f_bareFlush b g page).2 = (f_changed b g (f_within page 0 (4 - 1)) (fun x => ({ x with live := f_withSlot x.live page (f_slotAt x.written page) } : TGuest))).2 by clear S; rfl) rfl rfl o9 trivial

theorem c_impl_ExitOf (w0 : World) (b : TBare) (pb : PBare) (hb : RD w0 b pb) (g : Int) : Calls Tryz.prog 157 [GT.val b pb, I g].toArray w0 (fun e w' => e = .returned (GT.val (f_exitOf b g) ()) ∧ Chg NoB w0 w') := by
 refine Calls.run NoB Tryz.func157 ?_
 intro ac β S
 have hleb_mem : b.mem.length ≤ 4194304 := LRd.le (RBare.mem (d := b) hb)
 have hleb_guests : b.guests.length ≤ 4194304 := LRd.le (RBare.guests (d := b) hb)
 have hleb_outs : b.outs.length ≤ 4194304 := LRd.le (RBare.outs (d := b) hb)
 refine S.go 10 .nil fun ac w β S => S.K2 (r := (f_guestAt b g).1) (r' := (f_guestAt b g).2) (d := 10) (c_impl_GuestAt w b pb (S.rd (S.arg hb)) g) fun ac w N q1 q2 F3 F4 S up o5 o6 d7 d8 d9 => ?_
 clear up d7
 clear d8
 exact S.gf 16 .nil [GT.val (f_guestAt b g).1.exit ()] (retV (p := ()) (by clear S; rfl))

theorem k0_impl_BareAnswer {p : Prop} (h : p := by clear S; (first | rfl | (unfold f_bareAnswer; simp [*]; done))) : p := h
theorem c_impl_BareAnswer (w0 : World) (b : TBare) (pb : PBare) (hb : RD w0 b pb) (g : Int) (v : Int) (hv : In64 v) : Calls Tryz.prog 86 [GT.val b pb, I g, I v].toArray w0 (Ret2 NoB w0 ((f_bareAnswer b g v).1 : TBare) ((f_bareAnswer b g v).2 : Bool)) := by
 refine Calls.run NoB Tryz.func86 ?_
 intro ac β S
 have hleb_mem : b.mem.length ≤ 4194304 := LRd.le (RBare.mem (d := b) hb)
 have hleb_guests : b.guests.length ≤ 4194304 := LRd.le (RBare.guests (d := b) hb)
 have hleb_outs : b.outs.length ≤ 4194304 := LRd.le (RBare.outs (d := b) hb)
 have hlov := hv.lo; have hhiv := hv.hi
 refine S.go 19 (.cons (Q_call fun w hw => c_impl_ExitOf w b pb (rd_of (S.arg hb) hw) g) .nil) fun ac w β S => ?_
 refine S.Frz 3 (f_exitOf b g).kind () (RExit.kind (d := (f_exitOf b g)) (exitOf_r (S.arg hb) g)) fun β N b1 F2 S up o3 d4 => ?_
 clear up d4
 refine S.Frz 1 v () hv fun β N b5 F6 S up o7 d8 => ?_
 replace o3 := o3.up up
 clear up d8
 refine drw ?_
 rcases Bool.eq_false_or_eq_true ((f_exitOf b g).kind == 2) with h10 | h10
 ·have g11 : (f_exitOf b g).kind = 2 := eq_of_beq h10
  let σ12 : Sy := ⟨[(1, .v (I g)), (3, .p 0 0), (5, .v (pt (cap1 b5 () : LP Int).1.b ((cap1 b5 () : LP Int).1.off + 0 * 1))), (6, .p 1 0), (8, .v (pt (cap1 b1 () : LP Int).1.b ((cap1 b1 () : LP Int).1.off + 0 * 1)))], [GT.cells b pb, Zc TBare]⟩
  obtain ⟨u0, N0, β0, S, o3, o7⟩ : ∃ u0 N0 β0, St Tryz.prog Tryz.f86.ntmps w0 NoB u0 N0 β0 σ12 ac w ∧ Ow w0 NoB u0 N0 F2 ([(f_exitOf b g).kind]) (cap1 b1 () : LP Int) ∧ Ow w0 NoB u0 N0 F6 ([v]) (cap1 b5 () : LP Int) := ⟨_, _, _, S.z, o3, o7⟩
  refine wp_region_cut (fun ac w => ∃ q31 F32 u N β, St Tryz.prog Tryz.f86.ntmps w0 NoB u N β (σ12.dl [1, 3, 5, 8] [(7, .v (B (f_changed b g (f_within v 0 99) (fun x => (f_answer (f_exitOf b g).kind v x))).2))] 2 [(1, GT.cells (f_changed b g (f_within v 0 99) (fun x => (f_answer (f_exitOf b g).kind v x))).1 q31)]) ac w ∧ Ow w0 NoB u N F32 (f_changed b g (f_within v 0 99) (fun x => (f_answer (f_exitOf b g).kind v x))).1 q31) ?_ ?_
  ·refine S.draw0 (f := 18) 16 (by kernel_rfl) (by kernel_rfl) fun w S => ?_
   refine S.hq 0 [0] [] [(13, .v (GT.val b pb))] .nil fun ac S => ?_
   refine S.hq 1 [1] [] [(14, .v (I g))] .nil fun ac S => ?_
   refine S.hq 2 [2] [] [(15, .v (I (f_exitOf b g).kind))] (.cons (Q_el1 o3.rn (t := 3) (k := 0) (Nat.succ_pos 0) rfl (by kernel_rfl)) .nil) fun ac S => ?_
   refine S.hq 3 [3] [] [(16, .v (B ((f_exitOf b g).kind == 2)))] .nil fun ac S => ?_
   refine S.hq 12 [12] [] [(25, .v (.func (.func 158) #[] #[pt (cap1 b1 () : LP Int).1.b ((cap1 b1 () : LP Int).1.off + 0 * 1), pt (cap1 b5 () : LP Int).1.b ((cap1 b5 () : LP Int).1.off + 0 * 1)]))] .nil fun ac S => ?_
   refine WD.nameW fun W hW => ?_
   refine WD.castW (l' := mkL 18 [0, 1, 2, 3, 12]) (by kernel_rfl) ?_
   have hK33 ac w q31 F32 u N β (S : St Tryz.prog Tryz.f86.ntmps w0 NoB u N β (σ12.dl [1, 3, 5, 8] [(7, .v (B (f_changed b g (f_within v 0 99) (fun x => (f_answer (f_exitOf b g).kind v x))).2))] 2 [(1, GT.cells (f_changed b g (f_within v 0 99) (fun x => (f_answer (f_exitOf b g).kind v x))).1 q31)]) ac w) (o30 : Ow w0 NoB u N F32 (f_changed b g (f_within v 0 99) (fun x => (f_answer (f_exitOf b g).kind v x))).1 q31) : W 0 (mkL 18 [0, 1, 2, 3, 4, 5, 6, 7, 8, 9, 10, 11, 12, 13, 14, 15, 16, 17]) ac w := by
    exact od hW ⟨rfl, q31, F32, _, _, _, S.z, o30⟩
   have hK34 ac w q28 F29 u N β (S : St Tryz.prog Tryz.f86.ntmps w0 NoB u N β (σ12.dl [1, 3, 5, 8] [(27, .v (GT.val (f_changed b g (f_within v 0 99) (fun x => (f_answer (f_exitOf b g).kind v x))).1 q28)), (28, .v (B (f_changed b g (f_within v 0 99) (fun x => (f_answer (f_exitOf b g).kind v x))).2))] 2 []) ac w) (o27 : Ow w0 NoB u N F29 (f_changed b g (f_within v 0 99) (fun x => (f_answer (f_exitOf b g).kind v x))).1 q28) (hNN : NN N0 u0 N u) (hBB : BB σ12.bx.length β0 β) : W 2 (mkL 18 [0, 1, 2, 3, 4, 5, 6, 7, 8, 9, 10, 11, 12, 13, 14, 15]) ac w := by
    exact ox1 hW 16 (S.wl hW [17] .nil fun _ _ _ S => hK33 _ _ q28 F29 _ _ _ S o27)
   have hK35 ac w u N β (S : St Tryz.prog Tryz.f86.ntmps w0 NoB u N β (σ12.dl [1, 3, 5, 8] [(13, .v (GT.val b pb)), (14, .v (I g)), (24, .v (B (f_within v 0 99))), (25, .v (.func (.func 158) #[] #[pt (cap1 b1 () : LP Int).1.b ((cap1 b1 () : LP Int).1.off + 0 * 1), pt (cap1 b5 () : LP Int).1.b ((cap1 b5 () : LP Int).1.off + 0 * 1)]))] 2 []) ac w) (o3 : Ow w0 NoB u N F2 ([(f_exitOf b g).kind]) (cap1 b1 () : LP Int)) (o7 : Ow w0 NoB u N F6 ([v]) (cap1 b5 () : LP Int)) (hNN : NN N0 u0 N u) (hBB : BB σ12.bx.length β0 β) : W 5 (mkL 18 [0, 1, 2, 3, 4, 5, 6, 7, 8, 9, 10, 11, 12]) ac w := by
    refine ox1 hW 13 ?_
    refine id (S.call2 (r := (f_changed b g (f_within v 0 99) (fun x => (f_answer (f_exitOf b g).kind v x))).1) (r' := (f_changed b g (f_within v 0 99) (fun x => (f_answer (f_exitOf b g).kind v x))).2) (d := 26) (c_impl_changed_impl_BareAnswer_1 w b pb (S.rd (S.arg hb)) g (f_within v 0 99) (f_exitOf b g).kind (cap1 b1 () : LP Int) (S.rd o3.rn) v (cap1 b5 () : LP Int) (S.rd o7.rn)) (by kernel_rfl) rfl fun ac w N q36 q37 F38 F39 S up o40 o41 d42 d43 d44 => ?_)
    have hb45 := fun b h => (⟨(up b (hNN b h).1).1, (up b (hNN b h).1).2.trans (hNN b h).2⟩ : _ ∧ _)
    refine WD.sc S hb45 hBB fun hC => ?_
    replace o3 := o3.up up
    replace o7 := o7.up up
    clear up d42
    clear d43
    exact S.wh hW [14, 15] hC fun _ S => hK34 _ _ q36 F38 _ _ _ S o40 hb45 hBB
   have hK50 ac w u N β (S : St Tryz.prog Tryz.f86.ntmps w0 NoB u N β (σ12.dl [1, 3, 5, 8] [(13, .v (GT.val b pb)), (14, .v (I g)), (21, .v (B true)), (22, .v (I v)), (25, .v (.func (.func 158) #[] #[pt (cap1 b1 () : LP Int).1.b ((cap1 b1 () : LP Int).1.off + 0 * 1), pt (cap1 b5 () : LP Int).1.b ((cap1 b5 () : LP Int).1.off + 0 * 1)]))] 2 []) ac w) (o3 : Ow w0 NoB u N F2 ([(f_exitOf b g).kind]) (cap1 b1 () : LP Int)) (o7 : Ow w0 NoB u N F6 ([v]) (cap1 b5 () : LP Int)) (hNN : NN N0 u0 N u) (hBB : BB σ12.bx.length β0 β) : W 7 (mkL 18 [0, 1, 2, 3, 4, 5, 6, 7, 8, 9, 12]) ac w := by
    exact ox1 hW 10 (S.wq hW hNN hBB [11] (.cons (Q_call fun w hw => c_impl_within w v 0 99) .nil) fun _ _ _ S hB => hK35 _ _ _ _ _ S o3 o7 hNN hB)
   have hK51 ac w u N β (S : St Tryz.prog Tryz.f86.ntmps w0 NoB u N β (σ12.dl [1, 3, 8] [(13, .v (GT.val b pb)), (14, .v (I g)), (21, .v (B true)), (25, .v (.func (.func 158) #[] #[pt (cap1 b1 () : LP Int).1.b ((cap1 b1 () : LP Int).1.off + 0 * 1), pt (cap1 b5 () : LP Int).1.b ((cap1 b5 () : LP Int).1.off + 0 * 1)]))] 2 []) ac w) (o3 : Ow w0 NoB u N F2 ([(f_exitOf b g).kind]) (cap1 b1 () : LP Int)) (o7 : Ow w0 NoB u N F6 ([v]) (cap1 b5 () : LP Int)) (hNN : NN N0 u0 N u) (hBB : BB σ12.bx.length β0 β) : W 8 (mkL 18 [0, 1, 2, 3, 4, 5, 6, 7, 8, 12]) ac w := by
    exact ox1 hW 9 (S.wq hW hNN hBB [] (.cons (Q_el1 o7.rn (t := 3) (k := 0) (Nat.succ_pos 0) rfl (by kernel_rfl)) .nil) fun _ _ _ S hB => hK50 _ _ _ _ _ S o3 o7 hNN hB)
   have hK52 ac w u N β (S : St Tryz.prog Tryz.f86.ntmps w0 NoB u N β (σ12.dl [1, 3] [(13, .v (GT.val b pb)), (14, .v (I g)), (17, .v (B true)), (25, .v (.func (.func 158) #[] #[pt (cap1 b1 () : LP Int).1.b ((cap1 b1 () : LP Int).1.off + 0 * 1), pt (cap1 b5 () : LP Int).1.b ((cap1 b5 () : LP Int).1.off + 0 * 1)]))] 2 []) ac w) (o3 : Ow w0 NoB u N F2 ([(f_exitOf b g).kind]) (cap1 b1 () : LP Int)) (o7 : Ow w0 NoB u N F6 ([v]) (cap1 b5 () : LP Int)) (hNN : NN N0 u0 N u) (hBB : BB σ12.bx.length β0 β) : W 12 (mkL 18 [0, 1, 2, 3, 4, 12]) ac w := by
    exact ox1 hW 5 (S.wq hW hNN hBB [6, 7, 8] .nil fun _ _ _ S hB => hK51 _ _ _ _ _ S o3 o7 hNN hB)
   rw [hW]
   exact S.who hW [4] [(4, true)] (fun _ => S.rcx) (.cons h10 .nil) fun _ S => hK52 _ _ _ _ _ S o3 o7 (fun _ h => ⟨h, rfl⟩) (fun _ _ => rfl)
  clear S o3 o7
  rintro ac w ⟨q31, F32, u, N, β, S, o30⟩
  refine S.ex fun S => ?_
  refine S.gr 2 .nil [GT.val (f_changed b g (f_within v 0 99) (fun x => (f_answer (f_exitOf b g).kind v x))).1 q31, B (f_changed b g (f_within v 0 99) (fun x => (f_answer (f_exitOf b g).kind v x))).2] fun ac w β S => ?_
  exact ret2_of (p' := ()) S (show (f_bareAnswer b g v).1 = (f_changed b g (f_within v 0 99) (fun x => (f_answer (f_exitOf b g).kind v x))).1 from k0_impl_BareAnswer) (show (f_bareAnswer b g v).2 = (f_changed b g (f_within v 0 99) (fun x => (f_answer (f_exitOf b g).kind v x))).2 from k0_impl_BareAnswer) rfl rfl o30 trivial
 ·have g53 : ¬ ((f_exitOf b g).kind = 2) := ne_of_beq_false h10
  rcases Bool.eq_false_or_eq_true ((f_exitOf b g).kind == 3) with h54 | h54
  ·have g55 : (f_exitOf b g).kind = 3 := eq_of_beq h54
   let σ56 : Sy := ⟨[(1, .v (I g)), (3, .p 0 0), (5, .v (pt (cap1 b5 () : LP Int).1.b ((cap1 b5 () : LP Int).1.off + 0 * 1))), (6, .p 1 0), (8, .v (pt (cap1 b1 () : LP Int).1.b ((cap1 b1 () : LP Int).1.off + 0 * 1)))], [GT.cells b pb, Zc TBare]⟩
   obtain ⟨u0, N0, β0, S, o3, o7⟩ : ∃ u0 N0 β0, St Tryz.prog Tryz.f86.ntmps w0 NoB u0 N0 β0 σ56 ac w ∧ Ow w0 NoB u0 N0 F2 ([(f_exitOf b g).kind]) (cap1 b1 () : LP Int) ∧ Ow w0 NoB u0 N0 F6 ([v]) (cap1 b5 () : LP Int) := ⟨_, _, _, S.z, o3, o7⟩
   refine wp_region_cut (fun ac w => ∃ q75 F76 u N β, St Tryz.prog Tryz.f86.ntmps w0 NoB u N β (σ56.dl [1, 3, 5, 8] [(7, .v (B (f_changed b g (f_within v 0 99) (fun x => (f_answer (f_exitOf b g).kind v x))).2))] 2 [(1, GT.cells (f_changed b g (f_within v 0 99) (fun x => (f_answer (f_exitOf b g).kind v x))).1 q75)]) ac w ∧ Ow w0 NoB u N F76 (f_changed b g (f_within v 0 99) (fun x => (f_answer (f_exitOf b g).kind v x))).1 q75) ?_ ?_
   ·refine S.draw0 (f := 18) 16 (by kernel_rfl) (by kernel_rfl) fun w S => ?_
    refine S.hq 0 [0] [] [(13, .v (GT.val b pb))] .nil fun ac S => ?_
    refine S.hq 1 [1] [] [(14, .v (I g))] .nil fun ac S => ?_
    refine S.hq 2 [2] [] [(15, .v (I (f_exitOf b g).kind))] (.cons (Q_el1 o3.rn (t := 3) (k := 0) (Nat.succ_pos 0) rfl (by kernel_rfl)) .nil) fun ac S => ?_
    refine S.hq 3 [3] [] [(16, .v (B ((f_exitOf b g).kind == 2)))] .nil fun ac S => ?_
    refine S.hq 12 [12] [] [(25, .v (.func (.func 158) #[] #[pt (cap1 b1 () : LP Int).1.b ((cap1 b1 () : LP Int).1.off + 0 * 1), pt (cap1 b5 () : LP Int).1.b ((cap1 b5 () : LP Int).1.off + 0 * 1)]))] .nil fun ac S => ?_
    refine WD.nameW fun W hW => ?_
    refine WD.castW (l' := mkL 18 [0, 1, 2, 3, 12]) (by kernel_rfl) ?_
    have hK77 ac w q75 F76 u N β (S : St Tryz.prog Tryz.f86.ntmps w0 NoB u N β (σ56.dl [1, 3, 5, 8] [(7, .v (B (f_changed b g (f_within v 0 99) (fun x => (f_answer (f_exitOf b g).kind v x))).2))] 2 [(1, GT.cells (f_changed b g (f_within v 0 99) (fun x => (f_answer (f_exitOf b g).kind v x))).1 q75)]) ac w) (o74 : Ow w0 NoB u N F76 (f_changed b g (f_within v 0 99) (fun x => (f_answer (f_exitOf b g).kind v x))).1 q75) : W 0 (mkL 18 [0, 1, 2, 3, 4, 5, 6, 7, 8, 9, 10, 11, 12, 13, 14, 15, 16, 17]) ac w := by
     exact od hW ⟨rfl, q75, F76, _, _, _, S.z, o74⟩
    have hK78 ac w q72 F73 u N β (S : St Tryz.prog Tryz.f86.ntmps w0 NoB u N β (σ56.dl [1, 3, 5, 8] [(27, .v (GT.val (f_changed b g (f_within v 0 99) (fun x => (f_answer (f_exitOf b g).kind v x))).1 q72)), (28, .v (B (f_changed b g (f_within v 0 99) (fun x => (f_answer (f_exitOf b g).kind v x))).2))] 2 []) ac w) (o71 : Ow w0 NoB u N F73 (f_changed b g (f_within v 0 99) (fun x => (f_answer (f_exitOf b g).kind v x))).1 q72) (hNN : NN N0 u0 N u) (hBB : BB σ56.bx.length β0 β) : W 2 (mkL 18 [0, 1, 2, 3, 4, 5, 6, 7, 8, 9, 10, 11, 12, 13, 14, 15]) ac w := by
     exact ox1 hW 16 (S.wl hW [17] .nil fun _ _ _ S => hK77 _ _ q72 F73 _ _ _ S o71)
    have hK79 ac w u N β (S : St Tryz.prog Tryz.f86.ntmps w0 NoB u N β (σ56.dl [1, 3, 5, 8] [(13, .v (GT.val b pb)), (14, .v (I g)), (24, .v (B (f_within v 0 99))), (25, .v (.func (.func 158) #[] #[pt (cap1 b1 () : LP Int).1.b ((cap1 b1 () : LP Int).1.off + 0 * 1), pt (cap1 b5 () : LP Int).1.b ((cap1 b5 () : LP Int).1.off + 0 * 1)]))] 2 []) ac w) (o3 : Ow w0 NoB u N F2 ([(f_exitOf b g).kind]) (cap1 b1 () : LP Int)) (o7 : Ow w0 NoB u N F6 ([v]) (cap1 b5 () : LP Int)) (hNN : NN N0 u0 N u) (hBB : BB σ56.bx.length β0 β) : W 5 (mkL 18 [0, 1, 2, 3, 4, 5, 6, 7, 8, 9, 10, 11, 12]) ac w := by
     refine ox1 hW 13 ?_
     refine id (S.call2 (r := (f_changed b g (f_within v 0 99) (fun x => (f_answer (f_exitOf b g).kind v x))).1) (r' := (f_changed b g (f_within v 0 99) (fun x => (f_answer (f_exitOf b g).kind v x))).2) (d := 26) (c_impl_changed_impl_BareAnswer_1 w b pb (S.rd (S.arg hb)) g (f_within v 0 99) (f_exitOf b g).kind (cap1 b1 () : LP Int) (S.rd o3.rn) v (cap1 b5 () : LP Int) (S.rd o7.rn)) (by kernel_rfl) rfl fun ac w N q80 q81 F82 F83 S up o84 o85 d86 d87 d88 => ?_)
     have hb89 := fun b h => (⟨(up b (hNN b h).1).1, (up b (hNN b h).1).2.trans (hNN b h).2⟩ : _ ∧ _)
     refine WD.sc S hb89 hBB fun hC => ?_
     replace o3 := o3.up up
     replace o7 := o7.up up
     clear up d86
     clear d87
     exact S.wh hW [14, 15] hC fun _ S => hK78 _ _ q80 F82 _ _ _ S o84 hb89 hBB
    have hK94 ac w u N β (S : St Tryz.prog Tryz.f86.ntmps w0 NoB u N β (σ56.dl [1, 3, 5, 8] [(13, .v (GT.val b pb)), (14, .v (I g)), (21, .v (B true)), (22, .v (I v)), (25, .v (.func (.func 158) #[] #[pt (cap1 b1 () : LP Int).1.b ((cap1 b1 () : LP Int).1.off + 0 * 1), pt (cap1 b5 () : LP Int).1.b ((cap1 b5 () : LP Int).1.off + 0 * 1)]))] 2 []) ac w) (o3 : Ow w0 NoB u N F2 ([(f_exitOf b g).kind]) (cap1 b1 () : LP Int)) (o7 : Ow w0 NoB u N F6 ([v]) (cap1 b5 () : LP Int)) (hNN : NN N0 u0 N u) (hBB : BB σ56.bx.length β0 β) : W 7 (mkL 18 [0, 1, 2, 3, 4, 5, 6, 7, 8, 9, 12]) ac w := by
     exact ox1 hW 10 (S.wq hW hNN hBB [11] (.cons (Q_call fun w hw => c_impl_within w v 0 99) .nil) fun _ _ _ S hB => hK79 _ _ _ _ _ S o3 o7 hNN hB)
    have hK95 ac w u N β (S : St Tryz.prog Tryz.f86.ntmps w0 NoB u N β (σ56.dl [1, 3, 8] [(13, .v (GT.val b pb)), (14, .v (I g)), (21, .v (B true)), (25, .v (.func (.func 158) #[] #[pt (cap1 b1 () : LP Int).1.b ((cap1 b1 () : LP Int).1.off + 0 * 1), pt (cap1 b5 () : LP Int).1.b ((cap1 b5 () : LP Int).1.off + 0 * 1)]))] 2 []) ac w) (o3 : Ow w0 NoB u N F2 ([(f_exitOf b g).kind]) (cap1 b1 () : LP Int)) (o7 : Ow w0 NoB u N F6 ([v]) (cap1 b5 () : LP Int)) (hNN : NN N0 u0 N u) (hBB : BB σ56.bx.length β0 β) : W 8 (mkL 18 [0, 1, 2, 3, 4, 5, 6, 7, 8, 12]) ac w := by
     exact ox1 hW 9 (S.wq hW hNN hBB [] (.cons (Q_el1 o7.rn (t := 3) (k := 0) (Nat.succ_pos 0) rfl (by kernel_rfl)) .nil) fun _ _ _ S hB => hK94 _ _ _ _ _ S o3 o7 hNN hB)
    have hK96 ac w u N β (S : St Tryz.prog Tryz.f86.ntmps w0 NoB u N β (σ56.dl [1, 3] [(13, .v (GT.val b pb)), (14, .v (I g)), (17, .v (B false)), (25, .v (.func (.func 158) #[] #[pt (cap1 b1 () : LP Int).1.b ((cap1 b1 () : LP Int).1.off + 0 * 1), pt (cap1 b5 () : LP Int).1.b ((cap1 b5 () : LP Int).1.off + 0 * 1)]))] 2 []) ac w) (o3 : Ow w0 NoB u N F2 ([(f_exitOf b g).kind]) (cap1 b1 () : LP Int)) (o7 : Ow w0 NoB u N F6 ([v]) (cap1 b5 () : LP Int)) (hNN : NN N0 u0 N u) (hBB : BB σ56.bx.length β0 β) : W 12 (mkL 18 [0, 1, 2, 3, 4, 12]) ac w := by
     exact ox1 hW 5 (S.wqo hW hNN hBB [6, 7, 8] [(8, true)] (.cons (Q_el1 o3.rn (t := 3) (k := 0) (Nat.succ_pos 0) rfl (by kernel_rfl)) .nil) (.cons h54 .nil) fun _ _ _ S hB => hK95 _ _ _ _ _ S o3 o7 hNN hB)
    rw [hW]
    exact S.who hW [4] [(4, false)] (fun _ => S.rcx) (.cons h10 .nil) fun _ S => hK96 _ _ _ _ _ S o3 o7 (fun _ h => ⟨h, rfl⟩) (fun _ _ => rfl)
   clear S o3 o7
   rintro ac w ⟨q75, F76, u, N, β, S, o74⟩
   refine S.ex fun S => ?_
   refine S.gr 2 .nil [GT.val (f_changed b g (f_within v 0 99) (fun x => (f_answer (f_exitOf b g).kind v x))).1 q75, B (f_changed b g (f_within v 0 99) (fun x => (f_answer (f_exitOf b g).kind v x))).2] fun ac w β S => ?_
   exact ret2_of (p' := ()) S (show (f_bareAnswer b g v).1 = (f_changed b g (f_within v 0 99) (fun x => (f_answer (f_exitOf b g).kind v x))).1 from k0_impl_BareAnswer) (show (f_bareAnswer b g v).2 = (f_changed b g (f_within v 0 99) (fun x => (f_answer (f_exitOf b g).kind v x))).2 from k0_impl_BareAnswer) rfl rfl o74 trivial
  ·have g97 : ¬ ((f_exitOf b g).kind = 3) := ne_of_beq_false h54
   let σ98 : Sy := ⟨[(1, .v (I g)), (3, .p 0 0), (5, .v (pt (cap1 b5 () : LP Int).1.b ((cap1 b5 () : LP Int).1.off + 0 * 1))), (6, .p 1 0), (8, .v (pt (cap1 b1 () : LP Int).1.b ((cap1 b1 () : LP Int).1.off + 0 * 1)))], [GT.cells b pb, Zc TBare]⟩
   obtain ⟨u0, N0, β0, S, o3, o7⟩ : ∃ u0 N0 β0, St Tryz.prog Tryz.f86.ntmps w0 NoB u0 N0 β0 σ98 ac w ∧ Ow w0 NoB u0 N0 F2 ([(f_exitOf b g).kind]) (cap1 b1 () : LP Int) ∧ Ow w0 NoB u0 N0 F6 ([v]) (cap1 b5 () : LP Int) := ⟨_, _, _, S.z, o3, o7⟩
   refine wp_region_cut (fun ac w => ∃ q117 F118 u N β, St Tryz.prog Tryz.f86.ntmps w0 NoB u N β (σ98.dl [1, 3, 5, 8] [(7, .v (B (f_changed b g false (fun x => (f_answer (f_exitOf b g).kind v x))).2))] 2 [(1, GT.cells (f_changed b g false (fun x => (f_answer (f_exitOf b g).kind v x))).1 q117)]) ac w ∧ Ow w0 NoB u N F118 (f_changed b g false (fun x => (f_answer (f_exitOf b g).kind v x))).1 q117) ?_ ?_
   ·refine S.draw0 (f := 18) 16 (by kernel_rfl) (by kernel_rfl) fun w S => ?_
    refine S.hq 0 [0] [] [(13, .v (GT.val b pb))] .nil fun ac S => ?_
    refine S.hq 1 [1] [] [(14, .v (I g))] .nil fun ac S => ?_
    refine S.hq 2 [2] [] [(15, .v (I (f_exitOf b g).kind))] (.cons (Q_el1 o3.rn (t := 3) (k := 0) (Nat.succ_pos 0) rfl (by kernel_rfl)) .nil) fun ac S => ?_
    refine S.hq 3 [3] [] [(16, .v (B ((f_exitOf b g).kind == 2)))] .nil fun ac S => ?_
    refine S.hq 12 [12] [] [(25, .v (.func (.func 158) #[] #[pt (cap1 b1 () : LP Int).1.b ((cap1 b1 () : LP Int).1.off + 0 * 1), pt (cap1 b5 () : LP Int).1.b ((cap1 b5 () : LP Int).1.off + 0 * 1)]))] .nil fun ac S => ?_
    refine WD.nameW fun W hW => ?_
    refine WD.castW (l' := mkL 18 [0, 1, 2, 3, 12]) (by kernel_rfl) ?_
    have hK119 ac w q117 F118 u N β (S : St Tryz.prog Tryz.f86.ntmps w0 NoB u N β (σ98.dl [1, 3, 5, 8] [(7, .v (B (f_changed b g false (fun x => (f_answer (f_exitOf b g).kind v x))).2))] 2 [(1, GT.cells (f_changed b g false (fun x => (f_answer (f_exitOf b g).kind v x))).1 q117)]) ac w) (o116 : Ow w0 NoB u N F118 (f_changed b g false (fun x => (f_answer (f_exitOf b g).kind v x))).1 q117) : W 0 (mkL 18 [0, 1, 2, 3, 4, 5, 6, 7, 8, 9, 10, 11, 12, 13, 14, 15, 16, 17]) ac w := by
     exact od hW ⟨rfl, q117, F118, _, _, _, S.z, o116⟩
    have hK120 ac w q114 F115 u N β (S : St Tryz.prog Tryz.f86.ntmps w0 NoB u N β (σ98.dl [1, 3, 5, 8] [(27, .v (GT.val (f_changed b g false (fun x => (f_answer (f_exitOf b g).kind v x))).1 q114)), (28, .v (B (f_changed b g false (fun x => (f_answer (f_exitOf b g).kind v x))).2))] 2 []) ac w) (o113 : Ow w0 NoB u N F115 (f_changed b g false (fun x => (f_answer (f_exitOf b g).kind v x))).1 q114) (hNN : NN N0 u0 N u) (hBB : BB σ98.bx.length β0 β) : W 2 (mkL 18 [0, 1, 2, 3, 4, 5, 6, 7, 8, 9, 10, 11, 12, 13, 14, 15]) ac w := by
     exact ox1 hW 16 (S.wl hW [17] .nil fun _ _ _ S => hK119 _ _ q114 F115 _ _ _ S o113)
    have hK121 ac w u N β (S : St Tryz.prog Tryz.f86.ntmps w0 NoB u N β (σ98.dl [1, 3, 5, 8] [(13, .v (GT.val b pb)), (14, .v (I g)), (24, .v (B false)), (25, .v (.func (.func 158) #[] #[pt (cap1 b1 () : LP Int).1.b ((cap1 b1 () : LP Int).1.off + 0 * 1), pt (cap1 b5 () : LP Int).1.b ((cap1 b5 () : LP Int).1.off + 0 * 1)]))] 2 []) ac w) (o3 : Ow w0 NoB u N F2 ([(f_exitOf b g).kind]) (cap1 b1 () : LP Int)) (o7 : Ow w0 NoB u N F6 ([v]) (cap1 b5 () : LP Int)) (hNN : NN N0 u0 N u) (hBB : BB σ98.bx.length β0 β) : W 5 (mkL 18 [0, 1, 2, 3, 4, 5, 6, 7, 8, 9, 10, 11, 12]) ac w := by
     refine ox1 hW 13 ?_
     refine id (S.call2 (r := (f_changed b g false (fun x => (f_answer (f_exitOf b g).kind v x))).1) (r' := (f_changed b g false (fun x => (f_answer (f_exitOf b g).kind v x))).2) (d := 26) (c_impl_changed_impl_BareAnswer_1 w b pb (S.rd (S.arg hb)) g false (f_exitOf b g).kind (cap1 b1 () : LP Int) (S.rd o3.rn) v (cap1 b5 () : LP Int) (S.rd o7.rn)) (by kernel_rfl) rfl fun ac w N q122 q123 F124 F125 S up o126 o127 d128 d129 d130 => ?_)
     have hb131 := fun b h => (⟨(up b (hNN b h).1).1, (up b (hNN b h).1).2.trans (hNN b h).2⟩ : _ ∧ _)
     refine WD.sc S hb131 hBB fun hC => ?_
     replace o3 := o3.up up
     replace o7 := o7.up up
     clear up d128
     clear d129
     exact S.wh hW [14, 15] hC fun _ S => hK120 _ _ q122 F124 _ _ _ S o126 hb131 hBB
    have hK136 ac w u N β (S : St Tryz.prog Tryz.f86.ntmps w0 NoB u N β (σ98.dl [1, 3, 5, 8] [(13, .v (GT.val b pb)), (14, .v (I g)), (21, .v (B false)), (22, .v undef), (25, .v (.func (.func 158) #[] #[pt (cap1 b1 () : LP Int).1.b ((cap1 b1 () : LP Int).1.off + 0 * 1), pt (cap1 b5 () : LP Int).1.b ((cap1 b5 () : LP Int).1.off + 0 * 1)]))] 2 []) ac w) (o3 : Ow w0 NoB u N F2 ([(f_exitOf b g).kind]) (cap1 b1 () : LP Int)) (o7 : Ow w0 NoB u N F6 ([v]) (cap1 b5 () : LP Int)) (hNN : NN N0 u0 N u) (hBB : BB σ98.bx.length β0 β) : W 7 (mkL 18 [0, 1, 2, 3, 4, 5, 6, 7, 8, 9, 12]) ac w := by
     exact ox1 hW 10 (S.wq hW hNN hBB [11] .nil fun _ _ _ S hB => hK121 _ _ _ _ _ S o3 o7 hNN hB)
    have hK137 ac w u N β (S : St Tryz.prog Tryz.f86.ntmps w0 NoB u N β (σ98.dl [1, 3, 8] [(13, .v (GT.val b pb)), (14, .v (I g)), (21, .v (B false)), (25, .v (.func (.func 158) #[] #[pt (cap1 b1 () : LP Int).1.b ((cap1 b1 () : LP Int).1.off + 0 * 1), pt (cap1 b5 () : LP Int).1.b ((cap1 b5 () : LP Int).1.off + 0 * 1)]))] 2 []) ac w) (o3 : Ow w0 NoB u N F2 ([(f_exitOf b g).kind]) (cap1 b1 () : LP Int)) (o7 : Ow w0 NoB u N F6 ([v]) (cap1 b5 () : LP Int)) (hNN : NN N0 u0 N u) (hBB : BB σ98.bx.length β0 β) : W 8 (mkL 18 [0, 1, 2, 3, 4, 5, 6, 7, 8, 12]) ac w := by
     exact ox1 hW 9 (S.wq hW hNN hBB [] .nil fun _ _ _ S hB => hK136 _ _ _ _ _ S o3 o7 hNN hB)
    have hK138 ac w u N β (S : St Tryz.prog Tryz.f86.ntmps w0 NoB u N β (σ98.dl [1, 3] [(13, .v (GT.val b pb)), (14, .v (I g)), (17, .v (B false)), (25, .v (.func (.func 158) #[] #[pt (cap1 b1 () : LP Int).1.b ((cap1 b1 () : LP Int).1.off + 0 * 1), pt (cap1 b5 () : LP Int).1.b ((cap1 b5 () : LP Int).1.off + 0 * 1)]))] 2 []) ac w) (o3 : Ow w0 NoB u N F2 ([(f_exitOf b g).kind]) (cap1 b1 () : LP Int)) (o7 : Ow w0 NoB u N F6 ([v]) (cap1 b5 () : LP Int)) (hNN : NN N0 u0 N u) (hBB : BB σ98.bx.length β0 β) : W 12 (mkL 18 [0, 1, 2, 3, 4, 12]) ac w := by
     exact ox1 hW 5 (S.wqo hW hNN hBB [6, 7, 8] [(8, false)] (.cons (Q_el1 o3.rn (t := 3) (k := 0) (Nat.succ_pos 0) rfl (by kernel_rfl)) .nil) (.cons h54 .nil) fun _ _ _ S hB => hK137 _ _ _ _ _ S o3 o7 hNN hB)
    rw [hW]
    exact S.who hW [4] [(4, false)] (fun _ => S.rcx) (.cons h10 .nil) fun _ S => hK138 _ _ _ _ _ S o3 o7 (fun _ h => ⟨h, rfl⟩) (fun _ _ => rfl)
   clear S o3 o7
   rintro ac w ⟨q117, F118, u, N, β, S, o116⟩
   refine S.ex fun S => ?_
   refine S.gr 2 .nil [GT.val (f_changed b g false (fun x => (f_answer (f_exitOf b g).kind v x))).1 q117, B (f_changed b g false (fun x => (f_answer (f_exitOf b g).kind v x))).2] fun ac w β S => ?_
   exact ret2_of (p' := ()) S (show (f_bareAnswer b g v).1 = (f_changed b g false (fun x => (f_answer (f_exitOf b g).kind v x))).1 from k0_impl_BareAnswer) (show (f_bareAnswer b g v).2 = (f_changed b g false (fun x => (f_answer (f_exitOf b g).kind v x))).2 from k0_impl_BareAnswer) rfl rfl o116 trivial

theorem k0_impl_BareResume {p : Prop} (h : p := by clear S; (first | rfl | (unfold f_bareResume; simp [*]; done))) : p := h
theorem c_impl_BareResume (w0 : World) (b : TBare) (pb : PBare) (hb : RD w0 b pb) (g : Int) : Calls Tryz.prog 87 [GT.val b pb, I g].toArray w0 (Ret2 NoB w0 ((f_bareResume b g).1 : TBare) ((f_bareResume b g).2 : Bool)) := by
 refine Calls.run NoB Tryz.func87 ?_
 intro ac β S
 have hleb_mem : b.mem.length ≤ 4194304 := LRd.le (RBare.mem (d := b) hb)
 have hleb_guests : b.guests.length ≤ 4194304 := LRd.le (RBare.guests (d := b) hb)
 have hleb_outs : b.outs.length ≤ 4194304 := LRd.le (RBare.outs (d := b) hb)
 refine S.go 18 (.cons (Q_call fun w hw => c_impl_ExitOf w b pb (rd_of (S.arg hb) hw) g) .nil) fun ac w β S => ?_
 refine S.Frz 2 (f_exitOf b g).kind () (RExit.kind (d := (f_exitOf b g)) (exitOf_r (S.arg hb) g)) fun β N b1 F2 S up o3 d4 => ?_
 clear up d4
 refine S.gd 6 (.cons (Q_el1 o3.rn (t := 3) (k := 0) (Nat.succ_pos 0) rfl (by kernel_rfl)) .nil) ((f_exitOf b g).kind == 1) (fun ac w β h5 g6 S => ?_) (fun ac w β h5 g6 S => ?_)
 ·refine S.go 4 .nil fun ac w β S => S.K2 (r := (f_changed b g true (fun x => (f_resume (f_exitOf b g).kind x))).1) (r' := (f_changed b g true (fun x => (f_resume (f_exitOf b g).kind x))).2) (d := 20) (c_impl_changed_impl_BareResume_1 w b pb (S.rd (S.arg hb)) g true (f_exitOf b g).kind (cap1 b1 () : LP Int) (S.rd o3.rn)) fun ac w N q7 q8 F9 F10 S up o11 o12 d13 d14 d15 => ?_
  replace o3 := o3.up up
  clear up d13
  clear d14
  refine S.gr 7 .nil [GT.val (f_changed b g true (fun x => (f_resume (f_exitOf b g).kind x))).1 q7, B (f_changed b g true (fun x => (f_resume (f_exitOf b g).kind x))).2] fun ac w β S => ?_
  exact ret2_of (p' := ()) S (show (f_bareResume b g).1 = (f_changed b g true (fun x => (f_resume (f_exitOf b g).kind x))).1 from k0_impl_BareResume) (show (f_bareResume b g).2 = (f_changed b g true (fun x => (f_resume (f_exitOf b g).kind x))).2 from k0_impl_BareResume) rfl rfl o11 trivial
 refine S.go 4 (.cons (Q_el1 o3.rn (t := 3) (k := 0) (Nat.succ_pos 0) rfl (by kernel_rfl)) .nil) fun ac w β S => S.K2 (r := (f_changed b g ((f_exitOf b g).kind == 4) (fun x => (f_resume (f_exitOf b g).kind x))).1) (r' := (f_changed b g ((f_exitOf b g).kind == 4) (fun x => (f_resume (f_exitOf b g).kind x))).2) (d := 20) (c_impl_changed_impl_BareResume_1 w b pb (S.rd (S.arg hb)) g ((f_exitOf b g).kind == 4) (f_exitOf b g).kind (cap1 b1 () : LP Int) (S.rd o3.rn)) fun ac w N q18 q19 F20 F21 S up o22 o23 d24 d25 d26 => ?_
 clear up d24
 clear d25
 refine S.gr 7 .nil [GT.val (f_changed b g ((f_exitOf b g).kind == 4) (fun x => (f_resume (f_exitOf b g).kind x))).1 q18, B (f_changed b g ((f_exitOf b g).kind == 4) (fun x => (f_resume (f_exitOf b g).kind x))).2] fun ac w β S => ?_
 exact ret2_of (p' := ()) S (show (f_bareResume b g).1 = (f_changed b g ((f_exitOf b g).kind == 4) (fun x => (f_resume (f_exitOf b g).kind x))).1 from k0_impl_BareResume) (show (f_bareResume b g).2 = (f_changed b g ((f_exitOf b g).kind == 4) (fun x => (f_resume (f_exitOf b g).kind x))).2 from k0_impl_BareResume) rfl rfl o22 trivial

theorem k0_impl_PostIrq {p : Prop} (h : p := by clear S; (unfold f_postIrq; (repeat' split) <;> first | rfl | (exfalso; omega) | (exfalso; simp_all; done) | (exfalso; simp_all; omega))) : p := h
theorem c_impl_PostIrq (w0 : World) (p : Int) (hp : In64 p) (n : Int) : Calls Tryz.prog 160 [I p, I n].toArray w0 (fun e w' => e = .returned (.tuple #[I (f_postIrq p n).1, B (f_postIrq p n).2]) ∧ Chg NoB w0 w') := by
 refine Calls.run NoB Tryz.func160 ?_
 intro ac β S
 have hlop := hp.lo; have hhip := hp.hi
 refine S.gb 13 (.cons (Q_call fun w hw => c_impl_PendOk w p) .nil) (!(f_within p 0 255)) (fun ac w β h1 S => ?_) (fun ac w β h1 S => ?_)
 ·have h2 := not_t h1
  have g3 := within_f h2
  exact S.gf 15 .nil [I p, B false] (ret2v (eqI (show p = (f_postIrq p n).1 from k0_impl_PostIrq)) (eqB (show false = (f_postIrq p n).2 from k0_impl_PostIrq)))
 have h4 := not_f h1
 have g5 := within_t h4
 refine S.gb 6 (.cons (Q_call fun w hw => c_impl_within w n 0 7) .nil) (!(f_within n 0 7)) (fun ac w β h6 S => ?_) (fun ac w β h6 S => ?_)
 ·have h7 := not_t h6
  have g8 := within_f h7
  exact S.gf 9 .nil [I p, B false] (ret2v (eqI (show p = (f_postIrq p n).1 from k0_impl_PostIrq)) (eqB (show false = (f_postIrq p n).2 from k0_impl_PostIrq)))
 have h9 := not_f h6
 have g10 := within_t h9
 exact S.gf 14 (.cons (Q_shl (yk := .i64) (x := 1) (y := n) (by omega)) (.cons (Q_lor64 (x := p) (y := (shl64 1 n))) .nil)) [I (lor64 p (shl64 1 n)), B true] (ret2v (eqI (show (lor64 p (shl64 1 n)) = (f_postIrq p n).1 from k0_impl_PostIrq)) (eqB (show true = (f_postIrq p n).2 from k0_impl_PostIrq)))

theorem c_impl_BareInject (w0 : World) (b : TBare) (pb : PBare) (hb : RD w0 b pb) (g : Int) (n : Int) : Calls Tryz.prog 88 [GT.val b pb, I g, I n].toArray w0 (Ret2 NoB w0 ((f_bareInject b g n).1 : TBare) ((f_bareInject b g n).2 : Bool)) := by
 refine Calls.run NoB Tryz.func88 ?_
 intro ac β S
 have hleb_mem : b.mem.length ≤ 4194304 := LRd.le (RBare.mem (d := b) hb)
 have hleb_guests : b.guests.length ≤ 4194304 := LRd.le (RBare.guests (d := b) hb)
 have hleb_outs : b.outs.length ≤ 4194304 := LRd.le (RBare.outs (d := b) hb)
 refine S.go 11 .nil fun ac w β S => S.K2 (r := (f_guestAt b g).1) (r' := (f_guestAt b g).2) (d := 15) (c_impl_GuestAt w b pb (S.rd (S.arg hb)) g) fun ac w N q1 q2 F3 F4 S up o5 o6 d7 d8 d9 => ?_
 clear up d7
 clear d8
 refine S.go 23 (.cons (Q_call fun w hw => c_impl_PostIrq w (f_guestAt b g).1.pend (RGuest.pend (d := (f_guestAt b g).1) o5.rn) n) .nil) fun ac w β S => ?_
 refine S.Frz 3 (f_postIrq (f_guestAt b g).1.pend n).1 () (postIrq_in64 (RGuest.pend (d := (f_guestAt b g).1) o5.rn)) fun β N b10 F11 S up o12 d13 => ?_
 clear up d13
 refine S.go 5 .nil fun ac w β S => S.K2 (r := (f_changed b g (f_postIrq (f_guestAt b g).1.pend n).2 (fun x => ({ x with pend := (f_postIrq (f_guestAt b g).1.pend n).1 } : TGuest))).1) (r' := (f_changed b g (f_postIrq (f_guestAt b g).1.pend n).2 (fun x => ({ x with pend := (f_postIrq (f_guestAt b g).1.pend n).1 } : TGuest))).2) (d := 29) (c_impl_changed_impl_BareInject_1 w b pb (S.rd (S.arg hb)) g (f_postIrq (f_guestAt b g).1.pend n).2 (f_postIrq (f_guestAt b g).1.pend n).1 (cap1 b10 () : LP Int) (S.rd o12.rn)) fun ac w N q15 q16 F17 F18 S up o19 o20 d21 d22 d23 => ?_
 clear up d21
 clear d22
 refine S.gr 7 .nil [GT.val (f_changed b g (f_postIrq (f_guestAt b g).1.pend n).2 (fun x => ({ x with pend := (f_postIrq (f_guestAt b g).1.pend n).1 } : TGuest))).1 q15, B (f_changed b g (f_postIrq (f_guestAt b g).1.pend n).2 (fun x => ({ x with pend := (f_postIrq (f_guestAt b g).1.pend n).1 } : TGuest))).2] fun ac w β S => ?_
 exact ret2_of (p' := ()) S (show (f_bareInject b g n).1 = (f_changed b g (f_postIrq (f_guestAt b g).1.pend n).2 (fun x => ({ x with pend := (f_postIrq (f_guestAt b g).1.pend n).1 } : TGuest))).1 by clear S; rfl) (show (f_bareInject b g n).2 = (f_changed b g (f_postIrq (f_guestAt b g).1.pend n).2 (fun x => ({ x with pend := (f_postIrq (f_guestAt b g).1.pend n).1 } : TGuest))).2 by clear S; rfl) rfl rfl o19 trivial

theorem c_impl_CtlOf (w0 : World) (a : TAct) (ha : RAct a) : Calls Tryz.prog 90 [GT.val a ()].toArray w0 (fun e w' => e = .returned (GT.val (f_ctlOf a) ()) ∧ Chg NoB w0 w') := by
 refine Calls.run NoB Tryz.func90 ?_
 intro ac β S
 exact S.gf 20 (.cons (Q_sem (s := Instr.build 59 [(0, I a.x), (1, I a.y), (2, B (a.z == 1))].toArray) (v := .agg [I a.x, I a.y, B (a.z == 1)].toArray) (fun w => by kernel_rfl)) .nil) [GT.val (⟨a.x, a.y, (a.z == 1)⟩ : TCtl) ()] (retV (p := ()) (by clear S; rfl))

theorem c_impl_BareCtl (w0 : World) (b : TBare) (pb : PBare) (hb : RD w0 b pb) (g : Int) (c : TCtl) (hc : RCtl c) : Calls Tryz.prog 89 [GT.val b pb, I g, GT.val c ()].toArray w0 (Ret2 NoB w0 ((f_bareCtl b g c).1 : TBare) ((f_bareCtl b g c).2 : Bool)) := by
 refine Calls.run NoB Tryz.func89 ?_
 intro ac β S
 have hleb_mem : b.mem.length ≤ 4194304 := LRd.le (RBare.mem (d := b) hb)
 have hleb_guests : b.guests.length ≤ 4194304 := LRd.le (RBare.guests (d := b) hb)
 have hleb_outs : b.outs.length ≤ 4194304 := LRd.le (RBare.outs (d := b) hb)
 refine S.go 9 .nil fun ac w β S => ?_
 refine S.Frz 1 c () hc fun β N b1 F2 S up o3 d4 => ?_
 clear up d4
 refine drw ?_
 refine S.draw0 (f := 10) 8 (by kernel_rfl) (by kernel_rfl) fun w S => ?_
 refine S.hq 0 [0] [] [(8, .v (GT.val b pb))] .nil fun ac S => ?_
 refine S.hq 1 [1] [] [(9, .v (I g))] .nil fun ac S => ?_
 refine S.hq 2 [2] [] [(10, .v (GT.val c ()))] (.cons (Q_el o3.rn (t := 59) (k := 0) (Nat.succ_pos 0) rfl (by kernel_rfl) (by kernel_rfl)) .nil) fun ac S => ?_
 refine S.hq 4 [4] [] [(12, .v (.func (.func 163) #[] #[pt (cap1 b1 () : LP TCtl).1.b ((cap1 b1 () : LP TCtl).1.off + 0 * 3)]))] .nil fun ac S => ?_
 refine S.sq 3 [] [(11, .v (B (f_ctlOk c)))] 2 [] (.cons (Q_call fun w hw => c_impl_CtlOk w c) .nil) fun ac w β S => ?_
 refine WD.one (i := 5) (by kernel_rfl) ?_
 refine id (S.call2 (r := (f_changed b g (f_ctlOk c) (fun x => ({ x with ctl := c } : TGuest))).1) (r' := (f_changed b g (f_ctlOk c) (fun x => ({ x with ctl := c } : TGuest))).2) (d := 13) (c_impl_changed_impl_BareCtl_1 w b pb (S.rd (S.arg hb)) g (f_ctlOk c) c (cap1 b1 () : LP TCtl) (S.rd o3.rn)) (by kernel_rfl) rfl fun ac w N q5 q6 F7 F8 S up o9 o10 d11 d12 d13 => ?_)
 refine WD.next S up (by kernel_rfl) ?_
 clear up d11
 clear d12
 refine S.hq 6 [6] [] [(14, .v (GT.val (f_changed b g (f_ctlOk c) (fun x => ({ x with ctl := c } : TGuest))).1 q5))] .nil fun ac S => ?_
 refine S.hq 7 [7] [] [(15, .v (B (f_changed b g (f_ctlOk c) (fun x => ({ x with ctl := c } : TGuest))).2))] .nil fun ac S => ?_
 refine S.sl 8 [] [] 2 [(1, GT.cells (f_changed b g (f_ctlOk c) (fun x => ({ x with ctl := c } : TGuest))).1 q5)] .nil fun ac w β S => ?_
 refine S.sl 9 [] [(7, .v (B (f_changed b g (f_ctlOk c) (fun x => ({ x with ctl := c } : TGuest))).2))] 2 [] .nil fun ac w β S => ?_
 refine WD.done (by kernel_rfl) ?_ _
 refine S.ex fun S => ?_
 refine S.gr 2 .nil [GT.val (f_changed b g (f_ctlOk c) (fun x => ({ x with ctl := c } : TGuest))).1 q5, B (f_changed b g (f_ctlOk c) (fun x => ({ x with ctl := c } : TGuest))).2] fun ac w β S => ?_
 exact ret2_of (p' := ()) S (show (f_bareCtl b g c).1 = (f_changed b g (f_ctlOk c) (fun x => ({ x with ctl := c } : TGuest))).1 by clear S; rfl) (show (f_bareCtl b g c).2 = (f_changed b g (f_ctlOk c) (fun x => ({ x with ctl := c } : TGuest))).2 by clear S; rfl) rfl rfl o9 trivial

theorem k0_impl_BarePoke {p : Prop} (h : p := by clear S; (first | (unfold f_barePoke; (repeat' split) <;> first | rfl | (exfalso; omega) | (exfalso; simp_all; done) | (exfalso; simp_all; omega) | (simp_all; done)))) : p := h
theorem c_impl_BarePoke (w0 : World) (b : TBare) (pb : PBare) (hb : RD w0 b pb) (page : Int) (cell : Int) (v : Int) (hv : In64 v) : Calls Tryz.prog 91 [GT.val b pb, I page, I cell, I v].toArray w0 (Ret2 NoB w0 ((f_barePoke b page cell v).1 : TBare) ((f_barePoke b page cell v).2 : Bool)) := by
 refine Calls.run NoB Tryz.func91 ?_
 intro ac β S
 have hleb_mem : b.mem.length ≤ 4194304 := LRd.le (RBare.mem (d := b) hb)
 have hleb_guests : b.guests.length ≤ 4194304 := LRd.le (RBare.guests (d := b) hb)
 have hleb_outs : b.outs.length ≤ 4194304 := LRd.le (RBare.outs (d := b) hb)
 have hlov := hv.lo; have hhiv := hv.hi
 refine S.go 10 .nil fun ac w β S => S.K1 (r := b) (d := 12) (c_impl_copyBare w b pb (S.rd (S.arg hb))) fun ac w N q1 F2 S up o3 d4 => ?_
 clear up d4
 have i14 : In64 b.pend := RBare.pend (d := b) o3.rn
 obtain ⟨F5, F8, F11, o6, o9, o12, _, _, _, d15, d16, d17⟩ := sp_Bare o3
 refine S.gb 11 (.cons (Q_call fun w hw => c_impl_BareOk w b pb (rd_of (S.arg hb) hw)) .nil) (!(f_bareOk b)) (fun ac w β h18 S => ?_) (fun ac w β h18 S => ?_)
 ·have h19 := not_t h18
  refine S.gr 25 .nil [GT.val b q1, B false] fun ac w β S => ?_
  have o20 := ow_Bare (x := b) (p := q1) o6 o9 o12 d15 d16 d17 i14
  exact ret2_of (p' := ()) S (show (f_barePoke b page cell v).1 = b from k0_impl_BarePoke) (show (f_barePoke b page cell v).2 = false from k0_impl_BarePoke) rfl rfl o20 trivial
 have h21 := not_f h18
 have g22 := bareOk_t h21
 refine S.gb 5 (.cons (Q_call fun w hw => c_impl_has w page 8 (by omega)) .nil) (!(f_within page 0 (8 - 1))) (fun ac w β h23 S => ?_) (fun ac w β h23 S => ?_)
 ·have h24 := not_t h23
  have g25 := within_f h24
  refine S.gr 20 .nil [GT.val b q1, B false] fun ac w β S => ?_
  have o26 := ow_Bare (x := b) (p := q1) o6 o9 o12 d15 d16 d17 i14
  exact ret2_of (p' := ()) S (show (f_barePoke b page cell v).1 = b from k0_impl_BarePoke) (show (f_barePoke b page cell v).2 = false from k0_impl_BarePoke) rfl rfl o26 trivial
 have h27 := not_f h23
 have g28 := within_t h27
 refine S.gb 5 (.cons (Q_call fun w hw => c_impl_has w cell 4 (by omega)) .nil) (!(f_within cell 0 (4 - 1))) (fun ac w β h29 S => ?_) (fun ac w β h29 S => ?_)
 ·have h30 := not_t h29
  have g31 := within_f h30
  refine S.gr 15 .nil [GT.val b q1, B false] fun ac w β S => ?_
  have o32 := ow_Bare (x := b) (p := q1) o6 o9 o12 d15 d16 d17 i14
  exact ret2_of (p' := ()) S (show (f_barePoke b page cell v).1 = b from k0_impl_BarePoke) (show (f_barePoke b page cell v).2 = false from k0_impl_BarePoke) rfl rfl o32 trivial
 have h33 := not_f h29
 have g34 := within_t h33
 refine S.gb 6 (.cons (Q_call fun w hw => c_impl_within w v 0 99) .nil) (!(f_within v 0 99)) (fun ac w β h35 S => ?_) (fun ac w β h35 S => ?_)
 ·have h36 := not_t h35
  have g37 := within_f h36
  refine S.gr 9 .nil [GT.val b q1, B false] fun ac w β S => ?_
  have o38 := ow_Bare (x := b) (p := q1) o6 o9 o12 d15 d16 d17 i14
  exact ret2_of (p' := ()) S (show (f_barePoke b page cell v).1 = b from k0_impl_BarePoke) (show (f_barePoke b page cell v).2 = false from k0_impl_BarePoke) rfl rfl o38 trivial
 have h39 := not_f h35
 have g40 := within_t h39
 refine S.go 10 .nil fun ac w β S => S.K1 (r := f_withCell b.mem page cell v) (d := 37) (c_impl_WithCell w b.mem pb.mem (S.rd (RBare.mem (d := b) (S.arg hb))) page cell v hv) fun ac w N q41 F42 S up o43 d44 => ?_
 have d46 := Disj.w d44 o9.sub
 have d47 := Disj.w d44 o12.sub
 replace o9 := o9.up up
 replace o12 := o12.up up
 clear up d44
 refine S.gr 12 .nil [GT.val (⟨(f_withCell b.mem page cell v), b.guests, b.outs, b.pend⟩ : TBare) (⟨q41, q1.guests, q1.outs⟩ : PBare), B true] fun ac w β S => ?_
 have o48 := ow_Bare (x := (⟨(f_withCell b.mem page cell v), b.guests, b.outs, b.pend⟩ : TBare)) (p := (⟨q41, q1.guests, q1.outs⟩ : PBare)) o43 o9 o12 (Disj.symm d46) (Disj.symm d47) d17 i14
 exact ret2_of (p' := ()) S (show (f_barePoke b page cell v).1 = (⟨(f_withCell b.mem page cell v), b.guests, b.outs, b.pend⟩ : TBare) from k0_impl_BarePoke) (show (f_barePoke b page cell v).2 = true from k0_impl_BarePoke) rfl rfl o48 trivial

theorem k0_impl_Posts {p : Prop} (h : p := by clear S; first | rfl | (simp [f_posts, *]; done) | (simp [f_posts, *]; omega) | (simp_all [f_posts]; done) | (simp_all [f_posts]; omega)) : p := h
theorem c_impl_Posts (w0 : World) (c : TCtl) (n : Int) : Calls Tryz.prog 191 [GT.val c (), I n].toArray w0 (fun e w' => e = .returned (B (f_posts c n)) ∧ Chg NoB w0 w') := by
 refine Calls.run NoB Tryz.func191 ?_
 intro ac β S
 refine S.gb 11 (.cons (Q_call fun w hw => c_impl_CtlOk w c) .nil) (f_ctlOk c) (fun ac w β h1 S => ?_) (fun ac w β h1 S => ?_)
 ·refine S.gb 4 (.cons (Q_call fun w hw => c_impl_within w n 0 7) .nil) (f_within n 0 7) (fun ac w β h2 S => ?_) (fun ac w β h2 S => ?_)
  ·have g3 := within_t h2
   exact S.gf 11 (.cons (Q_shr (yk := .i64) (x := c.post) (y := n) (by omega)) (.cons (Q_land64 (x := (shr64 c.post n)) (y := 1)) .nil)) [B ((land64 (shr64 c.post n) 1) == 1)] (retB k0_impl_Posts)
  have g4 := within_f h2
  exact S.gf 11 .nil [B false] (retB k0_impl_Posts)
 exact S.gf 15 .nil [B false] (retB k0_impl_Posts)

theorem c_impl_PostedTo (w0 : World) (b : TBare) (pb : PBare) (hb : RD w0 b pb) (n : Int) : Calls Tryz.prog 164 [GT.val b pb, I n].toArray w0 (Ret1 NoB w0 (f_postedTo b n : List Int)) := by
 refine Calls.run NoB Tryz.func164 ?_
 intro ac β S
 have hleb_mem : b.mem.length ≤ 4194304 := LRd.le (RBare.mem (d := b) hb)
 have hleb_guests : b.guests.length ≤ 4194304 := LRd.le (RBare.guests (d := b) hb)
 have hleb_outs : b.outs.length ≤ 4194304 := LRd.le (RBare.outs (d := b) hb)
 refine S.go 8 .nil fun ac w β S => S.B0 (α := Int) (d := 8) fun ac w N q1 F2 S up o3 d4 => ?_
 clear up d4
 refine S.go 13 .nil fun ac w β S => ?_
 refine lp (fun mm ac w => ∃ (k : Nat) (acc : List Int) (q5 : _) (F6 : _) (u : _) (N : _) (β : _), mm = b.guests.length - k ∧ (k ≤ b.guests.length) ∧ (acc = f_idx k (fun i => f_posts (el b.guests i).ctl n)) ∧ St Tryz.prog Tryz.f164.ntmps w0 NoB u N β ⟨[(1, .v (I n)), (5, .v (slv acc.length q5.1)), (10, .v (slv b.guests.length pb.guests.1)), (11, .v (I (b.guests.length : Int))), (12, .v (I (k : Int)))], [GT.cells b pb]⟩ ac w ∧ Ow w0 NoB u N F6 acc q5) _ ⟨0, ([] : List Int), q1, F2, _, _, _, rfl, o0, (by rfl), S.z, o3⟩ ?_
 clear S o3
 rintro f8 mm hf9 ac w ⟨k, acc, q5, F6, u, N, β, rfl, hk, hacc, S, o7⟩
 refine S.rs fun S => ?_
 have hlacc : acc.length ≤ k := by rw [hacc]; exact idx_len _ _
 refine S.gd 6 .nil (decide ((k : Int) < (b.guests.length : Int))) (fun ac w β h10 g11 S => ?_) (fun ac w β h10 g11 S => ?_)
 ·refine S.gb 23 (.cons (qn (RBare.guests (d := b) (S.arg hb)) k Tryz.underlying48) (.cons (qs (RBare.guests (d := b) (S.arg hb)) 81 k) (.cons (Q_call fun w hw => c_impl_Posts w (el b.guests k).ctl n) .nil))) (f_posts (el b.guests k).ctl n) (fun ac w β h12 S => ?_) (fun ac w β h12 S => ?_)
  ·refine S.go 4 .nil fun ac w β S => S.B1 (α := Int) (x := (k : Int)) (p := ()) (F := NoB) ⟨by omega, by omega⟩ (fun b h => False.elim h) (fun b h => False.elim h) (d := 23) fun ac w N q13 F14 S up o15 d16 => ?_
   replace o7 := o7.up up
   clear up d16
   refine S.AF (α := Int) o7 o15.rn (fun _ _ h => h) (by' := 8) (d := 24) (lx := acc.length) (ly := 1) rfl rfl (show _ ≤ 4194304 by simp only [List.length_append, List.length_cons, List.length_nil]; omega) fun ac w N q18 F19 S up o20 d21 => ?_
   clear up d21
   refine S.ge 8 (.cons (qp (k : Int) 1) .nil) f8 fun ac w β S => hf9.of (b.guests.length - (k + 1)) _ _ (by omega) ⟨k + 1, (acc ++ [(k : Int)]), q18, F19, _, _, _, rfl, ?_, ?_, S.z, o20⟩
   ·exact oz
   ·clear S; (first | (rw [idx_step_t (by first | assumption | (simp [*]; done) | (simp; omega)), hacc]; done) | (rw [idx_step_f (by first | assumption | (simp [*]; done) | (simp; omega)), hacc]; done) | (rw [idx_step_t (by simp_all <;> fail), hacc]; done) | (rw [idx_step_f (by simp_all <;> fail), hacc]; done))
  refine S.ge 8 (.cons (qp (k : Int) 1) .nil) f8 fun ac w β S => hf9.of (b.guests.length - (k + 1)) _ _ (by omega) ⟨k + 1, acc, q5, F6, _, _, _, rfl, ?_, ?_, S.z, o7⟩
  ·exact oz
  ·clear S; (first | (rw [idx_step_t (by first | assumption | (simp [*]; done) | (simp; omega)), hacc]; done) | (rw [idx_step_f (by first | assumption | (simp [*]; done) | (simp; omega)), hacc]; done) | (rw [idx_step_t (by simp_all <;> fail), hacc]; done) | (rw [idx_step_f (by simp_all <;> fail), hacc]; done))
 refine S.gr 13 .nil [slv acc.length q5.1] fun ac w β S => ?_
 exact ret1_of S (show f_postedTo b n = acc by clear S; (unfold f_postedTo; rw [hacc, show b.guests.length = k by omega])) rfl o7

theorem k0_impl_BarePost {p : Prop} (h : p := by clear S; (first | (unfold f_barePost; rw [if_neg (by simp_all)]; done) | (unfold f_barePost; rw [if_pos ⟨by assumption, by omega, by omega⟩]; done) | (unfold f_barePost; rw [if_pos ⟨by assumption, by omega, by omega⟩, show (f_postedTo b n).foldl (stepPost n) b.guests = gs by rw [hg, take_all (by omega)], if_pos (by omega)]; done) | (unfold f_barePost; rw [if_pos ⟨by assumption, by omega, by omega⟩, show (f_postedTo b n).foldl (stepPost n) b.guests = gs by rw [hg, take_all (by omega)], if_neg (by omega)]; done))) : p := h
theorem c_impl_BarePost (w0 : World) (b : TBare) (pb : PBare) (hb : RD w0 b pb) (n : Int) : Calls Tryz.prog 92 [GT.val b pb, I n].toArray w0 (Ret2 NoB w0 ((f_barePost b n).1 : TBare) ((f_barePost b n).2 : Bool)) := by
 refine Calls.run NoB Tryz.func92 ?_
 intro ac β S
 have hleb_mem : b.mem.length ≤ 4194304 := LRd.le (RBare.mem (d := b) hb)
 have hleb_guests : b.guests.length ≤ 4194304 := LRd.le (RBare.guests (d := b) hb)
 have hleb_outs : b.outs.length ≤ 4194304 := LRd.le (RBare.outs (d := b) hb)
 refine S.go 10 .nil fun ac w β S => S.K1 (r := b) (d := 11) (c_impl_copyBare w b pb (S.rd (S.arg hb))) fun ac w N q1 F2 S up o3 d4 => ?_
 clear up d4
 have i14 : In64 b.pend := RBare.pend (d := b) o3.rn
 obtain ⟨F5, F8, F11, o6, o9, o12, _, _, _, d15, d16, d17⟩ := sp_Bare o3
 refine S.gb 11 (.cons (Q_call fun w hw => c_impl_BareOk w b pb (rd_of (S.arg hb) hw)) .nil) (!(f_bareOk b)) (fun ac w β h18 S => ?_) (fun ac w β h18 S => ?_)
 ·have h19 := not_t h18
  refine S.gr 15 .nil [GT.val b q1, B false] fun ac w β S => ?_
  have o20 := ow_Bare (x := b) (p := q1) o6 o9 o12 d15 d16 d17 i14
  exact ret2_of (p' := ()) S (show (f_barePost b n).1 = b from k0_impl_BarePost) (show (f_barePost b n).2 = false from k0_impl_BarePost) rfl rfl o20 trivial
 have h21 := not_f h18
 have g22 := bareOk_t h21
 refine S.gb 6 (.cons (Q_call fun w hw => c_impl_within w n 0 7) .nil) (!(f_within n 0 7)) (fun ac w β h23 S => ?_) (fun ac w β h23 S => ?_)
 ·have h24 := not_t h23
  have g25 := within_f h24
  refine S.gr 9 .nil [GT.val b q1, B false] fun ac w β S => ?_
  have o26 := ow_Bare (x := b) (p := q1) o6 o9 o12 d15 d16 d17 i14
  exact ret2_of (p' := ()) S (show (f_barePost b n).1 = b from k0_impl_BarePost) (show (f_barePost b n).2 = false from k0_impl_BarePost) rfl rfl o26 trivial
 have h27 := not_f h23
 have g28 := within_t h27
 refine S.go 7 .nil fun ac w β S => S.K1 (r := f_postedTo b n) (d := 23) (c_impl_PostedTo w b pb (S.rd (S.arg hb)) n) fun ac w N q29 F30 S up o31 d32 => ?_
 have d34 := Disj.w d32 o9.sub
 replace o6 := o6.up up
 replace o9 := o9.up up
 replace o12 := o12.up up
 clear up d32
 refine S.go 12 .nil fun ac w β S => ?_
 refine lp (fun mm ac w => ∃ (k : Nat) (gs : List TGuest) (q36 : _) (F37 : _) (u : _) (N : _) (β : _), mm = (f_postedTo b n).length - k ∧ (k ≤ (f_postedTo b n).length) ∧ (gs = ((f_postedTo b n).take k).foldl (stepPost n) b.guests) ∧ (gs.length = b.guests.length) ∧ St Tryz.prog Tryz.f92.ntmps w0 NoB u N β ⟨[(1, .v (I n)), (4, .p 1 0), (6, .p 2 0), (7, .v (slv (f_postedTo b n).length q29.1)), (24, .v (slv (f_postedTo b n).length q29.1)), (25, .v (I ((f_postedTo b n).length : Int))), (26, .v (I (k : Int)))], [GT.cells b pb, Zc TBare, [slv b.mem.length q1.mem.1, slv gs.length q36.1, slv b.outs.length q1.outs.1, I b.pend]]⟩ ac w ∧ Ow w0 NoB u N F37 gs q36 ∧ Ow w0 NoB u N F5 b.mem q1.mem ∧ Ow w0 NoB u N F11 b.outs q1.outs ∧ Ow w0 NoB u N F30 (f_postedTo b n) q29 ∧ Disj F37 F5 ∧ Disj F37 F11 ∧ Disj F37 F30) _ ⟨0, b.guests, q1.guests, F8, _, _, _, rfl, o0, (by rfl), (by rfl), S.z, o9, o6, o12, o31, (Disj.symm d15), d17, d34⟩ ?_
 clear S o12 o31 o6 o9
 rintro f42 mm hf43 ac w ⟨k, gs, q36, F37, u, N, β, rfl, hk, hg, hgl, S, o38, o6, o12, o31, d39, d40, d41⟩
 refine S.rs fun S => ?_
 have hix := postedTo_bd (b := b) (n := n) (k := k) (by omega)
 have hpl : (f_postedTo b n).length ≤ b.guests.length := idx_len _ _
 refine S.gd 6 .nil (decide ((k : Int) < ((f_postedTo b n).length : Int))) (fun ac w β h44 g45 S => ?_) (fun ac w β h44 g45 S => ?_)
 ·refine S.go 12 (.cons (qn o31.rn k Tryz.underlying41) (.cons (qx o31.rn 3 k) .nil)) fun ac w β S => ?_
  refine drw ?_
  let σ46 : Sy := ⟨[(1, .v (I n)), (4, .p 1 0), (6, .p 2 0), (7, .v (slv (f_postedTo b n).length q29.1)), (9, .v (I (el (f_postedTo b n) k))), (24, .v (slv (f_postedTo b n).length q29.1)), (25, .v (I ((f_postedTo b n).length : Int))), (26, .v (I (k : Int)))], [GT.cells b pb, Zc TBare, [slv b.mem.length q1.mem.1, slv gs.length q36.1, slv b.outs.length q1.outs.1, I b.pend]]⟩
  obtain ⟨u0, N0, β0, S, o38, o6, o12, o31⟩ : ∃ u0 N0 β0, St Tryz.prog Tryz.f92.ntmps w0 NoB u0 N0 β0 σ46 ac w ∧ Ow w0 NoB u0 N0 F37 gs q36 ∧ Ow w0 NoB u0 N0 F5 b.mem q1.mem ∧ Ow w0 NoB u0 N0 F11 b.outs q1.outs ∧ Ow w0 NoB u0 N0 F30 (f_postedTo b n) q29 := ⟨_, _, _, S.z, o38, o6, o12, o31⟩
  refine wp_region_cut (fun ac w => ∃ q59 F60 u N β, St Tryz.prog Tryz.f92.ntmps w0 NoB u N β (σ46.dl [9] [] 3 [(2, [slv b.mem.length q1.mem.1, slv (gs.set (el (f_postedTo b n) k).toNat ({ el gs (el (f_postedTo b n) k).toNat with pend := (f_postIrq (el gs (el (f_postedTo b n) k).toNat).pend n).1 })).length q59.1, slv b.outs.length q1.outs.1, I b.pend])]) ac w ∧ Ow w0 NoB u N F5 b.mem q1.mem ∧ Ow w0 NoB u N F11 b.outs q1.outs ∧ Ow w0 NoB u N F30 (f_postedTo b n) q29 ∧ Ow w0 NoB u N F60 (gs.set (el (f_postedTo b n) k).toNat ({ el gs (el (f_postedTo b n) k).toNat with pend := (f_postIrq (el gs (el (f_postedTo b n) k).toNat).pend n).1 })) q59 ∧ Disj F5 F60 ∧ Disj F11 F60 ∧ Disj F30 F60 ∧ In64 b.pend) ?_ ?_
  ·refine S.draw0 (f := 17) 16 (by kernel_rfl) (by kernel_rfl) fun w S => ?_
   refine S.hq 0 [0] [] [(31, .p 2 1)] .nil fun ac S => ?_
   refine S.hq 1 [1] [] [(32, .v (slv gs.length q36.1))] .nil fun ac S => ?_
   refine S.hq 2 [2] [] [(33, .v (I (el (f_postedTo b n) k)))] .nil fun ac S => ?_
   refine S.hq 3 [3] [] [(34, .p 2 1)] .nil fun ac S => ?_
   refine S.hq 4 [4] [] [(35, .v (slv gs.length q36.1))] .nil fun ac S => ?_
   refine S.hq 5 [5] [] [(36, .v (I (el (f_postedTo b n) k)))] .nil fun ac S => ?_
   refine S.hq 6 [6] [] [(37, .v (pt q36.1.b (q36.1.off + (el (f_postedTo b n) k).toNat * 15)))] (.cons (qt o38.rn (el (f_postedTo b n) k) Tryz.underlying48) .nil) fun ac S => ?_
   refine S.hq 7 [7] [] [(38, .v (pt q36.1.b (q36.1.off + (el (f_postedTo b n) k).toNat * 15 + 8)))] .nil fun ac S => ?_
   refine S.hq 8 [8] [] [(39, .v (I (el gs (el (f_postedTo b n) k).toNat).pend))] (.cons (qc o38.rn 3 ((el (f_postedTo b n) k).toNat) 8 (I (el gs (el (f_postedTo b n) k).toNat).pend)) .nil) fun ac S => ?_
   refine S.hq 9 [9] [] [(40, .v (I n))] .nil fun ac S => ?_
   refine WD.nameW fun W hW => ?_
   refine WD.castW (l' := mkL 17 [0, 1, 2, 3, 4, 5, 6, 7, 8, 9]) (by kernel_rfl) ?_
   have hK61 ac w q59 F60 u N β (S : St Tryz.prog Tryz.f92.ntmps w0 NoB u N β (σ46.dl [9] [] 3 [(2, [slv b.mem.length q1.mem.1, slv (gs.set (el (f_postedTo b n) k).toNat ({ el gs (el (f_postedTo b n) k).toNat with pend := (f_postIrq (el gs (el (f_postedTo b n) k).toNat).pend n).1 })).length q59.1, slv b.outs.length q1.outs.1, I b.pend])]) ac w) (o6 : Ow w0 NoB u N F5 b.mem q1.mem) (o12 : Ow w0 NoB u N F11 b.outs q1.outs) (o31 : Ow w0 NoB u N F30 (f_postedTo b n) q29) (o58 : Ow w0 NoB u N F60 (gs.set (el (f_postedTo b n) k).toNat ({ el gs (el (f_postedTo b n) k).toNat with pend := (f_postIrq (el gs (el (f_postedTo b n) k).toNat).pend n).1 })) q59) (d62 : Disj F5 F60) (d63 : Disj F11 F60) (d64 : Disj F30 F60) (i47 : In64 b.pend) : W 0 (mkL 17 [0, 1, 2, 3, 4, 5, 6, 7, 8, 9, 10, 11, 12, 13, 14, 15, 16]) ac w := by
    exact od hW ⟨rfl, q59, F60, _, _, _, S.z, o6, o12, o31, o58, d62, d63, d64, i47⟩
   have hK65 ac w u N β (S : St Tryz.prog Tryz.f92.ntmps w0 NoB u N β (σ46.dl [9] [(42, .v (I (f_postIrq (el gs (el (f_postedTo b n) k).toNat).pend n).1)), (45, .v (pt q36.1.b (q36.1.off + (el (f_postedTo b n) k).toNat * 15 + 8)))] 3 []) ac w) (o38 : Ow w0 NoB u N F37 gs q36) (o6 : Ow w0 NoB u N F5 b.mem q1.mem) (o12 : Ow w0 NoB u N F11 b.outs q1.outs) (o31 : Ow w0 NoB u N F30 (f_postedTo b n) q29) (i47 : In64 b.pend) (hNN : NN N0 u0 N u) (hBB : BB σ46.bx.length β0 β) : W 1 (mkL 17 [0, 1, 2, 3, 4, 5, 6, 7, 8, 9, 10, 11, 12, 13, 14, 15]) ac w := by
    refine ox1 hW 16 ?_
    refine id (S.sF (α := TGuest) o38 (t := 3) (k := (el (f_postedTo b n) k).toNat) (j := 8) (off := q36.1.off + (el (f_postedTo b n) k).toNat * 15 + 8) (v := I (f_postIrq (el gs (el (f_postedTo b n) k).toNat).pend n).1) (y := ({ el gs (el (f_postedTo b n) k).toNat with pend := (f_postIrq (el gs (el (f_postedTo b n) k).toNat).pend n).1 } : TGuest)) (q := (q36.2 (el (f_postedTo b n) k).toNat)) (fun G g_ _ => ⟨G, ows_Guest_pend g_ (postIrq_in64 (RGuest.pend (d := (el gs (el (f_postedTo b n) k).toNat)) (LRd.el o38.rn (el (f_postedTo b n) k).toNat (by omega)))), fun _ h => .inl h⟩) fun w N F67 q68 S up o66 d69 s70 n71 => ?_)
    refine WD.sl fun hC => ?_
    have d72 := d69 _ (Disj.symm d39) (fun b _ h => False.elim h) o6.sub
    have d73 := d69 _ (Disj.symm d40) (fun b _ h => False.elim h) o12.sub
    have d74 := d69 _ (Disj.symm d41) (fun b _ h => False.elim h) o31.sub
    replace o6 := o6.upF (Disj.symm d39) up
    replace o12 := o12.upF (Disj.symm d40) up
    replace o31 := o31.upF (Disj.symm d41) up
    clear up d69 o38 n71
    have l75 : (gs.set (el (f_postedTo b n) k).toNat ({ el gs (el (f_postedTo b n) k).toNat with pend := (f_postIrq (el gs (el (f_postedTo b n) k).toNat).pend n).1 })).length = gs.length := List.length_set
    replace S := S.z (σ' := ⟨[(1, .v (I n)), (4, .p 1 0), (6, .p 2 0), (7, .v (slv (f_postedTo b n).length q29.1)), (24, .v (slv (f_postedTo b n).length q29.1)), (25, .v (I ((f_postedTo b n).length : Int))), (26, .v (I (k : Int))), (42, .v (I (f_postIrq (el gs (el (f_postedTo b n) k).toNat).pend n).1)), (45, .v (pt q36.1.b (q36.1.off + (el (f_postedTo b n) k).toNat * 15 + 8)))], [GT.cells b pb, Zc TBare, [slv b.mem.length q1.mem.1, slv gs.length q36.1, slv b.outs.length q1.outs.1, I b.pend]]⟩)
    replace S := S.cast (σ' := ⟨[(1, .v (I n)), (4, .p 1 0), (6, .p 2 0), (7, .v (slv (f_postedTo b n).length q29.1)), (24, .v (slv (f_postedTo b n).length q29.1)), (25, .v (I ((f_postedTo b n).length : Int))), (26, .v (I (k : Int))), (42, .v (I (f_postIrq (el gs (el (f_postedTo b n) k).toNat).pend n).1)), (45, .v (pt q36.1.b (q36.1.off + (el (f_postedTo b n) k).toNat * 15 + 8)))], [GT.cells b pb, Zc TBare, [slv b.mem.length q1.mem.1, slv (gs.set (el (f_postedTo b n) k).toNat ({ el gs (el (f_postedTo b n) k).toNat with pend := (f_postIrq (el gs (el (f_postedTo b n) k).toNat).pend n).1 })).length q36.1, slv b.outs.length q1.outs.1, I b.pend]]⟩) (by rw [show (gs.set (el (f_postedTo b n) k).toNat ({ el gs (el (f_postedTo b n) k).toNat with pend := (f_postIrq (el gs (el (f_postedTo b n) k).toNat).pend n).1 })).length = gs.length by omega])
    exact S.wh hW [] hC fun _ S => hK61 _ _ (q36.1, q68) F67 _ _ _ S o6 o12 o31 o66 d72 d73 d74 i47
   have hK76 ac w u N β (S : St Tryz.prog Tryz.f92.ntmps w0 NoB u N β (σ46.dl [9] [(32, .v (slv gs.length q36.1)), (33, .v (I (el (f_postedTo b n) k))), (42, .v (I (f_postIrq (el gs (el (f_postedTo b n) k).toNat).pend n).1))] 3 []) ac w) (o38 : Ow w0 NoB u N F37 gs q36) (o6 : Ow w0 NoB u N F5 b.mem q1.mem) (o12 : Ow w0 NoB u N F11 b.outs q1.outs) (o31 : Ow w0 NoB u N F30 (f_postedTo b n) q29) (i47 : In64 b.pend) (hNN : NN N0 u0 N u) (hBB : BB σ46.bx.length β0 β) : W 3 (mkL 17 [0, 1, 2, 3, 4, 5, 6, 7, 8, 9, 10, 11, 12, 13]) ac w := by
    exact ox1 hW 14 (S.wq hW hNN hBB [15] (.cons (qt o38.rn (el (f_postedTo b n) k) Tryz.underlying48) .nil) fun _ _ _ S hB => hK65 _ _ _ _ _ S o38 o6 o12 o31 i47 hNN hB)
   have hNN : NN N0 u0 N0 u0 := fun b h => ⟨h, rfl⟩
   have hBB : BB σ46.bx.length β0 β0 := fun _ _ => rfl
   exact ox1 hW 10 (S.wq hW hNN hBB [11, 12, 13] (.cons (Q_call fun w hw => c_impl_PostIrq w (el gs (el (f_postedTo b n) k).toNat).pend (RGuest.pend (d := (el gs (el (f_postedTo b n) k).toNat)) (LRd.el o38.rn (el (f_postedTo b n) k).toNat (by omega))) n) .nil) fun _ _ _ S hB => hK76 _ _ _ _ _ S o38 o6 o12 o31 i14 hNN hB)
  clear S o38 o6 o12 o31
  rintro ac w ⟨q59, F60, u, N, β, S, o6, o12, o31, o58, d77, d78, d79, i47⟩
  refine S.ex fun S => ?_
  refine S.ge 6 (.cons (qp (k : Int) 1) .nil) f42 fun ac w β S => hf43.of ((f_postedTo b n).length - (k + 1)) _ _ (by omega) ⟨k + 1, (gs.set (el (f_postedTo b n) k).toNat ({ el gs (el (f_postedTo b n) k).toNat with pend := (f_postIrq (el gs (el (f_postedTo b n) k).toNat).pend n).1 })), q59, F60, _, _, _, rfl, ?_, ?_, ?_, S.z, o58, o6, o12, o31, (Disj.symm d77), (Disj.symm d78), (Disj.symm d79)⟩
  ·exact oz
  ·clear S; (rw [fold_step (by omega), ← hg]; rfl)
  ·clear S; (first | omega | (simp; omega))
 refine S.gd 14 .nil (((f_postedTo b n).length : Int) == 0) (fun ac w β h80 g81 S => ?_) (fun ac w β h80 g81 S => ?_)
 ·refine S.gr 21 (.cons (Q_call fun w hw => c_impl_PostIrq w b.pend i14 n) .nil) [GT.val (⟨b.mem, gs, b.outs, (f_postIrq b.pend n).1⟩ : TBare) (⟨q1.mem, q36, q1.outs⟩ : PBare), B true] fun ac w β S => ?_
  have o82 := ow_Bare (x := (⟨b.mem, gs, b.outs, (f_postIrq b.pend n).1⟩ : TBare)) (p := (⟨q1.mem, q36, q1.outs⟩ : PBare)) o6 o38 o12 (Disj.symm d39) d16 d40 (postIrq_in64 i14)
  exact ret2_of (p' := ()) S (show (f_barePost b n).1 = (⟨b.mem, gs, b.outs, (f_postIrq b.pend n).1⟩ : TBare) from k0_impl_BarePost) (show (f_barePost b n).2 = true from k0_impl_BarePost) rfl rfl o82 trivial
 refine S.gr 11 .nil [GT.val (⟨b.mem, gs, b.outs, b.pend⟩ : TBare) (⟨q1.mem, q36, q1.outs⟩ : PBare), B true] fun ac w β S => ?_
 have o83 := ow_Bare (x := (⟨b.mem, gs, b.outs, b.pend⟩ : TBare)) (p := (⟨q1.mem, q36, q1.outs⟩ : PBare)) o6 o38 o12 (Disj.symm d39) d16 d40 i14
 exact ret2_of (p' := ()) S (show (f_barePost b n).1 = (⟨b.mem, gs, b.outs, b.pend⟩ : TBare) from k0_impl_BarePost) (show (f_barePost b n).2 = true from k0_impl_BarePost) rfl rfl o83 trivial

theorem k0_impl_BareAck {p : Prop} (h : p := by clear S; (first | (rw [bareAck_ok (by assumption)]; done) | (unfold f_bareAck; (repeat' split) <;> first | rfl | (exfalso; omega) | (exfalso; simp_all; done) | (exfalso; simp_all; omega) | (simp_all; done)))) : p := h
theorem c_impl_BareAck (w0 : World) (b : TBare) (pb : PBare) (hb : RD w0 b pb) : Calls Tryz.prog 93 [GT.val b pb].toArray w0 (Ret3 NoB w0 ((f_bareAck b).1 : TBare) ((f_bareAck b).2.1 : Int) ((f_bareAck b).2.2 : Bool)) := by
 refine Calls.run NoB Tryz.func93 ?_
 intro ac β S
 have hleb_mem : b.mem.length ≤ 4194304 := LRd.le (RBare.mem (d := b) hb)
 have hleb_guests : b.guests.length ≤ 4194304 := LRd.le (RBare.guests (d := b) hb)
 have hleb_outs : b.outs.length ≤ 4194304 := LRd.le (RBare.outs (d := b) hb)
 refine S.go 11 .nil fun ac w β S => S.K1 (r := b) (d := 10) (c_impl_copyBare w b pb (S.rd (S.arg hb))) fun ac w N q1 F2 S up o3 d4 => ?_
 clear up d4
 have i14 : In64 b.pend := RBare.pend (d := b) o3.rn
 obtain ⟨F5, F8, F11, o6, o9, o12, _, _, _, d15, d16, d17⟩ := sp_Bare o3
 refine S.gb 25 (.cons (Q_call fun w hw => c_impl_TakeIrq w b.pend (RBare.pend (d := b) (S.arg hb))) (.cons (Q_call fun w hw => c_impl_BareOk w b pb (rd_of (S.arg hb) hw)) .nil)) (!(f_bareOk b)) (fun ac w β h18 S => ?_) (fun ac w β h18 S => ?_)
 ·have h19 := not_t h18
  refine S.gr 15 .nil [GT.val b q1, I (-1), B false] fun ac w β S => ?_
  have o20 := ow_Bare (x := b) (p := q1) o6 o9 o12 d15 d16 d17 i14
  exact ret3_of (p' := ()) (p'' := ()) S (show (f_bareAck b).1 = b from k0_impl_BareAck) (show (f_bareAck b).2.1 = (-1) from k0_impl_BareAck) (show (f_bareAck b).2.2 = false from k0_impl_BareAck) rfl rfl rfl o20 (show In64 (-1) from ⟨by decide, by decide⟩) trivial
 have h21 := not_f h18
 have g22 := bareOk_t h21
 refine S.gb 5 .nil (!(f_takeIrq b.pend).2.2) (fun ac w β h23 S => ?_) (fun ac w β h23 S => ?_)
 ·have h24 := not_t h23
  refine S.gr 10 .nil [GT.val b q1, I (-1), B false] fun ac w β S => ?_
  have o25 := ow_Bare (x := b) (p := q1) o6 o9 o12 d15 d16 d17 i14
  exact ret3_of (p' := ()) (p'' := ()) S (show (f_bareAck b).1 = b from k0_impl_BareAck) (show (f_bareAck b).2.1 = (-1) from k0_impl_BareAck) (show (f_bareAck b).2.2 = false from k0_impl_BareAck) rfl rfl rfl o25 (show In64 (-1) from ⟨by decide, by decide⟩) trivial
 have h26 := not_f h23
 refine S.gr 20 .nil [GT.val (⟨b.mem, b.guests, b.outs, (f_takeIrq b.pend).1⟩ : TBare) (⟨q1.mem, q1.guests, q1.outs⟩ : PBare), I (f_takeIrq b.pend).2.1, B true] fun ac w β S => ?_
 have o27 := ow_Bare (x := (⟨b.mem, b.guests, b.outs, (f_takeIrq b.pend).1⟩ : TBare)) (p := (⟨q1.mem, q1.guests, q1.outs⟩ : PBare)) o6 o9 o12 d15 d16 d17 (takeIrq_in64 (RBare.pend (d := b) (S.arg hb)))
 exact ret3_of (p' := ()) (p'' := ()) S (show (f_bareAck b).1 = (⟨b.mem, b.guests, b.outs, (f_takeIrq b.pend).1⟩ : TBare) from k0_impl_BareAck) (show (f_bareAck b).2.1 = (f_takeIrq b.pend).2.1 from k0_impl_BareAck) (show (f_bareAck b).2.2 = true from k0_impl_BareAck) rfl rfl rfl o27 takeIrq_in64b trivial

theorem k0_impl_reach {p : Prop} (h : p := by clear S; (first | (rw [reach_n1 (by assumption)]; done) | (rw [reach_n2 (by assumption)]; done) | (rw [reach_n3 (by assumption)]; done) | (rw [reach_pos (by assumption) (by assumption) (by assumption)]; done))) : p := h
theorem c_impl_reach (w0 : World) (b : TBare) (pb : PBare) (hb : RD w0 b pb) (g : Int) (addr : Int) (haddr : In64 addr) (need : Int) : Calls Tryz.prog 166 [GT.val b pb, I g, I addr, I need].toArray w0 (fun e w' => e = .returned (.tuple #[I (f_reach b g addr need).1, I (f_reach b g addr need).2.1, B (f_reach b g addr need).2.2]) ∧ Chg NoB w0 w') := by
 refine Calls.run NoB Tryz.func166 ?_
 intro ac β S
 have hleb_mem : b.mem.length ≤ 4194304 := LRd.le (RBare.mem (d := b) hb)
 have hleb_guests : b.guests.length ≤ 4194304 := LRd.le (RBare.guests (d := b) hb)
 have hleb_outs : b.outs.length ≤ 4194304 := LRd.le (RBare.outs (d := b) hb)
 have hloaddr := haddr.lo; have hhiaddr := haddr.hi
 refine S.go 12 .nil fun ac w β S => S.K2 (r := (f_guestAt b g).1) (r' := (f_guestAt b g).2) (d := 18) (c_impl_GuestAt w b pb (S.rd (S.arg hb)) g) fun ac w N q1 q2 F3 F4 S up o5 o6 d7 d8 d9 => ?_
 clear up d7
 clear d8
 refine S.gb 15 (.cons (Q_call fun w hw => c_impl_BareOk w b pb (rd_of (S.arg hb) hw)) .nil) (!(f_bareOk b)) (fun ac w β h10 S => ?_) (fun ac w β h10 S => ?_)
 ·have h11 := not_t h10
  exact S.gf 19 .nil [I 0, I 0, B false] (ret3v (eqI (show 0 = (f_reach b g addr need).1 from k0_impl_reach)) (eqI (show 0 = (f_reach b g addr need).2.1 from k0_impl_reach)) (eqB (show false = (f_reach b g addr need).2.2 from k0_impl_reach)))
 have h12 := not_f h10
 have g13 := bareOk_t h12
 refine S.gb 4 .nil (!(f_guestAt b g).2) (fun ac w β h14 S => ?_) (fun ac w β h14 S => ?_)
 ·have h15 := not_t h14
  have g16 := guestAt_f h15
  exact S.gf 15 .nil [I 0, I 0, B false] (ret3v (eqI (show 0 = (f_reach b g addr need).1 from k0_impl_reach)) (eqI (show 0 = (f_reach b g addr need).2.1 from k0_impl_reach)) (eqB (show false = (f_reach b g addr need).2.2 from k0_impl_reach)))
 have h17 := not_f h14
 have g18 := guestAt_t h17
 refine S.gb 6 (.cons (Q_call fun w hw => c_impl_within w addr 0 15) .nil) (!(f_within addr 0 15)) (fun ac w β h19 S => ?_) (fun ac w β h19 S => ?_)
 ·have h20 := not_t h19
  have g21 := within_f h20
  exact S.gf 9 .nil [I 0, I 0, B false] (ret3v (eqI (show 0 = (f_reach b g addr need).1 from k0_impl_reach)) (eqI (show 0 = (f_reach b g addr need).2.1 from k0_impl_reach)) (eqB (show false = (f_reach b g addr need).2.2 from k0_impl_reach)))
 have h22 := not_f h19
 have g23 := within_t h22
 exact S.gf 18 (.cons (Q_call fun w hw => c_impl_AddrPage w addr haddr) (.cons (Q_call fun w hw => c_impl_WalkInner w (f_guestAt b g).1.live q1.live (rd_of (RGuest.live (d := (f_guestAt b g).1) o5.rn) hw) (f_addrPage addr) need) (.cons (Q_call fun w hw => c_impl_AddrCell w addr haddr) .nil))) [I (f_walkInner (f_guestAt b g).1.live (f_addrPage addr) need).1, I (f_addrCell addr), B (f_walkInner (f_guestAt b g).1.live (f_addrPage addr) need).2] (ret3v (eqI (show (f_walkInner (f_guestAt b g).1.live (f_addrPage addr) need).1 = (f_reach b g addr need).1 from k0_impl_reach)) (eqI (show (f_addrCell addr) = (f_reach b g addr need).2.1 from k0_impl_reach)) (eqB (show (f_walkInner (f_guestAt b g).1.live (f_addrPage addr) need).2 = (f_reach b g addr need).2.2 from k0_impl_reach)))

theorem k0_impl_BareDma {p : Prop} (h : p := by clear S; (first | (unfold f_bareDma; rw [if_neg (by (have hz := reach_f (by assumption)); simp [hz])]; done) | (unfold f_bareDma; rw [if_neg (by simp [*])]; done) | ((have hz := reach_t (by assumption)); unfold f_bareDma; rw [if_pos ⟨hz.1, by assumption⟩, ← hz.2.1, ← hz.2.2]; done))) : p := h
theorem c_impl_BareDma (w0 : World) (b : TBare) (pb : PBare) (hb : RD w0 b pb) (g : Int) (addr : Int) (haddr : In64 addr) (v : Int) (hv : In64 v) : Calls Tryz.prog 94 [GT.val b pb, I g, I addr, I v].toArray w0 (Ret2 NoB w0 ((f_bareDma b g addr v).1 : TBare) ((f_bareDma b g addr v).2 : Bool)) := by
 refine Calls.run NoB Tryz.func94 ?_
 intro ac β S
 have hleb_mem : b.mem.length ≤ 4194304 := LRd.le (RBare.mem (d := b) hb)
 have hleb_guests : b.guests.length ≤ 4194304 := LRd.le (RBare.guests (d := b) hb)
 have hleb_outs : b.outs.length ≤ 4194304 := LRd.le (RBare.outs (d := b) hb)
 have hloaddr := haddr.lo; have hhiaddr := haddr.hi
 have hlov := hv.lo; have hhiv := hv.hi
 refine S.go 10 .nil fun ac w β S => S.K1 (r := b) (d := 15) (c_impl_copyBare w b pb (S.rd (S.arg hb))) fun ac w N q1 F2 S up o3 d4 => ?_
 clear up d4
 have i14 : In64 b.pend := RBare.pend (d := b) o3.rn
 obtain ⟨F5, F8, F11, o6, o9, o12, _, _, _, d15, d16, d17⟩ := sp_Bare o3
 refine S.gb 25 (.cons (Q_call fun w hw => c_impl_reach w b pb (rd_of (S.arg hb) hw) g addr haddr 2) .nil) (!(f_reach b g addr 2).2.2) (fun ac w β h18 S => ?_) (fun ac w β h18 S => ?_)
 ·have h19 := not_t h18
  refine S.gr 15 .nil [GT.val b q1, B false] fun ac w β S => ?_
  have o20 := ow_Bare (x := b) (p := q1) o6 o9 o12 d15 d16 d17 i14
  exact ret2_of (p' := ()) S (show (f_bareDma b g addr v).1 = b from k0_impl_BareDma) (show (f_bareDma b g addr v).2 = false from k0_impl_BareDma) rfl rfl o20 trivial
 have h21 := not_f h18
 refine S.gb 6 (.cons (Q_call fun w hw => c_impl_within w v 0 99) .nil) (!(f_within v 0 99)) (fun ac w β h22 S => ?_) (fun ac w β h22 S => ?_)
 ·have h23 := not_t h22
  have g24 := within_f h23
  refine S.gr 9 .nil [GT.val b q1, B false] fun ac w β S => ?_
  have o25 := ow_Bare (x := b) (p := q1) o6 o9 o12 d15 d16 d17 i14
  exact ret2_of (p' := ()) S (show (f_bareDma b g addr v).1 = b from k0_impl_BareDma) (show (f_bareDma b g addr v).2 = false from k0_impl_BareDma) rfl rfl o25 trivial
 have h26 := not_f h22
 have g27 := within_t h26
 refine S.go 10 .nil fun ac w β S => S.K1 (r := f_withCell b.mem (f_reach b g addr 2).1 (f_reach b g addr 2).2.1 v) (d := 37) (c_impl_WithCell w b.mem pb.mem (S.rd (RBare.mem (d := b) (S.arg hb))) (f_reach b g addr 2).1 (f_reach b g addr 2).2.1 v hv) fun ac w N q28 F29 S up o30 d31 => ?_
 have d33 := Disj.w d31 o9.sub
 have d34 := Disj.w d31 o12.sub
 replace o9 := o9.up up
 replace o12 := o12.up up
 clear up d31
 refine S.gr 12 .nil [GT.val (⟨(f_withCell b.mem (f_reach b g addr 2).1 (f_reach b g addr 2).2.1 v), b.guests, b.outs, b.pend⟩ : TBare) (⟨q28, q1.guests, q1.outs⟩ : PBare), B true] fun ac w β S => ?_
 have o35 := ow_Bare (x := (⟨(f_withCell b.mem (f_reach b g addr 2).1 (f_reach b g addr 2).2.1 v), b.guests, b.outs, b.pend⟩ : TBare)) (p := (⟨q28, q1.guests, q1.outs⟩ : PBare)) o30 o9 o12 (Disj.symm d33) (Disj.symm d34) d17 i14
 exact ret2_of (p' := ()) S (show (f_bareDma b g addr v).1 = (⟨(f_withCell b.mem (f_reach b g addr 2).1 (f_reach b g addr 2).2.1 v), b.guests, b.outs, b.pend⟩ : TBare) from k0_impl_BareDma) (show (f_bareDma b g addr v).2 = true from k0_impl_BareDma) rfl rfl o35 trivial

theorem k0_impl_BareRead {p : Prop} (h : p := by clear S; (first | (rw [bread_noR (by assumption)]; done) | (rw [bread_yesR (by assumption)]; done))) : p := h
theorem c_impl_BareRead (w0 : World) (b : TBare) (pb : PBare) (hb : RD w0 b pb) (g : Int) (addr : Int) (haddr : In64 addr) : Calls Tryz.prog 95 [GT.val b pb, I g, I addr].toArray w0 (fun e w' => e = .returned (.tuple #[I (f_bareRead b g addr).1, B (f_bareRead b g addr).2]) ∧ Chg NoB w0 w') := by
 refine Calls.run NoB Tryz.func95 ?_
 intro ac β S
 have hleb_mem : b.mem.length ≤ 4194304 := LRd.le (RBare.mem (d := b) hb)
 have hleb_guests : b.guests.length ≤ 4194304 := LRd.le (RBare.guests (d := b) hb)
 have hleb_outs : b.outs.length ≤ 4194304 := LRd.le (RBare.outs (d := b) hb)
 have hloaddr := haddr.lo; have hhiaddr := haddr.hi
 refine S.gb 29 (.cons (Q_call fun w hw => c_impl_reach w b pb (rd_of (S.arg hb) hw) g addr haddr 1) .nil) (!(f_reach b g addr 1).2.2) (fun ac w β h1 S => ?_) (fun ac w β h1 S => ?_)
 ·have h2 := not_t h1
  exact S.gf 8 .nil [I 0, B false] (ret2v (eqI (show 0 = (f_bareRead b g addr).1 from k0_impl_BareRead)) (eqB (show false = (f_bareRead b g addr).2 from k0_impl_BareRead)))
 have h3 := not_f h1
 exact S.gf 15 (.cons (Q_call fun w hw => c_impl_CellAt w b.mem pb.mem (rd_of (RBare.mem (d := b) (S.arg hb)) hw) (f_reach b g addr 1).1 (f_reach b g addr 1).2.1) .nil) [I (f_cellAt b.mem (f_reach b g addr 1).1 (f_reach b g addr 1).2.1), B true] (ret2v (eqI (show (f_cellAt b.mem (f_reach b g addr 1).1 (f_reach b g addr 1).2.1) = (f_bareRead b g addr).1 from k0_impl_BareRead)) (eqB (show true = (f_bareRead b g addr).2 from k0_impl_BareRead)))

theorem k0_impl_bareAct {p : Prop} (h : p := by clear S; (first | (rw [act1 (by omega)]; first | done | rfl) | (rw [act2 (by omega)]; first | done | rfl) | (rw [act3 (by omega)]; first | done | rfl) | (rw [act4 (by omega)]; first | done | rfl) | (rw [act5 (by omega)]; first | done | rfl) | (rw [act6 (by omega)]; first | done | rfl) | (rw [act7 (by omega)]; first | done | rfl) | (rw [act8 (by omega)]; first | done | rfl) | (rw [act9 (by omega)]; first | done | rfl) | (rw [act10 (by omega)]; first | done | rfl) | (rw [act11 (by omega)]; first | done | rfl) | (rw [act12 (by omega)]; first | done | rfl) | (rw [act0 (by omega)]; first | done | rfl))) : p := h
theorem c_impl_bareAct (w0 : World) (b : TBare) (pb : PBare) (Gb : Bl) (hb : GT.rd KK Gb w0 b pb) (gb : ∀ b, Gb b → b < w0.heap.size ∧ ¬ NoB b) (a : TAct) (ha : RAct a) : Calls Tryz.prog 36 [GT.val b pb, GT.val a ()].toArray w0 (RetV2 Gb w0 ((f_actOn b a).1 : TBare) ((f_actOn b a).2 : TTold)) := by
 refine Calls.run NoB Tryz.func36 ?_
 intro ac β S
 have hleb_mem : b.mem.length ≤ 4194304 := LRd.le (RBare.mem (d := b) hb)
 have hleb_guests : b.guests.length ≤ 4194304 := LRd.le (RBare.guests (d := b) hb)
 have hleb_outs : b.outs.length ≤ 4194304 := LRd.le (RBare.outs (d := b) hb)
 refine S.gd 31 .nil (a.kind == 1) (fun ac w β h1 g2 S => ?_) (fun ac w β h1 g2 S => ?_)
 ·refine S.go 5 .nil fun ac w β S => S.K2 (r := (f_bareStep b a.g).1) (r' := (f_bareStep b a.g).2) (d := 18) (c_impl_BareStep w b pb (S.rd (S.argG hb gb)) a.g) fun ac w N q3 q4 F5 F6 S up o7 o8 d9 d10 d11 => ?_
  clear up d9
  clear d10
  refine S.gr 19 (.cons (Q_sem (s := Instr.build 28 [(0, B (f_bareStep b a.g).2), (1, I 0)].toArray) (v := .agg [B (f_bareStep b a.g).2, I 0].toArray) (fun w => by kernel_rfl)) .nil) [GT.val (f_bareStep b a.g).1 q3, GT.val (⟨(f_bareStep b a.g).2, 0⟩ : TTold) ()] fun ac w β S => ?_
  exact retV2_own S (show (f_actOn b a).1 = (f_bareStep b a.g).1 from k0_impl_bareAct) (show (f_actOn b a).2 = (⟨(f_bareStep b a.g).2, 0⟩ : TTold) from k0_impl_bareAct) rfl rfl o7 (show RTold (⟨(f_bareStep b a.g).2, 0⟩ : TTold) from ⟨(show In64 0 from ⟨by decide, by decide⟩)⟩)
 refine S.gd 7 .nil (a.kind == 2) (fun ac w β h12 g13 S => ?_) (fun ac w β h12 g13 S => ?_)
 ·refine S.go 12 (.cons (Q_sem (s := Instr.build 55 [(0, I a.y), (1, I a.z)].toArray) (v := .agg [I a.y, I a.z].toArray) (fun w => by kernel_rfl)) .nil) fun ac w β S => S.K2 (r := (f_bareSet b a.g a.x (⟨a.y, a.z⟩ : TSlot)).1) (r' := (f_bareSet b a.g a.x (⟨a.y, a.z⟩ : TSlot)).2) (d := 34) (c_impl_BareSet w b pb (S.rd (S.argG hb gb)) a.g a.x (RAct.x (d := a) ha) (⟨a.y, a.z⟩ : TSlot) (show RSlot (⟨a.y, a.z⟩ : TSlot) from ⟨(RAct.y (d := a) ha), (RAct.z (d := a) ha)⟩)) fun ac w N q14 q15 F16 F17 S up o18 o19 d20 d21 d22 => ?_
  clear up d20
  clear d21
  refine S.gr 19 (.cons (Q_sem (s := Instr.build 28 [(0, B (f_bareSet b a.g a.x (⟨a.y, a.z⟩ : TSlot)).2), (1, I 0)].toArray) (v := .agg [B (f_bareSet b a.g a.x (⟨a.y, a.z⟩ : TSlot)).2, I 0].toArray) (fun w => by kernel_rfl)) .nil) [GT.val (f_bareSet b a.g a.x (⟨a.y, a.z⟩ : TSlot)).1 q14, GT.val (⟨(f_bareSet b a.g a.x (⟨a.y, a.z⟩ : TSlot)).2, 0⟩ : TTold) ()] fun ac w β S => ?_
  exact retV2_own S (show (f_actOn b a).1 = (f_bareSet b a.g a.x (⟨a.y, a.z⟩ : TSlot)).1 from k0_impl_bareAct) (show (f_actOn b a).2 = (⟨(f_bareSet b a.g a.x (⟨a.y, a.z⟩ : TSlot)).2, 0⟩ : TTold) from k0_impl_bareAct) rfl rfl o18 (show RTold (⟨(f_bareSet b a.g a.x (⟨a.y, a.z⟩ : TSlot)).2, 0⟩ : TTold) from ⟨(show In64 0 from ⟨by decide, by decide⟩)⟩)
 refine S.gd 7 .nil (a.kind == 3) (fun ac w β h23 g24 S => ?_) (fun ac w β h23 g24 S => ?_)
 ·refine S.go 7 .nil fun ac w β S => S.K2 (r := (f_bareFlush b a.g a.x).1) (r' := (f_bareFlush b a.g a.x).2) (d := 45) (c_impl_BareFlush w b pb (S.rd (S.argG hb gb)) a.g a.x (RAct.x (d := a) ha)) fun ac w N q25 q26 F27 F28 S up o29 o30 d31 d32 d33 => ?_
  clear up d31
  clear d32
  refine S.gr 19 (.cons (Q_sem (s := Instr.build 28 [(0, B (f_bareFlush b a.g a.x).2), (1, I 0)].toArray) (v := .agg [B (f_bareFlush b a.g a.x).2, I 0].toArray) (fun w => by kernel_rfl)) .nil) [GT.val (f_bareFlush b a.g a.x).1 q25, GT.val (⟨(f_bareFlush b a.g a.x).2, 0⟩ : TTold) ()] fun ac w β S => ?_
  exact retV2_own S (show (f_actOn b a).1 = (f_bareFlush b a.g a.x).1 from k0_impl_bareAct) (show (f_actOn b a).2 = (⟨(f_bareFlush b a.g a.x).2, 0⟩ : TTold) from k0_impl_bareAct) rfl rfl o29 (show RTold (⟨(f_bareFlush b a.g a.x).2, 0⟩ : TTold) from ⟨(show In64 0 from ⟨by decide, by decide⟩)⟩)
 refine S.gd 7 .nil (a.kind == 4) (fun ac w β h34 g35 S => ?_) (fun ac w β h34 g35 S => ?_)
 ·refine S.go 7 .nil fun ac w β S => S.K2 (r := (f_bareAnswer b a.g a.x).1) (r' := (f_bareAnswer b a.g a.x).2) (d := 56) (c_impl_BareAnswer w b pb (S.rd (S.argG hb gb)) a.g a.x (RAct.x (d := a) ha)) fun ac w N q36 q37 F38 F39 S up o40 o41 d42 d43 d44 => ?_
  clear up d42
  clear d43
  refine S.gr 19 (.cons (Q_sem (s := Instr.build 28 [(0, B (f_bareAnswer b a.g a.x).2), (1, I 0)].toArray) (v := .agg [B (f_bareAnswer b a.g a.x).2, I 0].toArray) (fun w => by kernel_rfl)) .nil) [GT.val (f_bareAnswer b a.g a.x).1 q36, GT.val (⟨(f_bareAnswer b a.g a.x).2, 0⟩ : TTold) ()] fun ac w β S => ?_
  exact retV2_own S (show (f_actOn b a).1 = (f_bareAnswer b a.g a.x).1 from k0_impl_bareAct) (show (f_actOn b a).2 = (⟨(f_bareAnswer b a.g a.x).2, 0⟩ : TTold) from k0_impl_bareAct) rfl rfl o40 (show RTold (⟨(f_bareAnswer b a.g a.x).2, 0⟩ : TTold) from ⟨(show In64 0 from ⟨by decide, by decide⟩)⟩)
 refine S.gd 7 .nil (a.kind == 5) (fun ac w β h45 g46 S => ?_) (fun ac w β h45 g46 S => ?_)
 ·refine S.go 5 .nil fun ac w β S => S.K2 (r := (f_bareResume b a.g).1) (r' := (f_bareResume b a.g).2) (d := 65) (c_impl_BareResume w b pb (S.rd (S.argG hb gb)) a.g) fun ac w N q47 q48 F49 F50 S up o51 o52 d53 d54 d55 => ?_
  clear up d53
  clear d54
  refine S.gr 19 (.cons (Q_sem (s := Instr.build 28 [(0, B (f_bareResume b a.g).2), (1, I 0)].toArray) (v := .agg [B (f_bareResume b a.g).2, I 0].toArray) (fun w => by kernel_rfl)) .nil) [GT.val (f_bareResume b a.g).1 q47, GT.val (⟨(f_bareResume b a.g).2, 0⟩ : TTold) ()] fun ac w β S => ?_
  exact retV2_own S (show (f_actOn b a).1 = (f_bareResume b a.g).1 from k0_impl_bareAct) (show (f_actOn b a).2 = (⟨(f_bareResume b a.g).2, 0⟩ : TTold) from k0_impl_bareAct) rfl rfl o51 (show RTold (⟨(f_bareResume b a.g).2, 0⟩ : TTold) from ⟨(show In64 0 from ⟨by decide, by decide⟩)⟩)
 refine S.gd 7 .nil (a.kind == 6) (fun ac w β h56 g57 S => ?_) (fun ac w β h56 g57 S => ?_)
 ·refine S.go 7 .nil fun ac w β S => S.K2 (r := (f_bareInject b a.g a.x).1) (r' := (f_bareInject b a.g a.x).2) (d := 76) (c_impl_BareInject w b pb (S.rd (S.argG hb gb)) a.g a.x) fun ac w N q58 q59 F60 F61 S up o62 o63 d64 d65 d66 => ?_
  clear up d64
  clear d65
  refine S.gr 19 (.cons (Q_sem (s := Instr.build 28 [(0, B (f_bareInject b a.g a.x).2), (1, I 0)].toArray) (v := .agg [B (f_bareInject b a.g a.x).2, I 0].toArray) (fun w => by kernel_rfl)) .nil) [GT.val (f_bareInject b a.g a.x).1 q58, GT.val (⟨(f_bareInject b a.g a.x).2, 0⟩ : TTold) ()] fun ac w β S => ?_
  exact retV2_own S (show (f_actOn b a).1 = (f_bareInject b a.g a.x).1 from k0_impl_bareAct) (show (f_actOn b a).2 = (⟨(f_bareInject b a.g a.x).2, 0⟩ : TTold) from k0_impl_bareAct) rfl rfl o62 (show RTold (⟨(f_bareInject b a.g a.x).2, 0⟩ : TTold) from ⟨(show In64 0 from ⟨by decide, by decide⟩)⟩)
 refine S.gd 7 .nil (a.kind == 7) (fun ac w β h67 g68 S => ?_) (fun ac w β h67 g68 S => ?_)
 ·refine S.go 1 .nil fun ac w β S => ?_
  refine drw ?_
  let σ79 : Sy := ⟨[(2, .p 0 0), (3, .p 1 0), (4, .p 2 0), (5, .p 3 0), (6, .p 4 0), (7, .v (B false)), (8, .v (I 0)), (11, .v (I a.kind)), (79, .v (B true))], [GT.cells b pb, GT.cells a (), Zc TBare, Zc TTold, GT.cells b pb]⟩
  obtain ⟨u0, N0, β0, S⟩ : ∃ u0 N0 β0, St Tryz.prog Tryz.f36.ntmps w0 NoB u0 N0 β0 σ79 ac w := ⟨_, _, _, S.z⟩
  refine wp_region_cut (fun ac w => ∃ q96 F97 u N β, St Tryz.prog Tryz.f36.ntmps w0 NoB u N β (σ79.dl [2, 3, 11, 79] [(7, .v (B (f_bareCtl b a.g (f_ctlOf a)).2))] 5 [(4, GT.cells (f_bareCtl b a.g (f_ctlOf a)).1 q96)]) ac w ∧ Ow w0 NoB u N F97 (f_bareCtl b a.g (f_ctlOf a)).1 q96) ?_ ?_
  ·refine S.draw0 (f := 11) 9 (by kernel_rfl) (by kernel_rfl) fun w S => ?_
   refine S.hq 0 [0] [] [(82, .v (GT.val b pb))] .nil fun ac S => ?_
   refine S.hq 1 [1] [] [(83, .p 1 2)] .nil fun ac S => ?_
   refine S.hq 2 [2] [] [(84, .v (I a.g))] .nil fun ac S => ?_
   refine S.hq 3 [3] [] [(85, .v (GT.val a ()))] .nil fun ac S => ?_
   refine WD.nameW fun W hW => ?_
   refine WD.castW (l' := mkL 11 [0, 1, 2, 3]) (by kernel_rfl) ?_
   have hK98 ac w q96 F97 u N β (S : St Tryz.prog Tryz.f36.ntmps w0 NoB u N β (σ79.dl [2, 3, 11, 79] [(7, .v (B (f_bareCtl b a.g (f_ctlOf a)).2))] 5 [(4, GT.cells (f_bareCtl b a.g (f_ctlOf a)).1 q96)]) ac w) (o95 : Ow w0 NoB u N F97 (f_bareCtl b a.g (f_ctlOf a)).1 q96) : W 0 (mkL 11 [0, 1, 2, 3, 4, 5, 6, 7, 8, 9, 10]) ac w := by
    exact od hW ⟨rfl, q96, F97, _, _, _, S.z, o95⟩
   have hK99 ac w q93 F94 u N β (S : St Tryz.prog Tryz.f36.ntmps w0 NoB u N β (σ79.dl [2, 3, 11, 79] [(88, .v (GT.val (f_bareCtl b a.g (f_ctlOf a)).1 q93)), (89, .v (B (f_bareCtl b a.g (f_ctlOf a)).2))] 5 []) ac w) (o92 : Ow w0 NoB u N F94 (f_bareCtl b a.g (f_ctlOf a)).1 q93) (hNN : NN N0 u0 N u) (hBB : BB σ79.bx.length β0 β) : W 2 (mkL 11 [0, 1, 2, 3, 4, 5, 6, 7, 8]) ac w := by
    exact ox1 hW 9 (S.wl hW [10] .nil fun _ _ _ S => hK98 _ _ q93 F94 _ _ _ S o92)
   have hK100 ac w u N β (S : St Tryz.prog Tryz.f36.ntmps w0 NoB u N β (σ79.dl [2, 3, 11, 79] [(82, .v (GT.val b pb)), (84, .v (I a.g)), (86, .v (GT.val (f_ctlOf a) ()))] 5 []) ac w) (i81 : RCtl (f_ctlOf a)) (hNN : NN N0 u0 N u) (hBB : BB σ79.bx.length β0 β) : W 6 (mkL 11 [0, 1, 2, 3, 4]) ac w := by
    refine ox1 hW 5 ?_
    refine id (S.call2 (r := (f_bareCtl b a.g (f_ctlOf a)).1) (r' := (f_bareCtl b a.g (f_ctlOf a)).2) (d := 87) (c_impl_BareCtl w b pb (S.rd (S.argG hb gb)) a.g (f_ctlOf a) i81) (by kernel_rfl) rfl fun ac w N q101 q102 F103 F104 S up o105 o106 d107 d108 d109 => ?_)
    have hb110 := fun b h => (⟨(up b (hNN b h).1).1, (up b (hNN b h).1).2.trans (hNN b h).2⟩ : _ ∧ _)
    refine WD.sc S hb110 hBB fun hC => ?_
    clear up d107
    clear d108
    exact S.wh hW [6, 7, 8] hC fun _ S => hK99 _ _ q101 F103 _ _ _ S o105 hb110 hBB
   have hNN : NN N0 u0 N0 u0 := fun b h => ⟨h, rfl⟩
   have hBB : BB σ79.bx.length β0 β0 := fun _ _ => rfl
   have i111 : RCtl (f_ctlOf a) := (ctlOf_r ha)
   exact ox1 hW 4 (S.wq hW hNN hBB [] (.cons (Q_call fun w hw => c_impl_CtlOf w a ha) .nil) fun _ _ _ S hB => hK100 _ _ _ _ _ S i111 hNN hB)
  clear S
  rintro ac w ⟨q96, F97, u, N, β, S, o95⟩
  refine S.ex fun S => ?_
  refine S.gr 13 (.cons (Q_sem (s := Instr.build 28 [(0, B (f_bareCtl b a.g (f_ctlOf a)).2), (1, I 0)].toArray) (v := .agg [B (f_bareCtl b a.g (f_ctlOf a)).2, I 0].toArray) (fun w => by kernel_rfl)) .nil) [GT.val (f_bareCtl b a.g (f_ctlOf a)).1 q96, GT.val (⟨(f_bareCtl b a.g (f_ctlOf a)).2, 0⟩ : TTold) ()] fun ac w β S => ?_
  exact retV2_own S (show (f_actOn b a).1 = (f_bareCtl b a.g (f_ctlOf a)).1 from k0_impl_bareAct) (show (f_actOn b a).2 = (⟨(f_bareCtl b a.g (f_ctlOf a)).2, 0⟩ : TTold) from k0_impl_bareAct) rfl rfl o95 (show RTold (⟨(f_bareCtl b a.g (f_ctlOf a)).2, 0⟩ : TTold) from ⟨(show In64 0 from ⟨by decide, by decide⟩)⟩)
 refine S.gd 7 .nil (a.kind == 8) (fun ac w β h112 g113 S => ?_) (fun ac w β h112 g113 S => ?_)
 ·refine S.go 9 .nil fun ac w β S => S.K2 (r := (f_barePoke b a.x a.y a.z).1) (r' := (f_barePoke b a.x a.y a.z).2) (d := 100) (c_impl_BarePoke w b pb (S.rd (S.argG hb gb)) a.x a.y a.z (RAct.z (d := a) ha)) fun ac w N q114 q115 F116 F117 S up o118 o119 d120 d121 d122 => ?_
  clear up d120
  clear d121
  refine S.gr 19 (.cons (Q_sem (s := Instr.build 28 [(0, B (f_barePoke b a.x a.y a.z).2), (1, I 0)].toArray) (v := .agg [B (f_barePoke b a.x a.y a.z).2, I 0].toArray) (fun w => by kernel_rfl)) .nil) [GT.val (f_barePoke b a.x a.y a.z).1 q114, GT.val (⟨(f_barePoke b a.x a.y a.z).2, 0⟩ : TTold) ()] fun ac w β S => ?_
  exact retV2_own S (show (f_actOn b a).1 = (f_barePoke b a.x a.y a.z).1 from k0_impl_bareAct) (show (f_actOn b a).2 = (⟨(f_barePoke b a.x a.y a.z).2, 0⟩ : TTold) from k0_impl_bareAct) rfl rfl o118 (show RTold (⟨(f_barePoke b a.x a.y a.z).2, 0⟩ : TTold) from ⟨(show In64 0 from ⟨by decide, by decide⟩)⟩)
 refine S.gd 7 .nil (a.kind == 9) (fun ac w β h123 g124 S => ?_) (fun ac w β h123 g124 S => ?_)
 ·refine S.go 5 .nil fun ac w β S => S.K2 (r := (f_barePost b a.x).1) (r' := (f_barePost b a.x).2) (d := 109) (c_impl_BarePost w b pb (S.rd (S.argG hb gb)) a.x) fun ac w N q125 q126 F127 F128 S up o129 o130 d131 d132 d133 => ?_
  clear up d131
  clear d132
  refine S.gr 19 (.cons (Q_sem (s := Instr.build 28 [(0, B (f_barePost b a.x).2), (1, I 0)].toArray) (v := .agg [B (f_barePost b a.x).2, I 0].toArray) (fun w => by kernel_rfl)) .nil) [GT.val (f_barePost b a.x).1 q125, GT.val (⟨(f_barePost b a.x).2, 0⟩ : TTold) ()] fun ac w β S => ?_
  exact retV2_own S (show (f_actOn b a).1 = (f_barePost b a.x).1 from k0_impl_bareAct) (show (f_actOn b a).2 = (⟨(f_barePost b a.x).2, 0⟩ : TTold) from k0_impl_bareAct) rfl rfl o129 (show RTold (⟨(f_barePost b a.x).2, 0⟩ : TTold) from ⟨(show In64 0 from ⟨by decide, by decide⟩)⟩)
 refine S.gd 7 .nil (a.kind == 10) (fun ac w β h134 g135 S => ?_) (fun ac w β h134 g135 S => ?_)
 ·refine S.go 3 .nil fun ac w β S => S.K3 (r := (f_bareAck b).1) (r' := (f_bareAck b).2.1) (r'' := (f_bareAck b).2.2) (d := 116) (c_impl_BareAck w b pb (S.rd (S.argG hb gb))) fun ac w N q136 F137 S up o138 d139 i140 => ?_
  clear up d139
  refine S.gr 21 (.cons (Q_sem (s := Instr.build 28 [(0, B (f_bareAck b).2.2), (1, I (f_bareAck b).2.1)].toArray) (v := .agg [B (f_bareAck b).2.2, I (f_bareAck b).2.1].toArray) (fun w => by kernel_rfl)) .nil) [GT.val (f_bareAck b).1 q136, GT.val (⟨(f_bareAck b).2.2, (f_bareAck b).2.1⟩ : TTold) ()] fun ac w β S => ?_
  exact retV2_own S (show (f_actOn b a).1 = (f_bareAck b).1 from k0_impl_bareAct) (show (f_actOn b a).2 = (⟨(f_bareAck b).2.2, (f_bareAck b).2.1⟩ : TTold) from k0_impl_bareAct) rfl rfl o138 (show RTold (⟨(f_bareAck b).2.2, (f_bareAck b).2.1⟩ : TTold) from ⟨i140⟩)
 refine S.gd 7 .nil (a.kind == 11) (fun ac w β h141 g142 S => ?_) (fun ac w β h141 g142 S => ?_)
 ·refine S.go 9 .nil fun ac w β S => S.K2 (r := (f_bareDma b a.g a.x a.y).1) (r' := (f_bareDma b a.g a.x a.y).2) (d := 130) (c_impl_BareDma w b pb (S.rd (S.argG hb gb)) a.g a.x (RAct.x (d := a) ha) a.y (RAct.y (d := a) ha)) fun ac w N q143 q144 F145 F146 S up o147 o148 d149 d150 d151 => ?_
  clear up d149
  clear d150
  refine S.gr 19 (.cons (Q_sem (s := Instr.build 28 [(0, B (f_bareDma b a.g a.x a.y).2), (1, I 0)].toArray) (v := .agg [B (f_bareDma b a.g a.x a.y).2, I 0].toArray) (fun w => by kernel_rfl)) .nil) [GT.val (f_bareDma b a.g a.x a.y).1 q143, GT.val (⟨(f_bareDma b a.g a.x a.y).2, 0⟩ : TTold) ()] fun ac w β S => ?_
  exact retV2_own S (show (f_actOn b a).1 = (f_bareDma b a.g a.x a.y).1 from k0_impl_bareAct) (show (f_actOn b a).2 = (⟨(f_bareDma b a.g a.x a.y).2, 0⟩ : TTold) from k0_impl_bareAct) rfl rfl o147 (show RTold (⟨(f_bareDma b a.g a.x a.y).2, 0⟩ : TTold) from ⟨(show In64 0 from ⟨by decide, by decide⟩)⟩)
 refine S.gd 7 .nil (a.kind == 12) (fun ac w β h152 g153 S => ?_) (fun ac w β h152 g153 S => ?_)
 ·have i154 : In64 (f_bareRead b a.g a.x).1 := (bareRead_in64 (S.argG hb gb) a.g a.x)
  refine S.gr 27 (.cons (Q_call fun w hw => c_impl_BareRead w b pb (rd_of (S.argG hb gb) hw) a.g a.x (RAct.x (d := a) ha)) (.cons (Q_sem (s := Instr.build 28 [(0, B (f_bareRead b a.g a.x).2), (1, I (f_bareRead b a.g a.x).1)].toArray) (v := .agg [B (f_bareRead b a.g a.x).2, I (f_bareRead b a.g a.x).1].toArray) (fun w => by kernel_rfl)) .nil)) [GT.val b pb, GT.val (⟨(f_bareRead b a.g a.x).2, (f_bareRead b a.g a.x).1⟩ : TTold) ()] fun ac w β S => ?_
  exact retV2_arg S (show (f_actOn b a).1 = b from k0_impl_bareAct) (show (f_actOn b a).2 = (⟨(f_bareRead b a.g a.x).2, (f_bareRead b a.g a.x).1⟩ : TTold) from k0_impl_bareAct) rfl rfl hb gb (show RTold (⟨(f_bareRead b a.g a.x).2, (f_bareRead b a.g a.x).1⟩ : TTold) from ⟨i154⟩)
 refine S.gr 15 (.cons (Q_sem (s := Instr.build 28 [(0, B false), (1, I 0)].toArray) (v := .agg [B false, I 0].toArray) (fun w => by kernel_rfl)) .nil) [GT.val b pb, GT.val (⟨false, 0⟩ : TTold) ()] fun ac w β S => ?_
 exact retV2_arg S (show (f_actOn b a).1 = b from k0_impl_bareAct) (show (f_actOn b a).2 = (⟨false, 0⟩ : TTold) from k0_impl_bareAct) rfl rfl hb gb (show RTold (⟨false, 0⟩ : TTold) from ⟨(show In64 0 from ⟨by decide, by decide⟩)⟩)

theorem k0_impl_BareAct {p : Prop} (h : p := by clear S; (first | (rw [bareAct_no (.inl (by assumption))]; done) | (rw [bareAct_no (.inr (by assumption))]; done) | (rw [bareAct_ack (by assumption) (by assumption) (by omega) (by omega)]; done) | (rw [bareAct_out (by assumption) (by assumption) (by omega) (by omega)]; done) | (rw [bareAct_in (by assumption) (by assumption) (by omega)]; done))) : p := h
theorem c_impl_BareAct (w0 : World) (list : List TBare) (plist : LP TBare) (hlist : RD w0 list plist) (a : TAct) (ha : RAct a) : Calls Tryz.prog 8 [slv list.length plist.1, GT.val a ()].toArray w0 (Ret2 NoB w0 ((f_bareAct list a).1 : List TBare) ((f_bareAct list a).2 : TTold)) := by
 refine Calls.run NoB Tryz.func8 ?_
 intro ac β S
 have hlelist : list.length ≤ 4194304 := LRd.le hlist
 refine S.go 10 .nil fun ac w β S => S.K1 (r := list) (d := 10) (c_impl_copyBares w list plist (S.rd (S.arg hlist))) fun ac w N q1 F2 S up o3 d4 => ?_
 clear up d4
 refine S.gb 11 (.cons (Q_call fun w hw => c_impl_ActOk w a) .nil) (!(f_actOk a)) (fun ac w β h5 S => ?_) (fun ac w β h5 S => ?_)
 ·have h6 := not_t h5
  refine S.gr 17 (.cons (Q_sem (s := Instr.build 28 [].toArray) (v := .agg [B false, I 0].toArray) (fun w => by kernel_rfl)) .nil) [slv list.length q1.1, GT.val (⟨false, 0⟩ : TTold) ()] fun ac w β S => ?_
  exact ret2_of (p' := ()) S (show (f_bareAct list a).1 = list from k0_impl_BareAct) (show (f_bareAct list a).2 = (⟨false, 0⟩ : TTold) from k0_impl_BareAct) rfl rfl o3 (show RTold (⟨false, 0⟩ : TTold) from ⟨(show In64 0 from ⟨by decide, by decide⟩)⟩)
 have h7 := not_f h5
 refine S.gb 7 (.cons (Q_call fun w hw => c_impl_IsOuter w a.kind) .nil) (f_isOuter a.kind) (fun ac w β h8 S => ?_) (fun ac w β h8 S => ?_)
 ·refine S.gr 10 (.cons (Q_sem (s := Instr.build 28 [].toArray) (v := .agg [B false, I 0].toArray) (fun w => by kernel_rfl)) .nil) [slv list.length q1.1, GT.val (⟨false, 0⟩ : TTold) ()] fun ac w β S => ?_
  exact ret2_of (p' := ()) S (show (f_bareAct list a).1 = list from k0_impl_BareAct) (show (f_bareAct list a).2 = (⟨false, 0⟩ : TTold) from k0_impl_BareAct) rfl rfl o3 (show RTold (⟨false, 0⟩ : TTold) from ⟨(show In64 0 from ⟨by decide, by decide⟩)⟩)
 refine S.gb 10 (.cons (Q_call fun w hw => c_impl_has w a.m (list.length : Int) (by omega)) .nil) (!(f_within a.m 0 ((list.length : Int) - 1))) (fun ac w β h9 S => ?_) (fun ac w β h9 S => ?_)
 ·have h10 := not_t h9
  have g11 := within_f h10
  refine S.gd 7 .nil (a.kind == 10) (fun ac w β h12 g13 S => ?_) (fun ac w β h12 g13 S => ?_)
  ·refine S.gr 10 (.cons (Q_sem (s := Instr.build 28 [(1, I (-1))].toArray) (v := .agg [B false, I (-1)].toArray) (fun w => by kernel_rfl)) .nil) [slv list.length q1.1, GT.val (⟨false, (-1)⟩ : TTold) ()] fun ac w β S => ?_
   exact ret2_of (p' := ()) S (show (f_bareAct list a).1 = list from k0_impl_BareAct) (show (f_bareAct list a).2 = (⟨false, (-1)⟩ : TTold) from k0_impl_BareAct) rfl rfl o3 (show RTold (⟨false, (-1)⟩ : TTold) from ⟨(show In64 (-1) from ⟨by decide, by decide⟩)⟩)
  refine S.go 12 (.cons (Q_call fun w hw => c_impl_has w a.m (list.length : Int) (by omega)) .nil) fun ac w β S => ?_
  refine S.lt 36 h9 fun S => ?_
  refine S.gr 10 (.cons (Q_sem (s := Instr.build 28 [].toArray) (v := .agg [B false, I 0].toArray) (fun w => by kernel_rfl)) .nil) [slv list.length q1.1, GT.val (⟨false, 0⟩ : TTold) ()] fun ac w β S => ?_
  exact ret2_of (p' := ()) S (show (f_bareAct list a).1 = list from k0_impl_BareAct) (show (f_bareAct list a).2 = (⟨false, 0⟩ : TTold) from k0_impl_BareAct) rfl rfl o3 (show RTold (⟨false, 0⟩ : TTold) from ⟨(show In64 0 from ⟨by decide, by decide⟩)⟩)
 have h14 := not_f h9
 have g15 := within_t h14
 refine S.go 19 (.cons (Q_call fun w hw => c_impl_has w a.m (list.length : Int) (by omega)) .nil) fun ac w β S => ?_
 refine S.lt 36 h9 fun S => ?_
 refine S.go 5 .nil fun ac w β S => ?_
 refine drw ?_
 let σ16 : Sy := ⟨[(0, .v (slv list.length plist.1)), (3, .p 0 0), (5, .p 1 0), (6, .v (slv list.length q1.1)), (36, .v (B false))], [GT.cells a (), Zc TTold]⟩
 obtain ⟨u0, N0, β0, S, o3⟩ : ∃ u0 N0 β0, St Tryz.prog Tryz.f8.ntmps w0 NoB u0 N0 β0 σ16 ac w ∧ Ow w0 NoB u0 N0 F2 list q1 := ⟨_, _, _, S.z, o3⟩
 refine wp_region_cut (fun ac w => ∃ q46 F47 u N β, St Tryz.prog Tryz.f8.ntmps w0 NoB u N β (σ16.dl [0, 36] [(7, .p 2 0), (8, .p 3 0)] 4 [(2, GT.cells (f_actOn (el list a.m.toNat) a).1 q46), (3, GT.cells (f_actOn (el list a.m.toNat) a).2 ())]) ac w ∧ Ow w0 NoB u N F2 list q1 ∧ Rr u N F47 (f_actOn (el list a.m.toNat) a).1 q46 ∧ RTold (f_actOn (el list a.m.toNat) a).2) ?_ ?_
 ·refine S.draw0 (f := 14) 12 (by kernel_rfl) (by kernel_rfl) fun w S => ?_
  refine S.hq 0 [0] [] [(46, .v (slv list.length plist.1))] .nil fun ac S => ?_
  refine S.hq 1 [1] [] [(47, .p 0 1)] .nil fun ac S => ?_
  refine S.hq 2 [2] [] [(48, .v (I a.m))] .nil fun ac S => ?_
  refine S.hq 3 [3] [] [(49, .v (pt plist.1.b (plist.1.off + a.m.toNat * 4)))] (.cons (qt (S.arg hlist) a.m Tryz.underlying26) .nil) fun ac S => ?_
  refine S.hq 4 [4] [] [(50, .v (GT.val (el list a.m.toNat) (plist.2 a.m.toNat)))] (.cons (qs (S.arg hlist) 50 a.m.toNat) .nil) fun ac S => ?_
  refine S.hq 5 [5] [] [(51, .v (GT.val a ()))] .nil fun ac S => ?_
  refine WD.nameW fun W hW => ?_
  refine WD.castW (l' := mkL 14 [0, 1, 2, 3, 4, 5]) (by kernel_rfl) ?_
  have hK48 ac w q46 F47 u N β (S : St Tryz.prog Tryz.f8.ntmps w0 NoB u N β (σ16.dl [0, 36] [(7, .p 2 0), (8, .p 3 0)] 4 [(2, GT.cells (f_actOn (el list a.m.toNat) a).1 q46), (3, GT.cells (f_actOn (el list a.m.toNat) a).2 ())]) ac w) (o3 : Ow w0 NoB u N F2 list q1) (o45 : Rr u N F47 (f_actOn (el list a.m.toNat) a).1 q46) (i26 : RTold (f_actOn (el list a.m.toNat) a).2) : W 0 (mkL 14 [0, 1, 2, 3, 4, 5, 6, 7, 8, 9, 10, 11, 12, 13]) ac w := by
   exact od hW ⟨rfl, q46, F47, _, _, _, S.z, o3, o45, i26⟩
  have hK49 ac w q46 F47 u N β (S : St Tryz.prog Tryz.f8.ntmps w0 NoB u N β (σ16.dl [0, 36] [(7, .p 2 0), (8, .p 3 0), (54, .v (GT.val (f_actOn (el list a.m.toNat) a).2 ()))] 4 [(2, GT.cells (f_actOn (el list a.m.toNat) a).1 q46), (3, Zc TTold)]) ac w) (o3 : Ow w0 NoB u N F2 list q1) (o45 : Rr u N F47 (f_actOn (el list a.m.toNat) a).1 q46) (i26 : RTold (f_actOn (el list a.m.toNat) a).2) : W 1 (mkL 14 [0, 1, 2, 3, 4, 5, 6, 7, 8, 9, 10, 11, 12]) ac w := by
   exact ox1 hW 13 (S.wl hW [] .nil fun _ _ _ S => hK48 _ _ q46 F47 _ _ _ S o3 o45 i26)
  have hK50 ac w q24 F25 u N β (S : St Tryz.prog Tryz.f8.ntmps w0 NoB u N β (σ16.dl [0, 36] [(7, .p 2 0), (8, .p 3 0), (53, .v (GT.val (f_actOn (el list a.m.toNat) a).1 q24)), (54, .v (GT.val (f_actOn (el list a.m.toNat) a).2 ()))] 4 [(2, Zc TBare), (3, Zc TTold)]) ac w) (o3 : Ow w0 NoB u N F2 list q1) (o23 : Rr u N F25 (f_actOn (el list a.m.toNat) a).1 q24) (i26 : RTold (f_actOn (el list a.m.toNat) a).2) (hNN : NN N0 u0 N u) (hBB : BB σ16.bx.length β0 β) : W 2 (mkL 14 [0, 1, 2, 3, 4, 5, 6, 7, 8, 9, 10, 11]) ac w := by
   exact ox1 hW 12 (S.wl hW [] .nil fun _ _ _ S => hK49 _ _ q24 F25 _ _ _ S o3 o23 i26)
  have hK51 ac w q24 F25 u N β (S : St Tryz.prog Tryz.f8.ntmps w0 NoB u N β (σ16.dl [0, 36] [(7, .p 2 0), (53, .v (GT.val (f_actOn (el list a.m.toNat) a).1 q24)), (54, .v (GT.val (f_actOn (el list a.m.toNat) a).2 ()))] 3 [(2, Zc TBare)]) ac w) (o3 : Ow w0 NoB u N F2 list q1) (o23 : Rr u N F25 (f_actOn (el list a.m.toNat) a).1 q24) (i26 : RTold (f_actOn (el list a.m.toNat) a).2) (hNN : NN N0 u0 N u) (hBB : BB σ16.bx.length β0 β) : W 3 (mkL 14 [0, 1, 2, 3, 4, 5, 6, 7, 8, 9, 10]) ac w := by
   exact ox1 hW 11 (S.wq hW hNN hBB [] .nil fun _ _ _ S hB => hK50 _ _ q24 F25 _ _ _ S o3 o23 i26 hNN hB)
  have hK52 ac w q24 F25 u N β (S : St Tryz.prog Tryz.f8.ntmps w0 NoB u N β (σ16.dl [0, 36] [(8, .p 2 0), (53, .v (GT.val (f_actOn (el list a.m.toNat) a).1 q24)), (54, .v (GT.val (f_actOn (el list a.m.toNat) a).2 ()))] 3 [(2, Zc TTold)]) ac w) (o3 : Ow w0 NoB u N F2 list q1) (o23 : Rr u N F25 (f_actOn (el list a.m.toNat) a).1 q24) (i26 : RTold (f_actOn (el list a.m.toNat) a).2) (hNN : NN N0 u0 N u) (hBB : BB σ16.bx.length β0 β) : W 3 (mkL 14 [0, 1, 2, 3, 4, 5, 6, 7, 8, 9, 11]) ac w := by
   exact ox1 hW 10 (S.wq (σ' := (σ16.dl [0, 36] [(7, .p 3 0), (8, .p 2 0), (53, .v (GT.val (f_actOn (el list a.m.toNat) a).1 q24)), (54, .v (GT.val (f_actOn (el list a.m.toNat) a).2 ()))] 4 [(2, Zc TTold), (3, Zc TBare)])) hW hNN hBB [] .nil fun _ _ _ S hB => hK50 _ _ q24 F25 _ _ _ (S.swp 2 3) o3 o23 i26 hNN (hB.sw 2 3))
  have hK53 ac w q24 F25 u N β (S : St Tryz.prog Tryz.f8.ntmps w0 NoB u N β (σ16.dl [0, 36] [(53, .v (GT.val (f_actOn (el list a.m.toNat) a).1 q24)), (54, .v (GT.val (f_actOn (el list a.m.toNat) a).2 ()))] 2 []) ac w) (o3 : Ow w0 NoB u N F2 list q1) (o23 : Rr u N F25 (f_actOn (el list a.m.toNat) a).1 q24) (i26 : RTold (f_actOn (el list a.m.toNat) a).2) (hNN : NN N0 u0 N u) (hBB : BB σ16.bx.length β0 β) : W 4 (mkL 14 [0, 1, 2, 3, 4, 5, 6, 7, 8, 9]) ac w := by
   exact ox2 hW 10 11 (S.wq hW hNN hBB [] .nil fun _ _ _ S hB => hK51 _ _ q24 F25 _ _ _ S o3 o23 i26 hNN hB) (S.wq hW hNN hBB [] .nil fun _ _ _ S hB => hK52 _ _ q24 F25 _ _ _ S o3 o23 i26 hNN hB)
  have hK54 ac w u N β (S : St Tryz.prog Tryz.f8.ntmps w0 NoB u N β (σ16.dl [0, 36] [(7, .p 2 0), (8, .p 3 0), (50, .v (GT.val (el list a.m.toNat) (plist.2 a.m.toNat))), (51, .v (GT.val a ()))] 4 [(2, Zc TBare), (3, Zc TTold)]) ac w) (o3 : Ow w0 NoB u N F2 list q1) (hNN : NN N0 u0 N u) (hBB : BB σ16.bx.length β0 β) : W 6 (mkL 14 [0, 1, 2, 3, 4, 5, 10, 11]) ac w := by
   refine ox1 hW 6 ?_
   refine id (S.callV2 (r := (f_actOn (el list a.m.toNat) a).1) (r' := (f_actOn (el list a.m.toNat) a).2) (d := 52) (c_impl_bareAct w (el list a.m.toNat) (plist.2 a.m.toNat) _ (S.rdN (LRd.el (S.arg hlist) a.m.toNat (by omega))) (fun b hb => ⟨(S.sep b hb).1, id⟩) a ha) fun ac w N q55 q56 F59 S up o57 i58 => ?_)
   have hb60 := fun b h => (⟨(up b (hNN b h).1).1, (up b (hNN b h).1).2.trans (hNN b h).2⟩ : _ ∧ _)
   refine WD.sc S hb60 hBB fun hC => ?_
   replace o3 := o3.up up
   clear up
   exact S.wh hW [7, 8, 9] hC fun _ S => hK50 _ _ q55 F59 _ _ _ S o3 o57 i58 hb60 hBB
  have hK61 ac w u N β (S : St Tryz.prog Tryz.f8.ntmps w0 NoB u N β (σ16.dl [0, 36] [(7, .p 2 0), (50, .v (GT.val (el list a.m.toNat) (plist.2 a.m.toNat))), (51, .v (GT.val a ()))] 3 [(2, Zc TBare)]) ac w) (o3 : Ow w0 NoB u N F2 list q1) (hNN : NN N0 u0 N u) (hBB : BB σ16.bx.length β0 β) : W 7 (mkL 14 [0, 1, 2, 3, 4, 5, 10]) ac w := by
   refine ox2 hW 6 11 ?_ (S.wq hW hNN hBB [] .nil fun _ _ _ S hB => hK54 _ _ _ _ _ S o3 hNN hB)
   refine id (S.callV2 (r := (f_actOn (el list a.m.toNat) a).1) (r' := (f_actOn (el list a.m.toNat) a).2) (d := 52) (c_impl_bareAct w (el list a.m.toNat) (plist.2 a.m.toNat) _ (S.rdN (LRd.el (S.arg hlist) a.m.toNat (by omega))) (fun b hb => ⟨(S.sep b hb).1, id⟩) a ha) fun ac w N q62 q63 F66 S up o64 i65 => ?_)
   have hb67 := fun b h => (⟨(up b (hNN b h).1).1, (up b (hNN b h).1).2.trans (hNN b h).2⟩ : _ ∧ _)
   refine WD.sc S hb67 hBB fun hC => ?_
   replace o3 := o3.up up
   clear up
   exact S.wh hW [7, 8, 9] hC fun _ S => hK51 _ _ q62 F66 _ _ _ S o3 o64 i65 hb67 hBB
  have hK68 ac w u N β (S : St Tryz.prog Tryz.f8.ntmps w0 NoB u N β (σ16.dl [0, 36] [(8, .p 2 0), (50, .v (GT.val (el list a.m.toNat) (plist.2 a.m.toNat))), (51, .v (GT.val a ()))] 3 [(2, Zc TTold)]) ac w) (o3 : Ow w0 NoB u N F2 list q1) (hNN : NN N0 u0 N u) (hBB : BB σ16.bx.length β0 β) : W 7 (mkL 14 [0, 1, 2, 3, 4, 5, 11]) ac w := by
   refine ox2 hW 6 10 ?_ (S.wq (σ' := (σ16.dl [0, 36] [(7, .p 3 0), (8, .p 2 0), (50, .v (GT.val (el list a.m.toNat) (plist.2 a.m.toNat))), (51, .v (GT.val a ()))] 4 [(2, Zc TTold), (3, Zc TBare)])) hW hNN hBB [] .nil fun _ _ _ S hB => hK54 _ _ _ _ _ (S.swp 2 3) o3 hNN (hB.sw 2 3))
   refine id (S.callV2 (r := (f_actOn (el list a.m.toNat) a).1) (r' := (f_actOn (el list a.m.toNat) a).2) (d := 52) (c_impl_bareAct w (el list a.m.toNat) (plist.2 a.m.toNat) _ (S.rdN (LRd.el (S.arg hlist) a.m.toNat (by omega))) (fun b hb => ⟨(S.sep b hb).1, id⟩) a ha) fun ac w N q69 q70 F73 S up o71 i72 => ?_)
   have hb74 := fun b h => (⟨(up b (hNN b h).1).1, (up b (hNN b h).1).2.trans (hNN b h).2⟩ : _ ∧ _)
   refine WD.sc S hb74 hBB fun hC => ?_
   replace o3 := o3.up up
   clear up
   exact S.wh hW [7, 8, 9] hC fun _ S => hK52 _ _ q69 F73 _ _ _ S o3 o71 i72 hb74 hBB
  have hNN : NN N0 u0 N0 u0 := fun b h => ⟨h, rfl⟩
  have hBB : BB σ16.bx.length β0 β0 := fun _ _ => rfl
  refine ox3 hW 6 10 11 ?_ (S.wq hW hNN hBB [] .nil fun _ _ _ S hB => hK61 _ _ _ _ _ S o3 hNN hB) (S.wq hW hNN hBB [] .nil fun _ _ _ S hB => hK68 _ _ _ _ _ S o3 hNN hB)
  refine id (S.callV2 (r := (f_actOn (el list a.m.toNat) a).1) (r' := (f_actOn (el list a.m.toNat) a).2) (d := 52) (c_impl_bareAct w (el list a.m.toNat) (plist.2 a.m.toNat) _ (S.rdN (LRd.el (S.arg hlist) a.m.toNat (by omega))) (fun b hb => ⟨(S.sep b hb).1, id⟩) a ha) fun ac w N q75 q76 F79 S up o77 i78 => ?_)
  have hb80 := fun b h => (⟨(up b (hNN b h).1).1, (up b (hNN b h).1).2.trans (hNN b h).2⟩ : _ ∧ _)
  refine WD.sc S hb80 hBB fun hC => ?_
  replace o3 := o3.up up
  clear up
  exact S.wh hW [7, 8, 9] hC fun _ S => hK53 _ _ q75 F79 _ _ _ S o3 o77 i78 hb80 hBB
 clear S o3
 rintro ac w ⟨q46, F47, u, N, β, S, o3, o45, i26⟩
 refine S.ex fun S => ?_
 refine S.go 2 .nil fun ac w β S => ?_
 refine drw ?_
 refine S.draw0 (f := 7) 6 (by kernel_rfl) (by kernel_rfl) fun w S => ?_
 refine S.hq 0 [0] [] [(55, .v (slv list.length q1.1))] .nil fun ac S => ?_
 refine S.hq 1 [1] [] [(56, .p 0 1)] .nil fun ac S => ?_
 refine S.hq 2 [2] [] [(57, .v (I a.m))] .nil fun ac S => ?_
 refine S.hq 3 [3] [] [(58, .v (GT.val (f_actOn (el list a.m.toNat) a).1 q46))] .nil fun ac S => ?_
 refine WD.one (i := 4) (by kernel_rfl) ?_
 refine id (S.k1 59 (c_impl_copyBare w (f_actOn (el list a.m.toNat) a).1 q46 (S.rd o45.rn)) fun ac w N q81 F82 S up o83 d84 => ?_)
 refine WD.next S up (by kernel_rfl) ?_
 have d85 := Disj.w d84 o3.sub
 replace o3 := o3.up up
 clear up d84
 refine S.hq 5 [5] [] [(60, .v (pt q1.1.b (q1.1.off + a.m.toNat * 4)))] (.cons (qt o3.rn a.m Tryz.underlying26) .nil) fun ac S => ?_
 refine WD.one (i := 6) (by kernel_rfl) ?_
 refine id (S.sV (α := TBare) o3 (t := 50) (k := a.m.toNat) (off := q1.1.off + a.m.toNat * 4) o83 d85 fun w N F88 q89 S up o87 d90 s91 n92 => ?_)
 refine WD.last (by kernel_rfl) ?_
 clear up d90 o3 n92
 have l93 : (list.set a.m.toNat (f_actOn (el list a.m.toNat) a).1).length = list.length := List.length_set
 refine WD.done (by kernel_rfl) ?_ _
 refine S.ex fun S => ?_
 refine S.go 2 .nil fun ac w β S => ?_
 refine drw ?_
 refine S.draw0 (f := 4) 3 (by kernel_rfl) (by kernel_rfl) fun w S => ?_
 refine S.hq 0 [0] [] [(61, .v (slv list.length q1.1))] .nil fun ac S => ?_
 refine S.hq 1 [1] [] [(62, .v (GT.val (f_actOn (el list a.m.toNat) a).2 ()))] .nil fun ac S => ?_
 refine S.hq 2 [2] [] [(4, .v (slv list.length q1.1))] .nil fun ac S => ?_
 refine S.sl 3 [] [] 4 [(1, GT.cells (f_actOn (el list a.m.toNat) a).2 ())] .nil fun ac w β S => ?_
 refine WD.done (by kernel_rfl) ?_ _
 refine S.ex fun S => ?_
 refine S.gr 2 .nil [slv list.length q1.1, GT.val (f_actOn (el list a.m.toNat) a).2 ()] fun ac w β S => ?_
 exact ret2_of (p' := ()) S (show (f_bareAct list a).1 = (list.set a.m.toNat (f_actOn (el list a.m.toNat) a).1) from k0_impl_BareAct) (show (f_bareAct list a).2 = (f_actOn (el list a.m.toNat) a).2 from k0_impl_BareAct) (by rw [show list.length = (list.set a.m.toNat (f_actOn (el list a.m.toNat) a).1).length from (by rw [List.length_set])]; rfl) rfl o87 i26

theorem k0_laws_eqIntS {p : Prop} (h : p := by clear S; first | (simp; intro e; subst e; simp_all; done) | (simp; rw [take_all (by omega), take_all (by omega)] at he; exact he) | (simp; exact take_ne (by simp_all))) : p := h
theorem c_laws_eqIntS (w0 : World) (a : List Int) (pa : LP Int) (ha : RD w0 a pa) (b : List Int) (pb : LP Int) (hb : RD w0 b pb) : Calls Tryz.prog 101 [slv a.length pa.1, slv b.length pb.1].toArray w0 (fun e w' => e = .returned (B (decide (a = b))) ∧ Chg NoB w0 w') := by
 refine Calls.run NoB Tryz.func101 ?_
 intro ac β S
 have hlea : a.length ≤ 4194304 := LRd.le ha
 have hleb : b.length ≤ 4194304 := LRd.le hb
 refine S.gd 15 .nil ((a.length : Int) != (b.length : Int)) (fun ac w β h1 g2 S => ?_) (fun ac w β h1 g2 S => ?_)
 ·exact S.gf 7 .nil [B false] (retB k0_laws_eqIntS)
 refine S.go 10 .nil fun ac w β S => ?_
 refine lp (fun mm ac w => ∃ (k : Nat)  (u : _) (N : _) (β : _), mm = a.length - k ∧ (k ≤ a.length) ∧ (a.length = b.length) ∧ (a.take k = b.take k) ∧ St Tryz.prog Tryz.f101.ntmps w0 NoB u N β ⟨[(0, .v (slv a.length pa.1)), (1, .v (slv b.length pb.1)), (5, .v (I (k : Int)))], []⟩ ac w) _ ⟨0, _, _, _, rfl, o0, o0, (by simp), S.z⟩ ?_
 clear S
 rintro f3 mm hf4 ac w ⟨k, u, N, β, rfl, hk, hab, he, S⟩
 refine S.rs fun S => ?_
 refine S.gd 9 .nil (decide ((k : Int) < (a.length : Int))) (fun ac w β h5 g6 S => ?_) (fun ac w β h5 g6 S => ?_)
 ·refine S.gd 8 (.cons (qn (S.arg ha) k Tryz.underlying41) (.cons (qx (S.arg ha) 3 k) (.cons (qn (S.arg hb) k Tryz.underlying41) (.cons (qx (S.arg hb) 3 k) .nil)))) ((el a k) != (el b k)) (fun ac w β h7 g8 S => ?_) (fun ac w β h7 g8 S => ?_)
  ·exact S.gf 7 .nil [B false] (retB k0_laws_eqIntS)
  refine S.ge 9 (.cons (qp (k : Int) 1) .nil) f3 fun ac w β S => hf4.of (a.length - (k + 1)) _ _ (by omega) ⟨k + 1, _, _, _, rfl, ?_, ?_, ?_, S.z⟩
  ·exact oz
  ·exact oz
  ·clear S; exact take_eq_step (by omega) (by omega) he (by simp_all)
 exact S.gf 12 .nil [B true] (retB k0_laws_eqIntS)

theorem k0_laws_eqIntSS {p : Prop} (h : p := by clear S; first | (simp; intro e; subst e; simp_all; done) | (simp; rw [take_all (by omega), take_all (by omega)] at he; exact he) | (simp; exact take_ne (by simp_all))) : p := h
theorem c_laws_eqIntSS (w0 : World) (a : List (List Int)) (pa : LP (List Int)) (ha : RD w0 a pa) (b : List (List Int)) (pb : LP (List Int)) (hb : RD w0 b pb) : Calls Tryz.prog 99 [slv a.length pa.1, slv b.length pb.1].toArray w0 (fun e w' => e = .returned (B (decide (a = b))) ∧ Chg NoB w0 w') := by
 refine Calls.run NoB Tryz.func99 ?_
 intro ac β S
 have hlea : a.length ≤ 4194304 := LRd.le ha
 have hleb : b.length ≤ 4194304 := LRd.le hb
 refine S.gd 15 .nil ((a.length : Int) != (b.length : Int)) (fun ac w β h1 g2 S => ?_) (fun ac w β h1 g2 S => ?_)
 ·exact S.gf 7 .nil [B false] (retB k0_laws_eqIntSS)
 refine S.go 10 .nil fun ac w β S => ?_
 refine lp (fun mm ac w => ∃ (k : Nat)  (u : _) (N : _) (β : _), mm = a.length - k ∧ (k ≤ a.length) ∧ (a.length = b.length) ∧ (a.take k = b.take k) ∧ St Tryz.prog Tryz.f99.ntmps w0 NoB u N β ⟨[(0, .v (slv a.length pa.1)), (1, .v (slv b.length pb.1)), (5, .v (I (k : Int)))], []⟩ ac w) _ ⟨0, _, _, _, rfl, o0, o0, (by simp), S.z⟩ ?_
 clear S
 rintro f3 mm hf4 ac w ⟨k, u, N, β, rfl, hk, hab, he, S⟩
 refine S.rs fun S => ?_
 refine S.gd 9 .nil (decide ((k : Int) < (a.length : Int))) (fun ac w β h5 g6 S => ?_) (fun ac w β h5 g6 S => ?_)
 ·refine S.gb 8 (.cons (qn (S.arg ha) k Tryz.underlying39) (.cons (qx (S.arg ha) 41 k) (.cons (qn (S.arg hb) k Tryz.underlying39) (.cons (qx (S.arg hb) 41 k) (.cons (Q_call fun w hw => c_laws_eqIntS w (el a k) (pa.2 k) (rd_of (LRd.el (S.arg ha) k (by omega)) hw) (el b k) (pb.2 k) (rd_of (LRd.el (S.arg hb) k (by omega)) hw)) .nil))))) (!(decide ((el a k) = (el b k)))) (fun ac w β h7 S => ?_) (fun ac w β h7 S => ?_)
  ·have h8 := not_t h7
   have g9 := of_decide_eq_false h8
   exact S.gf 7 .nil [B false] (retB k0_laws_eqIntSS)
  have h10 := not_f h7
  have g11 := of_decide_eq_true h10
  refine S.ge 9 (.cons (qp (k : Int) 1) .nil) f3 fun ac w β S => hf4.of (a.length - (k + 1)) _ _ (by omega) ⟨k + 1, _, _, _, rfl, ?_, ?_, ?_, S.z⟩
  ·exact oz
  ·exact oz
  ·clear S; exact take_eq_step (by omega) (by omega) he (by simp_all)
 exact S.gf 12 .nil [B true] (retB k0_laws_eqIntSS)

theorem k0_laws_eqIns {p : Prop} (h : p := by clear S; first | (simp [TIns.ext_iff, *]; done) | (simp_all [TIns.ext_iff]; done)) : p := h
theorem c_laws_eqIns (w0 : World) (a : TIns) (b : TIns) : Calls Tryz.prog 207 [GT.val a (), GT.val b ()].toArray w0 (fun e w' => e = .returned (B (decide (a = b))) ∧ Chg NoB w0 w') := by
 refine Calls.run NoB Tryz.func207 ?_
 intro ac β S
 refine S.gd 17 .nil (a.opc != b.opc) (fun ac w β h1 g2 S => ?_) (fun ac w β h1 g2 S => ?_)
 ·exact S.gf 7 .nil [B false] (retB k0_laws_eqIns)
 refine S.gd 13 .nil (a.x != b.x) (fun ac w β h3 g4 S => ?_) (fun ac w β h3 g4 S => ?_)
 ·exact S.gf 7 .nil [B false] (retB k0_laws_eqIns)
 exact S.gf 9 .nil [B true] (retB k0_laws_eqIns)

theorem k0_laws_eqInsS {p : Prop} (h : p := by clear S; first | (simp; intro e; subst e; simp_all; done) | (simp; rw [take_all (by omega), take_all (by omega)] at he; exact he) | (simp; exact take_ne (by simp_all))) : p := h
theorem c_laws_eqInsS (w0 : World) (a : List TIns) (pa : LP TIns) (ha : RD w0 a pa) (b : List TIns) (pb : LP TIns) (hb : RD w0 b pb) : Calls Tryz.prog 194 [slv a.length pa.1, slv b.length pb.1].toArray w0 (fun e w' => e = .returned (B (decide (a = b))) ∧ Chg NoB w0 w') := by
 refine Calls.run NoB Tryz.func194 ?_
 intro ac β S
 have hlea : a.length ≤ 4194304 := LRd.le ha
 have hleb : b.length ≤ 4194304 := LRd.le hb
 refine S.gd 15 .nil ((a.length : Int) != (b.length : Int)) (fun ac w β h1 g2 S => ?_) (fun ac w β h1 g2 S => ?_)
 ·exact S.gf 7 .nil [B false] (retB k0_laws_eqInsS)
 refine S.go 10 .nil fun ac w β S => ?_
 refine lp (fun mm ac w => ∃ (k : Nat)  (u : _) (N : _) (β : _), mm = a.length - k ∧ (k ≤ a.length) ∧ (a.length = b.length) ∧ (a.take k = b.take k) ∧ St Tryz.prog Tryz.f194.ntmps w0 NoB u N β ⟨[(0, .v (slv a.length pa.1)), (1, .v (slv b.length pb.1)), (5, .v (I (k : Int)))], []⟩ ac w) _ ⟨0, _, _, _, rfl, o0, o0, (by simp), S.z⟩ ?_
 clear S
 rintro f3 mm hf4 ac w ⟨k, u, N, β, rfl, hk, hab, he, S⟩
 refine S.rs fun S => ?_
 refine S.gd 9 .nil (decide ((k : Int) < (a.length : Int))) (fun ac w β h5 g6 S => ?_) (fun ac w β h5 g6 S => ?_)
 ·refine S.gb 8 (.cons (qn (S.arg ha) k Tryz.underlying76) (.cons (qs (S.arg ha) 98 k) (.cons (qn (S.arg hb) k Tryz.underlying76) (.cons (qs (S.arg hb) 98 k) (.cons (Q_call fun w hw => c_laws_eqIns w (el a k) (el b k)) .nil))))) (!(decide ((el a k) = (el b k)))) (fun ac w β h7 S => ?_) (fun ac w β h7 S => ?_)
  ·have h8 := not_t h7
   have g9 := of_decide_eq_false h8
   exact S.gf 7 .nil [B false] (retB k0_laws_eqInsS)
  have h10 := not_f h7
  have g11 := of_decide_eq_true h10
  refine S.ge 9 (.cons (qp (k : Int) 1) .nil) f3 fun ac w β S => hf4.of (a.length - (k + 1)) _ _ (by omega) ⟨k + 1, _, _, _, rfl, ?_, ?_, ?_, S.z⟩
  ·exact oz
  ·exact oz
  ·clear S; exact take_eq_step (by omega) (by omega) he (by simp_all)
 exact S.gf 12 .nil [B true] (retB k0_laws_eqInsS)

theorem k0_laws_eqSlot {p : Prop} (h : p := by clear S; first | (simp [TSlot.ext_iff, *]; done) | (simp_all [TSlot.ext_iff]; done)) : p := h
theorem c_laws_eqSlot (w0 : World) (a : TSlot) (b : TSlot) : Calls Tryz.prog 208 [GT.val a (), GT.val b ()].toArray w0 (fun e w' => e = .returned (B (decide (a = b))) ∧ Chg NoB w0 w') := by
 refine Calls.run NoB Tryz.func208 ?_
 intro ac β S
 refine S.gd 17 .nil (a.page != b.page) (fun ac w β h1 g2 S => ?_) (fun ac w β h1 g2 S => ?_)
 ·exact S.gf 7 .nil [B false] (retB k0_laws_eqSlot)
 refine S.gd 13 .nil (a.rights != b.rights) (fun ac w β h3 g4 S => ?_) (fun ac w β h3 g4 S => ?_)
 ·exact S.gf 7 .nil [B false] (retB k0_laws_eqSlot)
 exact S.gf 9 .nil [B true] (retB k0_laws_eqSlot)

theorem k0_laws_eqSlotS {p : Prop} (h : p := by clear S; first | (simp; intro e; subst e; simp_all; done) | (simp; rw [take_all (by omega), take_all (by omega)] at he; exact he) | (simp; exact take_ne (by simp_all))) : p := h
theorem c_laws_eqSlotS (w0 : World) (a : List TSlot) (pa : LP TSlot) (ha : RD w0 a pa) (b : List TSlot) (pb : LP TSlot) (hb : RD w0 b pb) : Calls Tryz.prog 195 [slv a.length pa.1, slv b.length pb.1].toArray w0 (fun e w' => e = .returned (B (decide (a = b))) ∧ Chg NoB w0 w') := by
 refine Calls.run NoB Tryz.func195 ?_
 intro ac β S
 have hlea : a.length ≤ 4194304 := LRd.le ha
 have hleb : b.length ≤ 4194304 := LRd.le hb
 refine S.gd 15 .nil ((a.length : Int) != (b.length : Int)) (fun ac w β h1 g2 S => ?_) (fun ac w β h1 g2 S => ?_)
 ·exact S.gf 7 .nil [B false] (retB k0_laws_eqSlotS)
 refine S.go 10 .nil fun ac w β S => ?_
 refine lp (fun mm ac w => ∃ (k : Nat)  (u : _) (N : _) (β : _), mm = a.length - k ∧ (k ≤ a.length) ∧ (a.length = b.length) ∧ (a.take k = b.take k) ∧ St Tryz.prog Tryz.f195.ntmps w0 NoB u N β ⟨[(0, .v (slv a.length pa.1)), (1, .v (slv b.length pb.1)), (5, .v (I (k : Int)))], []⟩ ac w) _ ⟨0, _, _, _, rfl, o0, o0, (by simp), S.z⟩ ?_
 clear S
 rintro f3 mm hf4 ac w ⟨k, u, N, β, rfl, hk, hab, he, S⟩
 refine S.rs fun S => ?_
 refine S.gd 9 .nil (decide ((k : Int) < (a.length : Int))) (fun ac w β h5 g6 S => ?_) (fun ac w β h5 g6 S => ?_)
 ·refine S.gb 8 (.cons (qn (S.arg ha) k Tryz.underlying77) (.cons (qs (S.arg ha) 55 k) (.cons (qn (S.arg hb) k Tryz.underlying77) (.cons (qs (S.arg hb) 55 k) (.cons (Q_call fun w hw => c_laws_eqSlot w (el a k) (el b k)) .nil))))) (!(decide ((el a k) = (el b k)))) (fun ac w β h7 S => ?_) (fun ac w β h7 S => ?_)
  ·have h8 := not_t h7
   have g9 := of_decide_eq_false h8
   exact S.gf 7 .nil [B false] (retB k0_laws_eqSlotS)
  have h10 := not_f h7
  have g11 := of_decide_eq_true h10
  refine S.ge 9 (.cons (qp (k : Int) 1) .nil) f3 fun ac w β S => hf4.of (a.length - (k + 1)) _ _ (by omega) ⟨k + 1, _, _, _, rfl, ?_, ?_, ?_, S.z⟩
  ·exact oz
  ·exact oz
  ·clear S; exact take_eq_step (by omega) (by omega) he (by simp_all)
 exact S.gf 12 .nil [B true] (retB k0_laws_eqSlotS)

theorem k0_laws_eqCtl {p : Prop} (h : p := by clear S; first | (simp [TCtl.ext_iff, *]; done) | (simp_all [TCtl.ext_iff]; done)) : p := h
theorem c_laws_eqCtl (w0 : World) (a : TCtl) (b : TCtl) : Calls Tryz.prog 196 [GT.val a (), GT.val b ()].toArray w0 (fun e w' => e = .returned (B (decide (a = b))) ∧ Chg NoB w0 w') := by
 refine Calls.run NoB Tryz.func196 ?_
 intro ac β S
 refine S.gd 17 .nil (a.traps != b.traps) (fun ac w β h1 g2 S => ?_) (fun ac w β h1 g2 S => ?_)
 ·exact S.gf 7 .nil [B false] (retB k0_laws_eqCtl)
 refine S.gd 13 .nil (a.post != b.post) (fun ac w β h3 g4 S => ?_) (fun ac w β h3 g4 S => ?_)
 ·exact S.gf 7 .nil [B false] (retB k0_laws_eqCtl)
 refine S.gb 13 .nil (!(a.opn == b.opn)) (fun ac w β h5 S => ?_) (fun ac w β h5 S => ?_)
 ·have h6 := not_t h5
  have g7 : ¬ (a.opn = b.opn) := ne_of_beq_false h6
  exact S.gf 7 .nil [B false] (retB k0_laws_eqCtl)
 have h8 := not_f h5
 have g9 : a.opn = b.opn := eq_of_beq h8
 exact S.gf 9 .nil [B true] (retB k0_laws_eqCtl)

theorem k0_laws_eqExit {p : Prop} (h : p := by clear S; first | (simp [TExit.ext_iff, *]; done) | (simp_all [TExit.ext_iff]; done)) : p := h
theorem c_laws_eqExit (w0 : World) (a : TExit) (b : TExit) : Calls Tryz.prog 197 [GT.val a (), GT.val b ()].toArray w0 (fun e w' => e = .returned (B (decide (a = b))) ∧ Chg NoB w0 w') := by
 refine Calls.run NoB Tryz.func197 ?_
 intro ac β S
 refine S.gd 17 .nil (a.kind != b.kind) (fun ac w β h1 g2 S => ?_) (fun ac w β h1 g2 S => ?_)
 ·exact S.gf 7 .nil [B false] (retB k0_laws_eqExit)
 refine S.gd 13 .nil (a.page != b.page) (fun ac w β h3 g4 S => ?_) (fun ac w β h3 g4 S => ?_)
 ·exact S.gf 7 .nil [B false] (retB k0_laws_eqExit)
 refine S.gb 13 .nil (!(a.wr == b.wr)) (fun ac w β h5 S => ?_) (fun ac w β h5 S => ?_)
 ·have h6 := not_t h5
  have g7 : ¬ (a.wr = b.wr) := ne_of_beq_false h6
  exact S.gf 7 .nil [B false] (retB k0_laws_eqExit)
 have h8 := not_f h5
 have g9 : a.wr = b.wr := eq_of_beq h8
 refine S.gd 13 .nil (a.n != b.n) (fun ac w β h10 g11 S => ?_) (fun ac w β h10 g11 S => ?_)
 ·exact S.gf 7 .nil [B false] (retB k0_laws_eqExit)
 exact S.gf 9 .nil [B true] (retB k0_laws_eqExit)

theorem k0_laws_eqGuest {p : Prop} (h : p := by clear S; first | (simp [TGuest.ext_iff, *]; done) | (simp_all [TGuest.ext_iff]; done)) : p := h
theorem c_laws_eqGuest (w0 : World) (a : TGuest) (pa : PGuest) (ha : RD w0 a pa) (b : TGuest) (pb : PGuest) (hb : RD w0 b pb) : Calls Tryz.prog 168 [GT.val a pa, GT.val b pb].toArray w0 (fun e w' => e = .returned (B (decide (a = b))) ∧ Chg NoB w0 w') := by
 refine Calls.run NoB Tryz.func168 ?_
 intro ac β S
 have hlea_prog : a.prog.length ≤ 4194304 := LRd.le (RGuest.prog (d := a) ha)
 have hlea_written : a.written.length ≤ 4194304 := LRd.le (RGuest.written (d := a) ha)
 have hlea_live : a.live.length ≤ 4194304 := LRd.le (RGuest.live (d := a) ha)
 have hlea_seen : a.seen.length ≤ 4194304 := LRd.le (RGuest.seen (d := a) ha)
 have hleb_prog : b.prog.length ≤ 4194304 := LRd.le (RGuest.prog (d := b) hb)
 have hleb_written : b.written.length ≤ 4194304 := LRd.le (RGuest.written (d := b) hb)
 have hleb_live : b.live.length ≤ 4194304 := LRd.le (RGuest.live (d := b) hb)
 have hleb_seen : b.seen.length ≤ 4194304 := LRd.le (RGuest.seen (d := b) hb)
 refine S.gb 18 (.cons (Q_call fun w hw => c_laws_eqInsS w a.prog pa.prog (rd_of (RGuest.prog (d := a) (S.arg ha)) hw) b.prog pb.prog (rd_of (RGuest.prog (d := b) (S.arg hb)) hw)) .nil) (!(decide (a.prog = b.prog))) (fun ac w β h1 S => ?_) (fun ac w β h1 S => ?_)
 ·have h2 := not_t h1
  have g3 := of_decide_eq_false h2
  exact S.gf 7 .nil [B false] (retB k0_laws_eqGuest)
 have h4 := not_f h1
 have g5 := of_decide_eq_true h4
 refine S.gd 13 .nil (a.acc != b.acc) (fun ac w β h6 g7 S => ?_) (fun ac w β h6 g7 S => ?_)
 ·exact S.gf 7 .nil [B false] (retB k0_laws_eqGuest)
 refine S.gd 13 .nil (a.pc != b.pc) (fun ac w β h8 g9 S => ?_) (fun ac w β h8 g9 S => ?_)
 ·exact S.gf 7 .nil [B false] (retB k0_laws_eqGuest)
 refine S.gb 14 (.cons (Q_call fun w hw => c_laws_eqSlotS w a.written pa.written (rd_of (RGuest.written (d := a) (S.arg ha)) hw) b.written pb.written (rd_of (RGuest.written (d := b) (S.arg hb)) hw)) .nil) (!(decide (a.written = b.written))) (fun ac w β h10 S => ?_) (fun ac w β h10 S => ?_)
 ·have h11 := not_t h10
  have g12 := of_decide_eq_false h11
  exact S.gf 7 .nil [B false] (retB k0_laws_eqGuest)
 have h13 := not_f h10
 have g14 := of_decide_eq_true h13
 refine S.gb 14 (.cons (Q_call fun w hw => c_laws_eqSlotS w a.live pa.live (rd_of (RGuest.live (d := a) (S.arg ha)) hw) b.live pb.live (rd_of (RGuest.live (d := b) (S.arg hb)) hw)) .nil) (!(decide (a.live = b.live))) (fun ac w β h15 S => ?_) (fun ac w β h15 S => ?_)
 ·have h16 := not_t h15
  have g17 := of_decide_eq_false h16
  exact S.gf 7 .nil [B false] (retB k0_laws_eqGuest)
 have h18 := not_f h15
 have g19 := of_decide_eq_true h18
 refine S.gb 14 (.cons (Q_call fun w hw => c_laws_eqCtl w a.ctl b.ctl) .nil) (!(decide (a.ctl = b.ctl))) (fun ac w β h20 S => ?_) (fun ac w β h20 S => ?_)
 ·have h21 := not_t h20
  have g22 := of_decide_eq_false h21
  exact S.gf 7 .nil [B false] (retB k0_laws_eqGuest)
 have h23 := not_f h20
 have g24 := of_decide_eq_true h23
 refine S.gd 13 .nil (a.pend != b.pend) (fun ac w β h25 g26 S => ?_) (fun ac w β h25 g26 S => ?_)
 ·exact S.gf 7 .nil [B false] (retB k0_laws_eqGuest)
 refine S.gb 14 (.cons (Q_call fun w hw => c_laws_eqExit w a.exit b.exit) .nil) (!(decide (a.exit = b.exit))) (fun ac w β h27 S => ?_) (fun ac w β h27 S => ?_)
 ·have h28 := not_t h27
  have g29 := of_decide_eq_false h28
  exact S.gf 7 .nil [B false] (retB k0_laws_eqGuest)
 have h30 := not_f h27
 have g31 := of_decide_eq_true h30
 refine S.gb 13 .nil (!(a.halted == b.halted)) (fun ac w β h32 S => ?_) (fun ac w β h32 S => ?_)
 ·have h33 := not_t h32
  have g34 : ¬ (a.halted = b.halted) := ne_of_beq_false h33
  exact S.gf 7 .nil [B false] (retB k0_laws_eqGuest)
 have h35 := not_f h32
 have g36 : a.halted = b.halted := eq_of_beq h35
 refine S.gb 14 (.cons (Q_call fun w hw => c_laws_eqIntS w a.seen pa.seen (rd_of (RGuest.seen (d := a) (S.arg ha)) hw) b.seen pb.seen (rd_of (RGuest.seen (d := b) (S.arg hb)) hw)) .nil) (!(decide (a.seen = b.seen))) (fun ac w β h37 S => ?_) (fun ac w β h37 S => ?_)
 ·have h38 := not_t h37
  have g39 := of_decide_eq_false h38
  exact S.gf 7 .nil [B false] (retB k0_laws_eqGuest)
 have h40 := not_f h37
 have g41 := of_decide_eq_true h40
 exact S.gf 9 .nil [B true] (retB k0_laws_eqGuest)

theorem k0_laws_eqGuestS {p : Prop} (h : p := by clear S; first | (simp; intro e; subst e; simp_all; done) | (simp; rw [take_all (by omega), take_all (by omega)] at he; exact he) | (simp; exact take_ne (by simp_all))) : p := h
theorem c_laws_eqGuestS (w0 : World) (a : List TGuest) (pa : LP TGuest) (ha : RD w0 a pa) (b : List TGuest) (pb : LP TGuest) (hb : RD w0 b pb) : Calls Tryz.prog 100 [slv a.length pa.1, slv b.length pb.1].toArray w0 (fun e w' => e = .returned (B (decide (a = b))) ∧ Chg NoB w0 w') := by
 refine Calls.run NoB Tryz.func100 ?_
 intro ac β S
 have hlea : a.length ≤ 4194304 := LRd.le ha
 have hleb : b.length ≤ 4194304 := LRd.le hb
 refine S.gd 15 .nil ((a.length : Int) != (b.length : Int)) (fun ac w β h1 g2 S => ?_) (fun ac w β h1 g2 S => ?_)
 ·exact S.gf 7 .nil [B false] (retB k0_laws_eqGuestS)
 refine S.go 10 .nil fun ac w β S => ?_
 refine lp (fun mm ac w => ∃ (k : Nat)  (u : _) (N : _) (β : _), mm = a.length - k ∧ (k ≤ a.length) ∧ (a.length = b.length) ∧ (a.take k = b.take k) ∧ St Tryz.prog Tryz.f100.ntmps w0 NoB u N β ⟨[(0, .v (slv a.length pa.1)), (1, .v (slv b.length pb.1)), (5, .v (I (k : Int)))], []⟩ ac w) _ ⟨0, _, _, _, rfl, o0, o0, (by simp), S.z⟩ ?_
 clear S
 rintro f3 mm hf4 ac w ⟨k, u, N, β, rfl, hk, hab, he, S⟩
 refine S.rs fun S => ?_
 refine S.gd 9 .nil (decide ((k : Int) < (a.length : Int))) (fun ac w β h5 g6 S => ?_) (fun ac w β h5 g6 S => ?_)
 ·refine S.gb 8 (.cons (qn (S.arg ha) k Tryz.underlying48) (.cons (qs (S.arg ha) 81 k) (.cons (qn (S.arg hb) k Tryz.underlying48) (.cons (qs (S.arg hb) 81 k) (.cons (Q_call fun w hw => c_laws_eqGuest w (el a k) (pa.2 k) (rd_of (LRd.el (S.arg ha) k (by omega)) hw) (el b k) (pb.2 k) (rd_of (LRd.el (S.arg hb) k (by omega)) hw)) .nil))))) (!(decide ((el a k) = (el b k)))) (fun ac w β h7 S => ?_) (fun ac w β h7 S => ?_)
  ·have h8 := not_t h7
   have g9 := of_decide_eq_false h8
   exact S.gf 7 .nil [B false] (retB k0_laws_eqGuestS)
  have h10 := not_f h7
  have g11 := of_decide_eq_true h10
  refine S.ge 9 (.cons (qp (k : Int) 1) .nil) f3 fun ac w β S => hf4.of (a.length - (k + 1)) _ _ (by omega) ⟨k + 1, _, _, _, rfl, ?_, ?_, ?_, S.z⟩
  ·exact oz
  ·exact oz
  ·clear S; exact take_eq_step (by omega) (by omega) he (by simp_all)
 exact S.gf 12 .nil [B true] (retB k0_laws_eqGuestS)

theorem k0_laws_eqBare {p : Prop} (h : p := by clear S; first | (simp [TBare.ext_iff, *]; done) | (simp_all [TBare.ext_iff]; done)) : p := h
theorem c_laws_eqBare (w0 : World) (a : TBare) (pa : PBare) (ha : RD w0 a pa) (b : TBare) (pb : PBare) (hb : RD w0 b pb) : Calls Tryz.prog 38 [GT.val a pa, GT.val b pb].toArray w0 (fun e w' => e = .returned (B (decide (a = b))) ∧ Chg NoB w0 w') := by
 refine Calls.run NoB Tryz.func38 ?_
 intro ac β S
 have hlea_mem : a.mem.length ≤ 4194304 := LRd.le (RBare.mem (d := a) ha)
 have hlea_guests : a.guests.length ≤ 4194304 := LRd.le (RBare.guests (d := a) ha)
 have hlea_outs : a.outs.length ≤ 4194304 := LRd.le (RBare.outs (d := a) ha)
 have hleb_mem : b.mem.length ≤ 4194304 := LRd.le (RBare.mem (d := b) hb)
 have hleb_guests : b.guests.length ≤ 4194304 := LRd.le (RBare.guests (d := b) hb)
 have hleb_outs : b.outs.length ≤ 4194304 := LRd.le (RBare.outs (d := b) hb)
 refine S.gb 18 (.cons (Q_call fun w hw => c_laws_eqIntSS w a.mem pa.mem (rd_of (RBare.mem (d := a) (S.arg ha)) hw) b.mem pb.mem (rd_of (RBare.mem (d := b) (S.arg hb)) hw)) .nil) (!(decide (a.mem = b.mem))) (fun ac w β h1 S => ?_) (fun ac w β h1 S => ?_)
 ·have h2 := not_t h1
  have g3 := of_decide_eq_false h2
  exact S.gf 7 .nil [B false] (retB k0_laws_eqBare)
 have h4 := not_f h1
 have g5 := of_decide_eq_true h4
 refine S.gb 14 (.cons (Q_call fun w hw => c_laws_eqGuestS w a.guests pa.guests (rd_of (RBare.guests (d := a) (S.arg ha)) hw) b.guests pb.guests (rd_of (RBare.guests (d := b) (S.arg hb)) hw)) .nil) (!(decide (a.guests = b.guests))) (fun ac w β h6 S => ?_) (fun ac w β h6 S => ?_)
 ·have h7 := not_t h6
  have g8 := of_decide_eq_false h7
  exact S.gf 7 .nil [B false] (retB k0_laws_eqBare)
 have h9 := not_f h6
 have g10 := of_decide_eq_true h9
 refine S.gb 14 (.cons (Q_call fun w hw => c_laws_eqIntS w a.outs pa.outs (rd_of (RBare.outs (d := a) (S.arg ha)) hw) b.outs pb.outs (rd_of (RBare.outs (d := b) (S.arg hb)) hw)) .nil) (!(decide (a.outs = b.outs))) (fun ac w β h11 S => ?_) (fun ac w β h11 S => ?_)
 ·have h12 := not_t h11
  have g13 := of_decide_eq_false h12
  exact S.gf 7 .nil [B false] (retB k0_laws_eqBare)
 have h14 := not_f h11
 have g15 := of_decide_eq_true h14
 refine S.gd 13 .nil (a.pend != b.pend) (fun ac w β h16 g17 S => ?_) (fun ac w β h16 g17 S => ?_)
 ·exact S.gf 7 .nil [B false] (retB k0_laws_eqBare)
 exact S.gf 9 .nil [B true] (retB k0_laws_eqBare)

theorem k0_laws_eqBareS {p : Prop} (h : p := by clear S; first | (simp; intro e; subst e; simp_all; done) | (simp; rw [take_all (by omega), take_all (by omega)] at he; exact he) | (simp; exact take_ne (by simp_all))) : p := h
theorem c_laws_eqBareS (w0 : World) (a : List TBare) (pa : LP TBare) (ha : RD w0 a pa) (b : List TBare) (pb : LP TBare) (hb : RD w0 b pb) : Calls Tryz.prog 9 [slv a.length pa.1, slv b.length pb.1].toArray w0 (fun e w' => e = .returned (B (decide (a = b))) ∧ Chg NoB w0 w') := by
 refine Calls.run NoB Tryz.func9 ?_
 intro ac β S
 have hlea : a.length ≤ 4194304 := LRd.le ha
 have hleb : b.length ≤ 4194304 := LRd.le hb
 refine S.gd 15 .nil ((a.length : Int) != (b.length : Int)) (fun ac w β h1 g2 S => ?_) (fun ac w β h1 g2 S => ?_)
 ·exact S.gf 7 .nil [B false] (retB k0_laws_eqBareS)
 refine S.go 10 .nil fun ac w β S => ?_
 refine lp (fun mm ac w => ∃ (k : Nat)  (u : _) (N : _) (β : _), mm = a.length - k ∧ (k ≤ a.length) ∧ (a.length = b.length) ∧ (a.take k = b.take k) ∧ St Tryz.prog Tryz.f9.ntmps w0 NoB u N β ⟨[(0, .v (slv a.length pa.1)), (1, .v (slv b.length pb.1)), (5, .v (I (k : Int)))], []⟩ ac w) _ ⟨0, _, _, _, rfl, o0, o0, (by simp), S.z⟩ ?_
 clear S
 rintro f3 mm hf4 ac w ⟨k, u, N, β, rfl, hk, hab, he, S⟩
 refine S.rs fun S => ?_
 refine S.gd 9 .nil (decide ((k : Int) < (a.length : Int))) (fun ac w β h5 g6 S => ?_) (fun ac w β h5 g6 S => ?_)
 ·refine S.gb 8 (.cons (qn (S.arg ha) k Tryz.underlying26) (.cons (qs (S.arg ha) 50 k) (.cons (qn (S.arg hb) k Tryz.underlying26) (.cons (qs (S.arg hb) 50 k) (.cons (Q_call fun w hw => c_laws_eqBare w (el a k) (pa.2 k) (rd_of (LRd.el (S.arg ha) k (by omega)) hw) (el b k) (pb.2 k) (rd_of (LRd.el (S.arg hb) k (by omega)) hw)) .nil))))) (!(decide ((el a k) = (el b k)))) (fun ac w β h7 S => ?_) (fun ac w β h7 S => ?_)
  ·have h8 := not_t h7
   have g9 := of_decide_eq_false h8
   exact S.gf 7 .nil [B false] (retB k0_laws_eqBareS)
  have h10 := not_f h7
  have g11 := of_decide_eq_true h10
  refine S.ge 9 (.cons (qp (k : Int) 1) .nil) f3 fun ac w β S => hf4.of (a.length - (k + 1)) _ _ (by omega) ⟨k + 1, _, _, _, rfl, ?_, ?_, ?_, S.z⟩
  ·exact oz
  ·exact oz
  ·clear S; exact take_eq_step (by omega) (by omega) he (by simp_all)
 exact S.gf 12 .nil [B true] (retB k0_laws_eqBareS)

theorem k0_laws_eqTold {p : Prop} (h : p := by clear S; first | (simp [TTold.ext_iff, *]; done) | (simp_all [TTold.ext_iff]; done)) : p := h
theorem c_laws_eqTold (w0 : World) (a : TTold) (b : TTold) : Calls Tryz.prog 10 [GT.val a (), GT.val b ()].toArray w0 (fun e w' => e = .returned (B (decide (a = b))) ∧ Chg NoB w0 w') := by
 refine Calls.run NoB Tryz.func10 ?_
 intro ac β S
 refine S.gb 17 .nil (!(a.ok == b.ok)) (fun ac w β h1 S => ?_) (fun ac w β h1 S => ?_)
 ·have h2 := not_t h1
  have g3 : ¬ (a.ok = b.ok) := ne_of_beq_false h2
  exact S.gf 7 .nil [B false] (retB k0_laws_eqTold)
 have h4 := not_f h1
 have g5 : a.ok = b.ok := eq_of_beq h4
 refine S.gd 13 .nil (a.n != b.n) (fun ac w β h6 g7 S => ?_) (fun ac w β h6 g7 S => ?_)
 ·exact S.gf 7 .nil [B false] (retB k0_laws_eqTold)
 exact S.gf 9 .nil [B true] (retB k0_laws_eqTold)

end Go.Proofs.YtlpaefknpmdaoaaGreat
