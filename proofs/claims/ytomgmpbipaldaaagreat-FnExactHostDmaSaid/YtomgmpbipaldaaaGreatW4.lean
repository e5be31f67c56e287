/- The walks: what each function that the laws reach computes (part 4). -/
import Derived.Test.YtomgmpbipaldaaaGreatW3
import Derived.Test.YtomgmpbipaldaaaGreatProg
import Derived.KernelRfl
namespace Go.Proofs.YtomgmpbipaldaaaGreat
open Go
set_option linter.unusedVariables false
set_option linter.unusedSimpArgs false
set_option maxRecDepth 100000
set_option maxHeartbeats 2000000

theorem k0_laws_eqBoolS {p : Prop} (h : p := by clear S; first | (simp; intro e; subst e; simp_all; done) | (simp; rw [take_all (by omega), take_all (by omega)] at he; exact he) | (simp; exact take_ne (by simp_all))) : p := h
theorem c_laws_eqBoolS (w0 : World) (a : List Bool) (pa : LP Bool) (ha : RD w0 a pa) (b : List Bool) (pb : LP Bool) (hb : RD w0 b pb) : Calls Tryz.prog 125 [slv a.length pa.1, slv b.length pb.1].toArray w0 (fun e w' => e = .returned (B (decide (a = b))) ∧ Chg NoB w0 w') := by
 refine Calls.run NoB Tryz.func125 ?_
 intro ac β S
 have hlea : a.length ≤ 4194304 := LRd.le ha
 have hleb : b.length ≤ 4194304 := LRd.le hb
 refine S.gd 15 .nil ((a.length : Int) != (b.length : Int)) (fun ac w β h1 g2 S => ?_) (fun ac w β h1 g2 S => ?_)
 ·exact S.gf 7 .nil [B false] (retB k0_laws_eqBoolS)
 refine S.go 10 .nil fun ac w β S => ?_
 refine lp (fun mm ac w => ∃ (k : Nat)  (u : _) (N : _) (β : _), mm = a.length - k ∧ (k ≤ a.length) ∧ (a.length = b.length) ∧ (a.take k = b.take k) ∧ St Tryz.prog Tryz.f125.ntmps w0 NoB u N β ⟨[(0, .v (slv a.length pa.1)), (1, .v (slv b.length pb.1)), (5, .v (I (k : Int)))], []⟩ ac w) _ ⟨0, _, _, _, rfl, o0, o0, (by simp), S.z⟩ ?_
 clear S
 rintro f3 mm hf4 ac w ⟨k, u, N, β, rfl, hk, hab, he, S⟩
 refine S.rs fun S => ?_
 refine S.gd 9 .nil (decide ((k : Int) < (a.length : Int))) (fun ac w β h5 g6 S => ?_) (fun ac w β h5 g6 S => ?_)
 ·refine S.gb 8 (.cons (qn (S.arg ha) k Tryz.underlying64) (.cons (qx (S.arg ha) 4 k) (.cons (qn (S.arg hb) k Tryz.underlying64) (.cons (qx (S.arg hb) 4 k) .nil)))) (!((el a k) == (el b k))) (fun ac w β h7 S => ?_) (fun ac w β h7 S => ?_)
  ·have h8 := not_t h7
   have g9 : ¬ ((el a k) = (el b k)) := ne_of_beq_false h8
   exact S.gf 7 .nil [B false] (retB k0_laws_eqBoolS)
  have h10 := not_f h7
  have g11 : (el a k) = (el b k) := eq_of_beq h10
  refine S.ge 9 (.cons (qp (k : Int) 1) .nil) f3 fun ac w β S => hf4.of (a.length - (k + 1)) _ _ (by omega) ⟨k + 1, _, _, _, rfl, ?_, ?_, ?_, S.z⟩
  ·exact oz
  ·exact oz
  ·clear S; exact take_eq_step (by omega) (by omega) he (by simp_all)
 exact S.gf 12 .nil [B true] (retB k0_laws_eqBoolS)

theorem k0_laws_eqIns {p : Prop} (h : p := by clear S; first | (simp [TIns.ext_iff, *]; done) | (simp_all [TIns.ext_iff]; done)) : p := h
theorem c_laws_eqIns (w0 : World) (a : TIns) (b : TIns) : Calls Tryz.prog 196 [GT.val a (), GT.val b ()].toArray w0 (fun e w' => e = .returned (B (decide (a = b))) ∧ Chg NoB w0 w') := by
 refine Calls.run NoB Tryz.func196 ?_
 intro ac β S
 refine S.gd 17 .nil (a.opc != b.opc) (fun ac w β h1 g2 S => ?_) (fun ac w β h1 g2 S => ?_)
 ·exact S.gf 7 .nil [B false] (retB k0_laws_eqIns)
 refine S.gd 13 .nil (a.x != b.x) (fun ac w β h3 g4 S => ?_) (fun ac w β h3 g4 S => ?_)
 ·exact S.gf 7 .nil [B false] (retB k0_laws_eqIns)
 exact S.gf 9 .nil [B true] (retB k0_laws_eqIns)

theorem k0_laws_eqInsS {p : Prop} (h : p := by clear S; first | (simp; intro e; subst e; simp_all; done) | (simp; rw [take_all (by omega), take_all (by omega)] at he; exact he) | (simp; exact take_ne (by simp_all))) : p := h
theorem c_laws_eqInsS (w0 : World) (a : List TIns) (pa : LP TIns) (ha : RD w0 a pa) (b : List TIns) (pb : LP TIns) (hb : RD w0 b pb) : Calls Tryz.prog 186 [slv a.length pa.1, slv b.length pb.1].toArray w0 (fun e w' => e = .returned (B (decide (a = b))) ∧ Chg NoB w0 w') := by
 refine Calls.run NoB Tryz.func186 ?_
 intro ac β S
 have hlea : a.length ≤ 4194304 := LRd.le ha
 have hleb : b.length ≤ 4194304 := LRd.le hb
 refine S.gd 15 .nil ((a.length : Int) != (b.length : Int)) (fun ac w β h1 g2 S => ?_) (fun ac w β h1 g2 S => ?_)
 ·exact S.gf 7 .nil [B false] (retB k0_laws_eqInsS)
 refine S.go 10 .nil fun ac w β S => ?_
 refine lp (fun mm ac w => ∃ (k : Nat)  (u : _) (N : _) (β : _), mm = a.length - k ∧ (k ≤ a.length) ∧ (a.length = b.length) ∧ (a.take k = b.take k) ∧ St Tryz.prog Tryz.f186.ntmps w0 NoB u N β ⟨[(0, .v (slv a.length pa.1)), (1, .v (slv b.length pb.1)), (5, .v (I (k : Int)))], []⟩ ac w) _ ⟨0, _, _, _, rfl, o0, o0, (by simp), S.z⟩ ?_
 clear S
 rintro f3 mm hf4 ac w ⟨k, u, N, β, rfl, hk, hab, he, S⟩
 refine S.rs fun S => ?_
 refine S.gd 9 .nil (decide ((k : Int) < (a.length : Int))) (fun ac w β h5 g6 S => ?_) (fun ac w β h5 g6 S => ?_)
 ·refine S.gb 8 (.cons (qn (S.arg ha) k Tryz.underlying78) (.cons (qs (S.arg ha) 176 k) (.cons (qn (S.arg hb) k Tryz.underlying78) (.cons (qs (S.arg hb) 176 k) (.cons (Q_call fun w hw => c_laws_eqIns w (el a k) (el b k)) .nil))))) (!(decide ((el a k) = (el b k)))) (fun ac w β h7 S => ?_) (fun ac w β h7 S => ?_)
  ·have h8 := not_t h7
   have g9 := of_decide_eq_false h8
   exact S.gf 7 .nil [B false] (retB k0_laws_eqInsS)
  have h10 := not_f h7
  have g11 := of_decide_eq_true h10
  refine S.ge 9 (.cons (qp (k : Int) 1) .nil) f3 fun ac w β S => hf4.of (a.length - (k + 1)) _ _ (by omega) ⟨k + 1, _, _, _, rfl, ?_, ?_, ?_, S.z⟩
  ·exact oz
  ·exact oz
  ·clear S; exact take_eq_step (by omega) (by omega) he (by simp_all)
 exact S.gf 12 .nil [B true] (retB k0_laws_eqInsS)

theorem k0_laws_eqCtl {p : Prop} (h : p := by clear S; first | (simp [TCtl.ext_iff, *]; done) | (simp_all [TCtl.ext_iff]; done)) : p := h
theorem c_laws_eqCtl (w0 : World) (a : TCtl) (b : TCtl) : Calls Tryz.prog 187 [GT.val a (), GT.val b ()].toArray w0 (fun e w' => e = .returned (B (decide (a = b))) ∧ Chg NoB w0 w') := by
 refine Calls.run NoB Tryz.func187 ?_
 intro ac β S
 refine S.gd 17 .nil (a.traps != b.traps) (fun ac w β h1 g2 S => ?_) (fun ac w β h1 g2 S => ?_)
 ·exact S.gf 7 .nil [B false] (retB k0_laws_eqCtl)
 refine S.gd 13 .nil (a.post != b.post) (fun ac w β h3 g4 S => ?_) (fun ac w β h3 g4 S => ?_)
 ·exact S.gf 7 .nil [B false] (retB k0_laws_eqCtl)
 refine S.gb 13 .nil (!(a.opn == b.opn)) (fun ac w β h5 S => ?_) (fun ac w β h5 S => ?_)
 ·have h6 := not_t h5
  have g7 : ¬ (a.opn = b.opn) := ne_of_beq_false h6
  exact S.gf 7 .nil [B false] (retB k0_laws_eqCtl)
 have h8 := not_f h5
 have g9 : a.opn = b.opn := eq_of_beq h8
 exact S.gf 9 .nil [B true] (retB k0_laws_eqCtl)

theorem k0_laws_eqExit {p : Prop} (h : p := by clear S; first | (simp [TExit.ext_iff, *]; done) | (simp_all [TExit.ext_iff]; done)) : p := h
theorem c_laws_eqExit (w0 : World) (a : TExit) (b : TExit) : Calls Tryz.prog 188 [GT.val a (), GT.val b ()].toArray w0 (fun e w' => e = .returned (B (decide (a = b))) ∧ Chg NoB w0 w') := by
 refine Calls.run NoB Tryz.func188 ?_
 intro ac β S
 refine S.gd 17 .nil (a.kind != b.kind) (fun ac w β h1 g2 S => ?_) (fun ac w β h1 g2 S => ?_)
 ·exact S.gf 7 .nil [B false] (retB k0_laws_eqExit)
 refine S.gd 13 .nil (a.page != b.page) (fun ac w β h3 g4 S => ?_) (fun ac w β h3 g4 S => ?_)
 ·exact S.gf 7 .nil [B false] (retB k0_laws_eqExit)
 refine S.gb 13 .nil (!(a.wr == b.wr)) (fun ac w β h5 S => ?_) (fun ac w β h5 S => ?_)
 ·have h6 := not_t h5
  have g7 : ¬ (a.wr = b.wr) := ne_of_beq_false h6
  exact S.gf 7 .nil [B false] (retB k0_laws_eqExit)
 have h8 := not_f h5
 have g9 : a.wr = b.wr := eq_of_beq h8
 refine S.gd 13 .nil (a.n != b.n) (fun ac w β h10 g11 S => ?_) (fun ac w β h10 g11 S => ?_)
 ·exact S.gf 7 .nil [B false] (retB k0_laws_eqExit)
 exact S.gf 9 .nil [B true] (retB k0_laws_eqExit)

theorem k0_laws_eqGuest {p : Prop} (h : p := by clear S; first | (simp [TGuest.ext_iff, *]; done) | (simp_all [TGuest.ext_iff]; done)) : p := h
theorem c_laws_eqGuest (w0 : World) (a : TGuest) (pa : PGuest) (ha : RD w0 a pa) (b : TGuest) (pb : PGuest) (hb : RD w0 b pb) : Calls Tryz.prog 163 [GT.val a pa, GT.val b pb].toArray w0 (fun e w' => e = .returned (B (decide (a = b))) ∧ Chg NoB w0 w') := by
 refine Calls.run NoB Tryz.func163 ?_
 intro ac β S
 have hlea_prog : a.prog.length ≤ 4194304 := LRd.le (RGuest.prog (d := a) ha)
 have hlea_written : a.written.length ≤ 4194304 := LRd.le (RGuest.written (d := a) ha)
 have hlea_live : a.live.length ≤ 4194304 := LRd.le (RGuest.live (d := a) ha)
 have hlea_seen : a.seen.length ≤ 4194304 := LRd.le (RGuest.seen (d := a) ha)
 have hleb_prog : b.prog.length ≤ 4194304 := LRd.le (RGuest.prog (d := b) hb)
 have hleb_written : b.written.length ≤ 4194304 := LRd.le (RGuest.written (d := b) hb)
 have hleb_live : b.live.length ≤ 4194304 := LRd.le (RGuest.live (d := b) hb)
 have hleb_seen : b.seen.length ≤ 4194304 := LRd.le (RGuest.seen (d := b) hb)
 refine S.gb 18 (.cons (Q_call fun w hw => c_laws_eqInsS w a.prog pa.prog (rd_of (RGuest.prog (d := a) (S.arg ha)) hw) b.prog pb.prog (rd_of (RGuest.prog (d := b) (S.arg hb)) hw)) .nil) (!(decide (a.prog = b.prog))) (fun ac w β h1 S => ?_) (fun ac w β h1 S => ?_)
 ·have h2 := not_t h1
  have g3 := of_decide_eq_false h2
  exact S.gf 7 .nil [B false] (retB k0_laws_eqGuest)
 have h4 := not_f h1
 have g5 := of_decide_eq_true h4
 refine S.gd 13 .nil (a.acc != b.acc) (fun ac w β h6 g7 S => ?_) (fun ac w β h6 g7 S => ?_)
 ·exact S.gf 7 .nil [B false] (retB k0_laws_eqGuest)
 refine S.gd 13 .nil (a.pc != b.pc) (fun ac w β h8 g9 S => ?_) (fun ac w β h8 g9 S => ?_)
 ·exact S.gf 7 .nil [B false] (retB k0_laws_eqGuest)
 refine S.gb 14 (.cons (Q_call fun w hw => c_laws_eqSlotS w a.written pa.written (rd_of (RGuest.written (d := a) (S.arg ha)) hw) b.written pb.written (rd_of (RGuest.written (d := b) (S.arg hb)) hw)) .nil) (!(decide (a.written = b.written))) (fun ac w β h10 S => ?_) (fun ac w β h10 S => ?_)
 ·have h11 := not_t h10
  have g12 := of_decide_eq_false h11
  exact S.gf 7 .nil [B false] (retB k0_laws_eqGuest)
 have h13 := not_f h10
 have g14 := of_decide_eq_true h13
 refine S.gb 14 (.cons (Q_call fun w hw => c_laws_eqSlotS w a.live pa.live (rd_of (RGuest.live (d := a) (S.arg ha)) hw) b.live pb.live (rd_of (RGuest.live (d := b) (S.arg hb)) hw)) .nil) (!(decide (a.live = b.live))) (fun ac w β h15 S => ?_) (fun ac w β h15 S => ?_)
 ·have h16 := not_t h15
  have g17 := of_decide_eq_false h16
  exact S.gf 7 .nil [B false] (retB k0_laws_eqGuest)
 have h18 := not_f h15
 have g19 := of_decide_eq_true h18
 refine S.gb 14 (.cons (Q_call fun w hw => c_laws_eqCtl w a.ctl b.ctl) .nil) (!(decide (a.ctl = b.ctl))) (fun ac w β h20 S => ?_) (fun ac w β h20 S => ?_)
 ·have h21 := not_t h20
  have g22 := of_decide_eq_false h21
  exact S.gf 7 .nil [B false] (retB k0_laws_eqGuest)
 have h23 := not_f h20
 have g24 := of_decide_eq_true h23
 refine S.gd 13 .nil (a.pend != b.pend) (fun ac w β h25 g26 S => ?_) (fun ac w β h25 g26 S => ?_)
 ·exact S.gf 7 .nil [B false] (retB k0_laws_eqGuest)
 refine S.gb 14 (.cons (Q_call fun w hw => c_laws_eqExit w a.exit b.exit) .nil) (!(decide (a.exit = b.exit))) (fun ac w β h27 S => ?_) (fun ac w β h27 S => ?_)
 ·have h28 := not_t h27
  have g29 := of_decide_eq_false h28
  exact S.gf 7 .nil [B false] (retB k0_laws_eqGuest)
 have h30 := not_f h27
 have g31 := of_decide_eq_true h30
 refine S.gb 13 .nil (!(a.halted == b.halted)) (fun ac w β h32 S => ?_) (fun ac w β h32 S => ?_)
 ·have h33 := not_t h32
  have g34 : ¬ (a.halted = b.halted) := ne_of_beq_false h33
  exact S.gf 7 .nil [B false] (retB k0_laws_eqGuest)
 have h35 := not_f h32
 have g36 : a.halted = b.halted := eq_of_beq h35
 refine S.gb 14 (.cons (Q_call fun w hw => c_laws_eqIntS w a.seen pa.seen (rd_of (RGuest.seen (d := a) (S.arg ha)) hw) b.seen pb.seen (rd_of (RGuest.seen (d := b) (S.arg hb)) hw)) .nil) (!(decide (a.seen = b.seen))) (fun ac w β h37 S => ?_) (fun ac w β h37 S => ?_)
 ·have h38 := not_t h37
  have g39 := of_decide_eq_false h38
  exact S.gf 7 .nil [B false] (retB k0_laws_eqGuest)
 have h40 := not_f h37
 have g41 := of_decide_eq_true h40
 exact S.gf 9 .nil [B true] (retB k0_laws_eqGuest)

theorem k0_laws_eqGuestS {p : Prop} (h : p := by clear S; first | (simp; intro e; subst e; simp_all; done) | (simp; rw [take_all (by omega), take_all (by omega)] at he; exact he) | (simp; exact take_ne (by simp_all))) : p := h
theorem c_laws_eqGuestS (w0 : World) (a : List TGuest) (pa : LP TGuest) (ha : RD w0 a pa) (b : List TGuest) (pb : LP TGuest) (hb : RD w0 b pb) : Calls Tryz.prog 126 [slv a.length pa.1, slv b.length pb.1].toArray w0 (fun e w' => e = .returned (B (decide (a = b))) ∧ Chg NoB w0 w') := by
 refine Calls.run NoB Tryz.func126 ?_
 intro ac β S
 have hlea : a.length ≤ 4194304 := LRd.le ha
 have hleb : b.length ≤ 4194304 := LRd.le hb
 refine S.gd 15 .nil ((a.length : Int) != (b.length : Int)) (fun ac w β h1 g2 S => ?_) (fun ac w β h1 g2 S => ?_)
 ·exact S.gf 7 .nil [B false] (retB k0_laws_eqGuestS)
 refine S.go 10 .nil fun ac w β S => ?_
 refine lp (fun mm ac w => ∃ (k : Nat)  (u : _) (N : _) (β : _), mm = a.length - k ∧ (k ≤ a.length) ∧ (a.length = b.length) ∧ (a.take k = b.take k) ∧ St Tryz.prog Tryz.f126.ntmps w0 NoB u N β ⟨[(0, .v (slv a.length pa.1)), (1, .v (slv b.length pb.1)), (5, .v (I (k : Int)))], []⟩ ac w) _ ⟨0, _, _, _, rfl, o0, o0, (by simp), S.z⟩ ?_
 clear S
 rintro f3 mm hf4 ac w ⟨k, u, N, β, rfl, hk, hab, he, S⟩
 refine S.rs fun S => ?_
 refine S.gd 9 .nil (decide ((k : Int) < (a.length : Int))) (fun ac w β h5 g6 S => ?_) (fun ac w β h5 g6 S => ?_)
 ·refine S.gb 8 (.cons (qn (S.arg ha) k Tryz.underlying70) (.cons (qs (S.arg ha) 84 k) (.cons (qn (S.arg hb) k Tryz.underlying70) (.cons (qs (S.arg hb) 84 k) (.cons (Q_call fun w hw => c_laws_eqGuest w (el a k) (pa.2 k) (rd_of (LRd.el (S.arg ha) k (by omega)) hw) (el b k) (pb.2 k) (rd_of (LRd.el (S.arg hb) k (by omega)) hw)) .nil))))) (!(decide ((el a k) = (el b k)))) (fun ac w β h7 S => ?_) (fun ac w β h7 S => ?_)
  ·have h8 := not_t h7
   have g9 := of_decide_eq_false h8
   exact S.gf 7 .nil [B false] (retB k0_laws_eqGuestS)
  have h10 := not_f h7
  have g11 := of_decide_eq_true h10
  refine S.ge 9 (.cons (qp (k : Int) 1) .nil) f3 fun ac w β S => hf4.of (a.length - (k + 1)) _ _ (by omega) ⟨k + 1, _, _, _, rfl, ?_, ?_, ?_, S.z⟩
  ·exact oz
  ·exact oz
  ·clear S; exact take_eq_step (by omega) (by omega) he (by simp_all)
 exact S.gf 12 .nil [B true] (retB k0_laws_eqGuestS)

theorem k0_laws_eqKept {p : Prop} (h : p := by clear S; first | (simp [TKept.ext_iff, *]; done) | (simp_all [TKept.ext_iff]; done)) : p := h
theorem c_laws_eqKept (w0 : World) (a : TKept) (pa : PKept) (ha : RD w0 a pa) (b : TKept) (pb : PKept) (hb : RD w0 b pb) : Calls Tryz.prog 164 [GT.val a pa, GT.val b pb].toArray w0 (fun e w' => e = .returned (B (decide (a = b))) ∧ Chg NoB w0 w') := by
 refine Calls.run NoB Tryz.func164 ?_
 intro ac β S
 have hlea_known : a.known.length ≤ 4194304 := LRd.le (RKept.known (d := a) ha)
 have hlea_slots : a.slots.length ≤ 4194304 := LRd.le (RKept.slots (d := a) ha)
 have hleb_known : b.known.length ≤ 4194304 := LRd.le (RKept.known (d := b) hb)
 have hleb_slots : b.slots.length ≤ 4194304 := LRd.le (RKept.slots (d := b) hb)
 refine S.gb 18 (.cons (Q_call fun w hw => c_laws_eqBoolS w a.known pa.known (rd_of (RKept.known (d := a) (S.arg ha)) hw) b.known pb.known (rd_of (RKept.known (d := b) (S.arg hb)) hw)) .nil) (!(decide (a.known = b.known))) (fun ac w β h1 S => ?_) (fun ac w β h1 S => ?_)
 ·have h2 := not_t h1
  have g3 := of_decide_eq_false h2
  exact S.gf 7 .nil [B false] (retB k0_laws_eqKept)
 have h4 := not_f h1
 have g5 := of_decide_eq_true h4
 refine S.gb 14 (.cons (Q_call fun w hw => c_laws_eqSlotS w a.slots pa.slots (rd_of (RKept.slots (d := a) (S.arg ha)) hw) b.slots pb.slots (rd_of (RKept.slots (d := b) (S.arg hb)) hw)) .nil) (!(decide (a.slots = b.slots))) (fun ac w β h6 S => ?_) (fun ac w β h6 S => ?_)
 ·have h7 := not_t h6
  have g8 := of_decide_eq_false h7
  exact S.gf 7 .nil [B false] (retB k0_laws_eqKept)
 have h9 := not_f h6
 have g10 := of_decide_eq_true h9
 exact S.gf 9 .nil [B true] (retB k0_laws_eqKept)

theorem k0_laws_eqKeptS {p : Prop} (h : p := by clear S; first | (simp; intro e; subst e; simp_all; done) | (simp; rw [take_all (by omega), take_all (by omega)] at he; exact he) | (simp; exact take_ne (by simp_all))) : p := h
theorem c_laws_eqKeptS (w0 : World) (a : List TKept) (pa : LP TKept) (ha : RD w0 a pa) (b : List TKept) (pb : LP TKept) (hb : RD w0 b pb) : Calls Tryz.prog 127 [slv a.length pa.1, slv b.length pb.1].toArray w0 (fun e w' => e = .returned (B (decide (a = b))) ∧ Chg NoB w0 w') := by
 refine Calls.run NoB Tryz.func127 ?_
 intro ac β S
 have hlea : a.length ≤ 4194304 := LRd.le ha
 have hleb : b.length ≤ 4194304 := LRd.le hb
 refine S.gd 15 .nil ((a.length : Int) != (b.length : Int)) (fun ac w β h1 g2 S => ?_) (fun ac w β h1 g2 S => ?_)
 ·exact S.gf 7 .nil [B false] (retB k0_laws_eqKeptS)
 refine S.go 10 .nil fun ac w β S => ?_
 refine lp (fun mm ac w => ∃ (k : Nat)  (u : _) (N : _) (β : _), mm = a.length - k ∧ (k ≤ a.length) ∧ (a.length = b.length) ∧ (a.take k = b.take k) ∧ St Tryz.prog Tryz.f127.ntmps w0 NoB u N β ⟨[(0, .v (slv a.length pa.1)), (1, .v (slv b.length pb.1)), (5, .v (I (k : Int)))], []⟩ ac w) _ ⟨0, _, _, _, rfl, o0, o0, (by simp), S.z⟩ ?_
 clear S
 rintro f3 mm hf4 ac w ⟨k, u, N, β, rfl, hk, hab, he, S⟩
 refine S.rs fun S => ?_
 refine S.gd 9 .nil (decide ((k : Int) < (a.length : Int))) (fun ac w β h5 g6 S => ?_) (fun ac w β h5 g6 S => ?_)
 ·refine S.gb 8 (.cons (qn (S.arg ha) k Tryz.underlying71) (.cons (qs (S.arg ha) 96 k) (.cons (qn (S.arg hb) k Tryz.underlying71) (.cons (qs (S.arg hb) 96 k) (.cons (Q_call fun w hw => c_laws_eqKept w (el a k) (pa.2 k) (rd_of (LRd.el (S.arg ha) k (by omega)) hw) (el b k) (pb.2 k) (rd_of (LRd.el (S.arg hb) k (by omega)) hw)) .nil))))) (!(decide ((el a k) = (el b k)))) (fun ac w β h7 S => ?_) (fun ac w β h7 S => ?_)
  ·have h8 := not_t h7
   have g9 := of_decide_eq_false h8
   exact S.gf 7 .nil [B false] (retB k0_laws_eqKeptS)
  have h10 := not_f h7
  have g11 := of_decide_eq_true h10
  refine S.ge 9 (.cons (qp (k : Int) 1) .nil) f3 fun ac w β S => hf4.of (a.length - (k + 1)) _ _ (by omega) ⟨k + 1, _, _, _, rfl, ?_, ?_, ?_, S.z⟩
  ·exact oz
  ·exact oz
  ·clear S; exact take_eq_step (by omega) (by omega) he (by simp_all)
 exact S.gf 12 .nil [B true] (retB k0_laws_eqKeptS)

theorem k0_laws_eqMon {p : Prop} (h : p := by clear S; first | (simp [TMon.ext_iff, *]; done) | (simp_all [TMon.ext_iff]; done)) : p := h
theorem c_laws_eqMon (w0 : World) (a : TMon) (pa : PMon) (ha : RD w0 a pa) (b : TMon) (pb : PMon) (hb : RD w0 b pb) : Calls Tryz.prog 77 [GT.val a pa, GT.val b pb].toArray w0 (fun e w' => e = .returned (B (decide (a = b))) ∧ Chg NoB w0 w') := by
 refine Calls.run NoB Tryz.func77 ?_
 intro ac β S
 have hlea_outer : a.outer.length ≤ 4194304 := LRd.le (RMon.outer (d := a) ha)
 have hlea_out : a.out.length ≤ 4194304 := LRd.le (RMon.out (d := a) ha)
 have hlea_dirty : a.dirty.length ≤ 4194304 := LRd.le (RMon.dirty (d := a) ha)
 have hlea_guests : a.guests.length ≤ 4194304 := LRd.le (RMon.guests (d := a) ha)
 have hlea_outs : a.outs.length ≤ 4194304 := LRd.le (RMon.outs (d := a) ha)
 have hlea_tables : a.tables.length ≤ 4194304 := LRd.le (RMon.tables (d := a) ha)
 have hleb_outer : b.outer.length ≤ 4194304 := LRd.le (RMon.outer (d := b) hb)
 have hleb_out : b.out.length ≤ 4194304 := LRd.le (RMon.out (d := b) hb)
 have hleb_dirty : b.dirty.length ≤ 4194304 := LRd.le (RMon.dirty (d := b) hb)
 have hleb_guests : b.guests.length ≤ 4194304 := LRd.le (RMon.guests (d := b) hb)
 have hleb_outs : b.outs.length ≤ 4194304 := LRd.le (RMon.outs (d := b) hb)
 have hleb_tables : b.tables.length ≤ 4194304 := LRd.le (RMon.tables (d := b) hb)
 refine S.gb 18 (.cons (Q_call fun w hw => c_laws_eqSlotS w a.outer pa.outer (rd_of (RMon.outer (d := a) (S.arg ha)) hw) b.outer pb.outer (rd_of (RMon.outer (d := b) (S.arg hb)) hw)) .nil) (!(decide (a.outer = b.outer))) (fun ac w β h1 S => ?_) (fun ac w β h1 S => ?_)
 ·have h2 := not_t h1
  have g3 := of_decide_eq_false h2
  exact S.gf 7 .nil [B false] (retB k0_laws_eqMon)
 have h4 := not_f h1
 have g5 := of_decide_eq_true h4
 refine S.gb 14 (.cons (Q_call fun w hw => c_laws_eqIntSS w a.out pa.out (rd_of (RMon.out (d := a) (S.arg ha)) hw) b.out pb.out (rd_of (RMon.out (d := b) (S.arg hb)) hw)) .nil) (!(decide (a.out = b.out))) (fun ac w β h6 S => ?_) (fun ac w β h6 S => ?_)
 ·have h7 := not_t h6
  have g8 := of_decide_eq_false h7
  exact S.gf 7 .nil [B false] (retB k0_laws_eqMon)
 have h9 := not_f h6
 have g10 := of_decide_eq_true h9
 refine S.gb 14 (.cons (Q_call fun w hw => c_laws_eqBoolS w a.dirty pa.dirty (rd_of (RMon.dirty (d := a) (S.arg ha)) hw) b.dirty pb.dirty (rd_of (RMon.dirty (d := b) (S.arg hb)) hw)) .nil) (!(decide (a.dirty = b.dirty))) (fun ac w β h11 S => ?_) (fun ac w β h11 S => ?_)
 ·have h12 := not_t h11
  have g13 := of_decide_eq_false h12
  exact S.gf 7 .nil [B false] (retB k0_laws_eqMon)
 have h14 := not_f h11
 have g15 := of_decide_eq_true h14
 refine S.gb 14 (.cons (Q_call fun w hw => c_laws_eqGuestS w a.guests pa.guests (rd_of (RMon.guests (d := a) (S.arg ha)) hw) b.guests pb.guests (rd_of (RMon.guests (d := b) (S.arg hb)) hw)) .nil) (!(decide (a.guests = b.guests))) (fun ac w β h16 S => ?_) (fun ac w β h16 S => ?_)
 ·have h17 := not_t h16
  have g18 := of_decide_eq_false h17
  exact S.gf 7 .nil [B false] (retB k0_laws_eqMon)
 have h19 := not_f h16
 have g20 := of_decide_eq_true h19
 refine S.gb 14 (.cons (Q_call fun w hw => c_laws_eqIntS w a.outs pa.outs (rd_of (RMon.outs (d := a) (S.arg ha)) hw) b.outs pb.outs (rd_of (RMon.outs (d := b) (S.arg hb)) hw)) .nil) (!(decide (a.outs = b.outs))) (fun ac w β h21 S => ?_) (fun ac w β h21 S => ?_)
 ·have h22 := not_t h21
  have g23 := of_decide_eq_false h22
  exact S.gf 7 .nil [B false] (retB k0_laws_eqMon)
 have h24 := not_f h21
 have g25 := of_decide_eq_true h24
 refine S.gd 13 .nil (a.pend != b.pend) (fun ac w β h26 g27 S => ?_) (fun ac w β h26 g27 S => ?_)
 ·exact S.gf 7 .nil [B false] (retB k0_laws_eqMon)
 refine S.gd 13 .nil (a.traps != b.traps) (fun ac w β h28 g29 S => ?_) (fun ac w β h28 g29 S => ?_)
 ·exact S.gf 7 .nil [B false] (retB k0_laws_eqMon)
 refine S.gb 14 (.cons (Q_call fun w hw => c_laws_eqKeptS w a.tables pa.tables (rd_of (RMon.tables (d := a) (S.arg ha)) hw) b.tables pb.tables (rd_of (RMon.tables (d := b) (S.arg hb)) hw)) .nil) (!(decide (a.tables = b.tables))) (fun ac w β h30 S => ?_) (fun ac w β h30 S => ?_)
 ·have h31 := not_t h30
  have g32 := of_decide_eq_false h31
  exact S.gf 7 .nil [B false] (retB k0_laws_eqMon)
 have h33 := not_f h30
 have g34 := of_decide_eq_true h33
 refine S.gd 13 .nil (a.owned != b.owned) (fun ac w β h35 g36 S => ?_) (fun ac w β h35 g36 S => ?_)
 ·exact S.gf 7 .nil [B false] (retB k0_laws_eqMon)
 exact S.gf 9 .nil [B true] (retB k0_laws_eqMon)

theorem k0_laws_eqMonS {p : Prop} (h : p := by clear S; first | (simp; intro e; subst e; simp_all; done) | (simp; rw [take_all (by omega), take_all (by omega)] at he; exact he) | (simp; exact take_ne (by simp_all))) : p := h
theorem c_laws_eqMonS (w0 : World) (a : List TMon) (pa : LP TMon) (ha : RD w0 a pa) (b : List TMon) (pb : LP TMon) (hb : RD w0 b pb) : Calls Tryz.prog 30 [slv a.length pa.1, slv b.length pb.1].toArray w0 (fun e w' => e = .returned (B (decide (a = b))) ∧ Chg NoB w0 w') := by
 refine Calls.run NoB Tryz.func30 ?_
 intro ac β S
 have hlea : a.length ≤ 4194304 := LRd.le ha
 have hleb : b.length ≤ 4194304 := LRd.le hb
 refine S.gd 15 .nil ((a.length : Int) != (b.length : Int)) (fun ac w β h1 g2 S => ?_) (fun ac w β h1 g2 S => ?_)
 ·exact S.gf 7 .nil [B false] (retB k0_laws_eqMonS)
 refine S.go 10 .nil fun ac w β S => ?_
 refine lp (fun mm ac w => ∃ (k : Nat)  (u : _) (N : _) (β : _), mm = a.length - k ∧ (k ≤ a.length) ∧ (a.length = b.length) ∧ (a.take k = b.take k) ∧ St Tryz.prog Tryz.f30.ntmps w0 NoB u N β ⟨[(0, .v (slv a.length pa.1)), (1, .v (slv b.length pb.1)), (5, .v (I (k : Int)))], []⟩ ac w) _ ⟨0, _, _, _, rfl, o0, o0, (by simp), S.z⟩ ?_
 clear S
 rintro f3 mm hf4 ac w ⟨k, u, N, β, rfl, hk, hab, he, S⟩
 refine S.rs fun S => ?_
 refine S.gd 9 .nil (decide ((k : Int) < (a.length : Int))) (fun ac w β h5 g6 S => ?_) (fun ac w β h5 g6 S => ?_)
 ·refine S.gb 8 (.cons (qn (S.arg ha) k Tryz.underlying28) (.cons (qs (S.arg ha) 73 k) (.cons (qn (S.arg hb) k Tryz.underlying28) (.cons (qs (S.arg hb) 73 k) (.cons (Q_call fun w hw => c_laws_eqMon w (el a k) (pa.2 k) (rd_of (LRd.el (S.arg ha) k (by omega)) hw) (el b k) (pb.2 k) (rd_of (LRd.el (S.arg hb) k (by omega)) hw)) .nil))))) (!(decide ((el a k) = (el b k)))) (fun ac w β h7 S => ?_) (fun ac w β h7 S => ?_)
  ·have h8 := not_t h7
   have g9 := of_decide_eq_false h8
   exact S.gf 7 .nil [B false] (retB k0_laws_eqMonS)
  have h10 := not_f h7
  have g11 := of_decide_eq_true h10
  refine S.ge 9 (.cons (qp (k : Int) 1) .nil) f3 fun ac w β S => hf4.of (a.length - (k + 1)) _ _ (by omega) ⟨k + 1, _, _, _, rfl, ?_, ?_, ?_, S.z⟩
  ·exact oz
  ·exact oz
  ·clear S; exact take_eq_step (by omega) (by omega) he (by simp_all)
 exact S.gf 12 .nil [B true] (retB k0_laws_eqMonS)

theorem k0_laws_eqEntry {p : Prop} (h : p := by clear S; first | (simp [TEntry.ext_iff, *]; done) | (simp_all [TEntry.ext_iff]; done)) : p := h
theorem c_laws_eqEntry (w0 : World) (a : TEntry) (b : TEntry) : Calls Tryz.prog 78 [GT.val a (), GT.val b ()].toArray w0 (fun e w' => e = .returned (B (decide (a = b))) ∧ Chg NoB w0 w') := by
 refine Calls.run NoB Tryz.func78 ?_
 intro ac β S
 refine S.gd 17 .nil (a.tag != b.tag) (fun ac w β h1 g2 S => ?_) (fun ac w β h1 g2 S => ?_)
 ·exact S.gf 7 .nil [B false] (retB k0_laws_eqEntry)
 refine S.gd 13 .nil (a.page != b.page) (fun ac w β h3 g4 S => ?_) (fun ac w β h3 g4 S => ?_)
 ·exact S.gf 7 .nil [B false] (retB k0_laws_eqEntry)
 refine S.gd 13 .nil (a.host != b.host) (fun ac w β h5 g6 S => ?_) (fun ac w β h5 g6 S => ?_)
 ·exact S.gf 7 .nil [B false] (retB k0_laws_eqEntry)
 refine S.gd 13 .nil (a.rights != b.rights) (fun ac w β h7 g8 S => ?_) (fun ac w β h7 g8 S => ?_)
 ·exact S.gf 7 .nil [B false] (retB k0_laws_eqEntry)
 exact S.gf 9 .nil [B true] (retB k0_laws_eqEntry)

theorem k0_laws_eqEntryS {p : Prop} (h : p := by clear S; first | (simp; intro e; subst e; simp_all; done) | (simp; rw [take_all (by omega), take_all (by omega)] at he; exact he) | (simp; exact take_ne (by simp_all))) : p := h
theorem c_laws_eqEntryS (w0 : World) (a : List TEntry) (pa : LP TEntry) (ha : RD w0 a pa) (b : List TEntry) (pb : LP TEntry) (hb : RD w0 b pb) : Calls Tryz.prog 31 [slv a.length pa.1, slv b.length pb.1].toArray w0 (fun e w' => e = .returned (B (decide (a = b))) ∧ Chg NoB w0 w') := by
 refine Calls.run NoB Tryz.func31 ?_
 intro ac β S
 have hlea : a.length ≤ 4194304 := LRd.le ha
 have hleb : b.length ≤ 4194304 := LRd.le hb
 refine S.gd 15 .nil ((a.length : Int) != (b.length : Int)) (fun ac w β h1 g2 S => ?_) (fun ac w β h1 g2 S => ?_)
 ·exact S.gf 7 .nil [B false] (retB k0_laws_eqEntryS)
 refine S.go 10 .nil fun ac w β S => ?_
 refine lp (fun mm ac w => ∃ (k : Nat)  (u : _) (N : _) (β : _), mm = a.length - k ∧ (k ≤ a.length) ∧ (a.length = b.length) ∧ (a.take k = b.take k) ∧ St Tryz.prog Tryz.f31.ntmps w0 NoB u N β ⟨[(0, .v (slv a.length pa.1)), (1, .v (slv b.length pb.1)), (5, .v (I (k : Int)))], []⟩ ac w) _ ⟨0, _, _, _, rfl, o0, o0, (by simp), S.z⟩ ?_
 clear S
 rintro f3 mm hf4 ac w ⟨k, u, N, β, rfl, hk, hab, he, S⟩
 refine S.rs fun S => ?_
 refine S.gd 9 .nil (decide ((k : Int) < (a.length : Int))) (fun ac w β h5 g6 S => ?_) (fun ac w β h5 g6 S => ?_)
 ·refine S.gb 8 (.cons (qn (S.arg ha) k Tryz.underlying29) (.cons (qs (S.arg ha) 87 k) (.cons (qn (S.arg hb) k Tryz.underlying29) (.cons (qs (S.arg hb) 87 k) (.cons (Q_call fun w hw => c_laws_eqEntry w (el a k) (el b k)) .nil))))) (!(decide ((el a k) = (el b k)))) (fun ac w β h7 S => ?_) (fun ac w β h7 S => ?_)
  ·have h8 := not_t h7
   have g9 := of_decide_eq_false h8
   exact S.gf 7 .nil [B false] (retB k0_laws_eqEntryS)
  have h10 := not_f h7
  have g11 := of_decide_eq_true h10
  refine S.ge 9 (.cons (qp (k : Int) 1) .nil) f3 fun ac w β S => hf4.of (a.length - (k + 1)) _ _ (by omega) ⟨k + 1, _, _, _, rfl, ?_, ?_, ?_, S.z⟩
  ·exact oz
  ·exact oz
  ·clear S; exact take_eq_step (by omega) (by omega) he (by simp_all)
 exact S.gf 12 .nil [B true] (retB k0_laws_eqEntryS)

theorem k0_laws_eqHost {p : Prop} (h : p := by clear S; first | (simp [THost.ext_iff, *]; done) | (simp_all [THost.ext_iff]; done)) : p := h
theorem c_laws_eqHost (w0 : World) (a : THost) (pa : PHost) (ha : RD w0 a pa) (b : THost) (pb : PHost) (hb : RD w0 b pb) : Calls Tryz.prog 11 [GT.val a pa, GT.val b pb].toArray w0 (fun e w' => e = .returned (B (decide (a = b))) ∧ Chg NoB w0 w') := by
 refine Calls.run NoB Tryz.func11 ?_
 intro ac β S
 have hlea_mem : a.mem.length ≤ 4194304 := LRd.le (RHost.mem (d := a) ha)
 have hlea_mons : a.mons.length ≤ 4194304 := LRd.le (RHost.mons (d := a) ha)
 have hlea_buf : a.buf.length ≤ 4194304 := LRd.le (RHost.buf (d := a) ha)
 have hlea_iobuf : a.iobuf.length ≤ 4194304 := LRd.le (RHost.iobuf (d := a) ha)
 have hleb_mem : b.mem.length ≤ 4194304 := LRd.le (RHost.mem (d := b) hb)
 have hleb_mons : b.mons.length ≤ 4194304 := LRd.le (RHost.mons (d := b) hb)
 have hleb_buf : b.buf.length ≤ 4194304 := LRd.le (RHost.buf (d := b) hb)
 have hleb_iobuf : b.iobuf.length ≤ 4194304 := LRd.le (RHost.iobuf (d := b) hb)
 refine S.gb 18 (.cons (Q_call fun w hw => c_laws_eqIntSS w a.mem pa.mem (rd_of (RHost.mem (d := a) (S.arg ha)) hw) b.mem pb.mem (rd_of (RHost.mem (d := b) (S.arg hb)) hw)) .nil) (!(decide (a.mem = b.mem))) (fun ac w β h1 S => ?_) (fun ac w β h1 S => ?_)
 ·have h2 := not_t h1
  have g3 := of_decide_eq_false h2
  exact S.gf 7 .nil [B false] (retB k0_laws_eqHost)
 have h4 := not_f h1
 have g5 := of_decide_eq_true h4
 refine S.gb 14 (.cons (Q_call fun w hw => c_laws_eqMonS w a.mons pa.mons (rd_of (RHost.mons (d := a) (S.arg ha)) hw) b.mons pb.mons (rd_of (RHost.mons (d := b) (S.arg hb)) hw)) .nil) (!(decide (a.mons = b.mons))) (fun ac w β h6 S => ?_) (fun ac w β h6 S => ?_)
 ·have h7 := not_t h6
  have g8 := of_decide_eq_false h7
  exact S.gf 7 .nil [B false] (retB k0_laws_eqHost)
 have h9 := not_f h6
 have g10 := of_decide_eq_true h9
 refine S.gb 14 (.cons (Q_call fun w hw => c_laws_eqEntryS w a.buf pa.buf (rd_of (RHost.buf (d := a) (S.arg ha)) hw) b.buf pb.buf (rd_of (RHost.buf (d := b) (S.arg hb)) hw)) .nil) (!(decide (a.buf = b.buf))) (fun ac w β h11 S => ?_) (fun ac w β h11 S => ?_)
 ·have h12 := not_t h11
  have g13 := of_decide_eq_false h12
  exact S.gf 7 .nil [B false] (retB k0_laws_eqHost)
 have h14 := not_f h11
 have g15 := of_decide_eq_true h14
 refine S.gb 14 (.cons (Q_call fun w hw => c_laws_eqEntryS w a.iobuf pa.iobuf (rd_of (RHost.iobuf (d := a) (S.arg ha)) hw) b.iobuf pb.iobuf (rd_of (RHost.iobuf (d := b) (S.arg hb)) hw)) .nil) (!(decide (a.iobuf = b.iobuf))) (fun ac w β h16 S => ?_) (fun ac w β h16 S => ?_)
 ·have h17 := not_t h16
  have g18 := of_decide_eq_false h17
  exact S.gf 7 .nil [B false] (retB k0_laws_eqHost)
 have h19 := not_f h16
 have g20 := of_decide_eq_true h19
 exact S.gf 9 .nil [B true] (retB k0_laws_eqHost)

theorem c_laws_markIntS (w0 : World) (a : List Int) (pa : LP Int) (F : Bl) (ha : GT.own KK F w0 a pa) (hF : ∀ b, F b → b < w0.heap.size) (k : Int) (pre0 : 0 ≤ k) (pre1 : k + 16 * (SZ.sz a : Int) ≤ 4611686018427387904) : Calls Tryz.prog 79 [slv a.length pa.1, I k].toArray w0 (RetX hdl F w0 pa a k) := by
 refine Calls.run F Tryz.func79 ?_
 intro ac β S
 have oa : Ow w0 F w0 (Lt w0.heap.size) F a pa := ⟨ha, hF, fun b hb => .inr hb⟩
 have hz := szl_Int a
 have hlea : a.length ≤ 4194304 := LOwn.le ha
 refine S.go 12 .nil fun ac w β S => ?_
 refine lp (fun mm ac w => ∃ (i : Nat) (acc : List Int) (j : Int) (q1 : _) (F2 : _) (u : _) (N : _) (β : _), mm = a.length - i ∧ (i ≤ a.length) ∧ (acc = f_marksInt i k ++ a.drop i) ∧ (j = k + 1 * (i : Int)) ∧ St Tryz.prog Tryz.f79.ntmps w0 F u N β ⟨[(0, .v (slv a.length q1.1)), (1, .v (I j)), (5, .v (I (i : Int)))], []⟩ ac w ∧ Ow w0 F u N F2 acc q1 ∧ q1.1 = pa.1 ∧ (∀ b, F2 b → F b)) _ ⟨0, a, k, pa, F, _, _, _, rfl, o0, (by simp [f_marksInt]), (by simp), S.z, oa, rfl, (fun _ h => h)⟩ ?_
 clear S oa
 rintro f4 mm hf5 ac w ⟨i, acc, j, q1, F2, u, N, β, rfl, hi, hacc, hj, S, o3, hq, hs⟩
 refine S.rs fun S => ?_
 have hlacc : acc.length = a.length := by rw [hacc]; simp [f_marksInt]; omega
 refine S.gd 9 .nil (decide ((i : Int) < (a.length : Int))) (fun ac w β h6 g7 S => ?_) (fun ac w β h6 g7 S => ?_)
 ·refine S.go 11 (.cons (Q_idx o3.rn (l := a.length) (k := i) (i := (i : Int)) (by rw [hacc]; simp [f_marksInt]; omega) rfl (by omega) Tryz.underlying61 (by kernel_rfl)) .nil) fun ac w β S => S.SF (α := Int) o3 (t := 3) (k := i) (j := 0) (off := q1.1.off + i * 1) (v := I j) (y := j) (q := ()) (fun _ _ _ => ⟨NoB, ⟨by omega, by omega⟩, fun _ h => False.elim h⟩) fun w N F9 q10 S up o8 d11 s12 n13 => ?_
  have s14 : ∀ b, F9 b → F b := fun b h => (s12 b h).elim (hs b) (fun h => False.elim h)
  clear up d11 o3 n13
  have l15 : (acc.set i j).length = acc.length := List.length_set
  refine S.ge 14 (.cons (qp j 1) (.cons (qp (i : Int) 1) .nil)) f4 fun ac w β S => hf5.of (a.length - (i + 1)) _ _ (by omega) ⟨i + 1, (acc.set i j), (j + 1), (q1.1, q10), F9, _, _, _, rfl, ?_, ?_, ?_, S.z, o8, hq, s14⟩
  ·exact oz
  ·clear S; (have hlt : i < acc.length := (by omega)); rw [hacc, ← marksInt_step (by omega) hj]; (first | rfl | (simp [g_markInt, Int.add_assoc]; done))
  ·clear S; omega
 refine S.gr 13 .nil [I j] fun ac w β S => ?_
 have hyd : hdl acc k = j := by clear S; (have e : i = a.length := (by omega)); subst e; rw [hacc, List.drop_length, List.append_nil, hj]; exact hd_marksInt k (by omega) _ (by omega) id
 have hyb : k ≤ j ∧ j ≤ k + 16 * ((SZ.sz a : Nat) : Int) := by clear S; skip; constructor <;> omega
 exact retX_of S hyd hyb.1 hyb.2 (by show [slv _ _] = [slv _ _]; rw [hlacc, hq]) o3 hs

theorem c_laws_markIntSS (w0 : World) (a : List (List Int)) (pa : LP (List Int)) (F : Bl) (ha : GT.own KK F w0 a pa) (hF : ∀ b, F b → b < w0.heap.size) (k : Int) (pre0 : 0 ≤ k) (pre1 : k + 16 * (SZ.sz a : Int) ≤ 4611686018427387904) : Calls Tryz.prog 32 [slv a.length pa.1, I k].toArray w0 (RetX hdl F w0 pa a k) := by
 refine Calls.run F Tryz.func32 ?_
 intro ac β S
 have oa : Ow w0 F w0 (Lt w0.heap.size) F a pa := ⟨ha, hF, fun b hb => .inr hb⟩
 have hz := sz_list a
 have hlea : a.length ≤ 4194304 := LOwn.le ha
 refine S.go 12 .nil fun ac w β S => ?_
 refine lp (fun mm ac w => ∃ (i : Nat) (acc : List (List Int)) (j : Int) (q1 : _) (F2 : _) (u : _) (N : _) (β : _), mm = a.length - i ∧ (i ≤ a.length) ∧ (acc.length = a.length) ∧ (∀ f, hdlc (acc.take i) k f = f j) ∧ (acc.drop i = a.drop i) ∧ (k ≤ j) ∧ (j ≤ k + 16 * ((i : Int) + (szsum (a.take i) : Nat))) ∧ St Tryz.prog Tryz.f32.ntmps w0 F u N β ⟨[(0, .v (slv a.length q1.1)), (1, .v (I j)), (5, .v (I (i : Int)))], []⟩ ac w ∧ Ow w0 F u N F2 acc q1 ∧ q1.1 = pa.1 ∧ (∀ b, F2 b → F b)) _ ⟨0, a, k, pa, F, _, _, _, rfl, o0, (by rfl), (by intro f; rfl), (by rfl), o0, (by simp [szsum_nil]), S.z, oa, rfl, (fun _ h => h)⟩ ?_
 clear S oa
 rintro f4 mm hf5 ac w ⟨i, acc, j, q1, F2, u, N, β, rfl, hi, hl, hM, hD, hj0, hj1, S, o3, hq, hs⟩
 refine S.rs fun S => ?_
 have hel := el_of_drop hD
 have hsl := szsum_take_le a i
 refine S.gd 9 .nil (decide ((i : Int) < (a.length : Int))) (fun ac w β h6 g7 S => ?_) (fun ac w β h6 g7 S => ?_)
 ·obtain ⟨F8, o9, s10, b11⟩ := foc_id o3 (k := i) (show i < acc.length by omega)
  have z12 := szsum_take (xs := a) (k := i) (by omega)
  have z13 := szsum_take_le a (i + 1)
  have e14 : (el acc i) = el a i := by simp only [hel]
  refine S.go 11 (.cons (Q_idx o3.rn (l := a.length) (k := i) (i := (i : Int)) (by omega) rfl (by omega) Tryz.underlying22 (by kernel_rfl)) (.cons (qx o3.rn 61 i) .nil)) fun ac w β S => S.KX (hd := hdl) (d := 17) o9 (c_laws_markIntS w (el acc i) (q1.2 i) F8 (S.ownw o9) (fun b hb => (S.sep b (o9.sub b hb)).1) j (by omega) (by rw [e14]; omega)) fun ac w N q15 y16 k17 S up o18 c19 x20 b21 b22 => ?_
  rw [e14] at b22
  obtain ⟨p23, o24⟩ := b11 _ _ _ _ up o18 c19
  clear up o3 o9 s10 b11 o18 c19
  obtain ⟨a25, e26⟩ : ∃ z, z = acc.set i y16 := ⟨_, rfl⟩
  rw [← e26] at o24
  have l27 : a25.length = acc.length := by rw [e26]; exact List.length_set
  have e28 : el a25 i = y16 := by rw [e26]; exact el_set_self (show i < acc.length by omega)
  have t29 : a25.take i = acc.take i := by rw [e26]; exact take_set_self
  have d30 : a25.drop (i + 1) = acc.drop (i + 1) := by rw [e26]; exact drop_set_self
  clear e26
  refine S.ge 9 (.cons (qp (i : Int) 1) .nil) f4 fun ac w β S => hf5.of (a.length - (i + 1)) _ _ (by omega) ⟨i + 1, a25, k17, (q1.1, p23), F2, _, _, _, rfl, ?_, ?_, ?_, ?_, ?_, ?_, S.z, o24, hq, hs⟩
  ·exact oz
  ·clear S; omega
  ·clear S; refine mk_step (acc := a25) (by omega) (by intro f; rw [t29]; exact hM f) ?_; intro f; simp (disch := first | omega | rfl) only [he_list, he_list, e28, x20, hdc_pos, hdi_eq, hdb_eq]
  ·clear S; rw [d30]; exact drop_more hD
  ·clear S; omega
  ·clear S; omega
 refine S.gr 13 .nil [I j] fun ac w β S => ?_
 have hyd : hdl acc k = j := by clear S; exact mk_end (by omega) hM
 have hyb : k ≤ j ∧ j ≤ k + 16 * ((SZ.sz a : Nat) : Int) := by clear S; have hs2 := szsum_take_le a i; constructor <;> omega
 exact retX_of S hyd hyb.1 hyb.2 (by show [slv _ _] = [slv _ _]; rw [hl, hq]) o3 hs

theorem c_laws_markSlotS (w0 : World) (a : List TSlot) (pa : LP TSlot) (F : Bl) (ha : GT.own KK F w0 a pa) (hF : ∀ b, F b → b < w0.heap.size) (k : Int) (pre0 : 0 ≤ k) (pre1 : k + 16 * (SZ.sz a : Int) ≤ 4611686018427387904) : Calls Tryz.prog 80 [slv a.length pa.1, I k].toArray w0 (RetX hdl F w0 pa a k) := by
 refine Calls.run F Tryz.func80 ?_
 intro ac β S
 have oa : Ow w0 F w0 (Lt w0.heap.size) F a pa := ⟨ha, hF, fun b hb => .inr hb⟩
 have hz := szl_TSlot a
 have hlea : a.length ≤ 4194304 := LOwn.le ha
 refine S.go 12 .nil fun ac w β S => ?_
 refine lp (fun mm ac w => ∃ (i : Nat) (acc : List TSlot) (j : Int) (q1 : _) (F2 : _) (u : _) (N : _) (β : _), mm = a.length - i ∧ (i ≤ a.length) ∧ (acc = f_marksSlot i k ++ a.drop i) ∧ (j = k + 2 * (i : Int)) ∧ St Tryz.prog Tryz.f80.ntmps w0 F u N β ⟨[(0, .v (slv a.length q1.1)), (1, .v (I j)), (5, .v (I (i : Int)))], []⟩ ac w ∧ Ow w0 F u N F2 acc q1 ∧ q1.1 = pa.1 ∧ (∀ b, F2 b → F b)) _ ⟨0, a, k, pa, F, _, _, _, rfl, o0, (by simp [f_marksSlot]), (by simp), S.z, oa, rfl, (fun _ h => h)⟩ ?_
 clear S oa
 rintro f4 mm hf5 ac w ⟨i, acc, j, q1, F2, u, N, β, rfl, hi, hacc, hj, S, o3, hq, hs⟩
 refine S.rs fun S => ?_
 have hlacc : acc.length = a.length := by rw [hacc]; simp [f_marksSlot]; omega
 refine S.gd 9 .nil (decide ((i : Int) < (a.length : Int))) (fun ac w β h6 g7 S => ?_) (fun ac w β h6 g7 S => ?_)
 ·have e8 : RSlot (el acc i) := (LRd.el o3.rn i (by omega))
  refine S.go 12 (.cons (Q_idx o3.rn (l := a.length) (k := i) (i := (i : Int)) (by rw [hacc]; simp [f_marksSlot]; omega) rfl (by omega) Tryz.underlying69 (by kernel_rfl)) .nil) fun ac w β S => S.SF (α := TSlot) o3 (t := 3) (k := i) (j := 0) (off := q1.1.off + i * 2) (v := I j) (y := (⟨j, (el acc i).rights⟩ : TSlot)) (q := ()) (fun _ _ _ => ⟨NoB, (show RSlot (⟨j, (el acc i).rights⟩ : TSlot) from ⟨(show In64 j from ⟨by omega, by omega⟩), (RSlot.rights (d := (el acc i)) e8)⟩), fun _ h => False.elim h⟩) fun w N F10 q11 S up o9 d12 s13 n14 => ?_
  have s15 : ∀ b, F10 b → F b := fun b h => (s13 b h).elim (hs b) (fun h => False.elim h)
  clear up d12 o3 n14
  have l16 : (acc.set i (⟨j, (el acc i).rights⟩ : TSlot)).length = acc.length := List.length_set
  refine S.go 16 (.cons (qp j 1) (.cons (Q_idx o9.rn (l := a.length) (k := i) (i := (i : Int)) (by rw [List.length_set]; exact (by rw [hacc]; simp [f_marksSlot]; omega)) rfl (by omega) Tryz.underlying69 (by kernel_rfl)) .nil)) fun ac w β S => S.SL o9 (α := TSlot) (t := 3) (v := I (j + 1)) (k := i) (j := 1) (off := q1.1.off + i * 2 + 1) (y := (⟨j, (j + 1)⟩ : TSlot)) (q := ()) (Fy := NoB) (by omega) (Nat.le_of_ble_eq_true (by kernel_rfl)) (fun _ _ _ => ⟨NoB, (show RSlot (⟨j, (j + 1)⟩ : TSlot) from ⟨(show In64 j from ⟨by omega, by omega⟩), (show In64 (j + 1) from ⟨by omega, by omega⟩)⟩), fun _ h => False.elim h⟩) (fun b _ h => False.elim h) (fun b h => False.elim h) (fun b h => False.elim h) ?_ (hc := (by rw [el_set_self (show i < acc.length by omega)]; kernel_rfl))
  clear S; intro w N F18 q19 S up o17 d20 s21 n22
  have s23 : ∀ b, F18 b → F b := fun b h => (s21 b h).elim (s15 b) (fun h => False.elim h)
  clear up d20 o9 n22
  rw [List.set_set] at o17
  have l24 : (acc.set i (⟨j, (j + 1)⟩ : TSlot)).length = acc.length := List.length_set
  refine S.ge 14 (.cons (qp (j + 1) 1) (.cons (qp (i : Int) 1) .nil)) f4 fun ac w β S => hf5.of (a.length - (i + 1)) _ _ (by omega) ⟨i + 1, (acc.set i (⟨j, (j + 1)⟩ : TSlot)), ((j + 1) + 1), (q1.1, q19), F18, _, _, _, rfl, ?_, ?_, ?_, S.z, o17, hq, s23⟩
  ·exact oz
  ·clear S; (have hlt : i < acc.length := (by omega)); rw [hacc, ← marksSlot_step (by omega) hj]; (first | rfl | (simp [g_markSlot, Int.add_assoc]; done))
  ·clear S; omega
 refine S.gr 13 .nil [I j] fun ac w β S => ?_
 have hyd : hdl acc k = j := by clear S; (have e : i = a.length := (by omega)); subst e; rw [hacc, List.drop_length, List.append_nil, hj]; exact hd_marksSlot k (by omega) _ (by omega) id
 have hyb : k ≤ j ∧ j ≤ k + 16 * ((SZ.sz a : Nat) : Int) := by clear S; skip; constructor <;> omega
 exact retX_of S hyd hyb.1 hyb.2 (by show [slv _ _] = [slv _ _]; rw [hlacc, hq]) o3 hs

theorem c_laws_markBoolS (w0 : World) (a : List Bool) (pa : LP Bool) (F : Bl) (ha : GT.own KK F w0 a pa) (hF : ∀ b, F b → b < w0.heap.size) (k : Int) (pre0 : 0 ≤ k) (pre1 : k + 16 * (SZ.sz a : Int) ≤ 4611686018427387904) : Calls Tryz.prog 81 [slv a.length pa.1, I k].toArray w0 (RetX hdl F w0 pa a k) := by
 refine Calls.run F Tryz.func81 ?_
 intro ac β S
 have oa : Ow w0 F w0 (Lt w0.heap.size) F a pa := ⟨ha, hF, fun b hb => .inr hb⟩
 have hz := szl_Bool a
 have hlea : a.length ≤ 4194304 := LOwn.le ha
 refine S.go 12 .nil fun ac w β S => ?_
 refine lp (fun mm ac w => ∃ (i : Nat) (acc : List Bool) (j : Int) (q1 : _) (F2 : _) (u : _) (N : _) (β : _), mm = a.length - i ∧ (i ≤ a.length) ∧ (acc = f_marksBool i k ++ a.drop i) ∧ (j = k + 1 * (i : Int)) ∧ St Tryz.prog Tryz.f81.ntmps w0 F u N β ⟨[(0, .v (slv a.length q1.1)), (1, .v (I j)), (5, .v (I (i : Int)))], []⟩ ac w ∧ Ow w0 F u N F2 acc q1 ∧ q1.1 = pa.1 ∧ (∀ b, F2 b → F b)) _ ⟨0, a, k, pa, F, _, _, _, rfl, o0, (by simp [f_marksBool]), (by simp), S.z, oa, rfl, (fun _ h => h)⟩ ?_
 clear S oa
 rintro f4 mm hf5 ac w ⟨i, acc, j, q1, F2, u, N, β, rfl, hi, hacc, hj, S, o3, hq, hs⟩
 refine S.rs fun S => ?_
 have hlacc : acc.length = a.length := by rw [hacc]; simp [f_marksBool]; omega
 refine S.gd 9 .nil (decide ((i : Int) < (a.length : Int))) (fun ac w β h6 g7 S => ?_) (fun ac w β h6 g7 S => ?_)
 ·refine S.go 13 (.cons (Q_rem (x := j) (y := 3) (by decide)) (.cons (Q_idx o3.rn (l := a.length) (k := i) (i := (i : Int)) (by rw [hacc]; simp [f_marksBool]; omega) rfl (by omega) Tryz.underlying64 (by kernel_rfl)) .nil)) fun ac w β S => S.SF (α := Bool) o3 (t := 4) (k := i) (j := 0) (off := q1.1.off + i * 1) (v := B ((Int.tmod j 3) == 0)) (y := ((Int.tmod j 3) == 0)) (q := ()) (fun _ _ _ => ⟨NoB, trivial, fun _ h => False.elim h⟩) fun w N F9 q10 S up o8 d11 s12 n13 => ?_
  have s14 : ∀ b, F9 b → F b := fun b h => (s12 b h).elim (hs b) (fun h => False.elim h)
  clear up d11 o3 n13
  have l15 : (acc.set i ((Int.tmod j 3) == 0)).length = acc.length := List.length_set
  refine S.ge 14 (.cons (qp j 1) (.cons (qp (i : Int) 1) .nil)) f4 fun ac w β S => hf5.of (a.length - (i + 1)) _ _ (by omega) ⟨i + 1, (acc.set i ((Int.tmod j 3) == 0)), (j + 1), (q1.1, q10), F9, _, _, _, rfl, ?_, ?_, ?_, S.z, o8, hq, s14⟩
  ·exact oz
  ·clear S; (have hlt : i < acc.length := (by omega)); rw [hacc, ← marksBool_step (by omega) hj]; (first | rfl | (simp [g_markBool, Int.add_assoc]; done))
  ·clear S; omega
 refine S.gr 13 .nil [I j] fun ac w β S => ?_
 have hyd : hdl acc k = j := by clear S; (have e : i = a.length := (by omega)); subst e; rw [hacc, List.drop_length, List.append_nil, hj]; exact hd_marksBool k (by omega) _ (by omega) id
 have hyb : k ≤ j ∧ j ≤ k + 16 * ((SZ.sz a : Nat) : Int) := by clear S; skip; constructor <;> omega
 exact retX_of S hyd hyb.1 hyb.2 (by show [slv _ _] = [slv _ _]; rw [hlacc, hq]) o3 hs

theorem c_laws_markInsS (w0 : World) (a : List TIns) (pa : LP TIns) (F : Bl) (ha : GT.own KK F w0 a pa) (hF : ∀ b, F b → b < w0.heap.size) (k : Int) (pre0 : 0 ≤ k) (pre1 : k + 16 * (SZ.sz a : Int) ≤ 4611686018427387904) : Calls Tryz.prog 128 [slv a.length pa.1, I k].toArray w0 (RetX hdl F w0 pa a k) := by
 refine Calls.run F Tryz.func128 ?_
 intro ac β S
 have oa : Ow w0 F w0 (Lt w0.heap.size) F a pa := ⟨ha, hF, fun b hb => .inr hb⟩
 have hz := szl_TIns a
 have hlea : a.length ≤ 4194304 := LOwn.le ha
 refine S.go 12 .nil fun ac w β S => ?_
 refine lp (fun mm ac w => ∃ (i : Nat) (acc : List TIns) (j : Int) (q1 : _) (F2 : _) (u : _) (N : _) (β : _), mm = a.length - i ∧ (i ≤ a.length) ∧ (acc = f_marksIns i k ++ a.drop i) ∧ (j = k + 2 * (i : Int)) ∧ St Tryz.prog Tryz.f128.ntmps w0 F u N β ⟨[(0, .v (slv a.length q1.1)), (1, .v (I j)), (5, .v (I (i : Int)))], []⟩ ac w ∧ Ow w0 F u N F2 acc q1 ∧ q1.1 = pa.1 ∧ (∀ b, F2 b → F b)) _ ⟨0, a, k, pa, F, _, _, _, rfl, o0, (by simp [f_marksIns]), (by simp), S.z, oa, rfl, (fun _ h => h)⟩ ?_
 clear S oa
 rintro f4 mm hf5 ac w ⟨i, acc, j, q1, F2, u, N, β, rfl, hi, hacc, hj, S, o3, hq, hs⟩
 refine S.rs fun S => ?_
 have hlacc : acc.length = a.length := by rw [hacc]; simp [f_marksIns]; omega
 refine S.gd 9 .nil (decide ((i : Int) < (a.length : Int))) (fun ac w β h6 g7 S => ?_) (fun ac w β h6 g7 S => ?_)
 ·have e8 : RIns (el acc i) := (LRd.el o3.rn i (by omega))
  refine S.go 12 (.cons (Q_idx o3.rn (l := a.length) (k := i) (i := (i : Int)) (by rw [hacc]; simp [f_marksIns]; omega) rfl (by omega) Tryz.underlying78 (by kernel_rfl)) .nil) fun ac w β S => S.SF (α := TIns) o3 (t := 3) (k := i) (j := 0) (off := q1.1.off + i * 2) (v := I j) (y := (⟨j, (el acc i).x⟩ : TIns)) (q := ()) (fun _ _ _ => ⟨NoB, (show RIns (⟨j, (el acc i).x⟩ : TIns) from ⟨(show In64 j from ⟨by omega, by omega⟩), (RIns.x (d := (el acc i)) e8)⟩), fun _ h => False.elim h⟩) fun w N F10 q11 S up o9 d12 s13 n14 => ?_
  have s15 : ∀ b, F10 b → F b := fun b h => (s13 b h).elim (hs b) (fun h => False.elim h)
  clear up d12 o3 n14
  have l16 : (acc.set i (⟨j, (el acc i).x⟩ : TIns)).length = acc.length := List.length_set
  refine S.go 16 (.cons (qp j 1) (.cons (Q_idx o9.rn (l := a.length) (k := i) (i := (i : Int)) (by rw [List.length_set]; exact (by rw [hacc]; simp [f_marksIns]; omega)) rfl (by omega) Tryz.underlying78 (by kernel_rfl)) .nil)) fun ac w β S => S.SL o9 (α := TIns) (t := 3) (v := I (j + 1)) (k := i) (j := 1) (off := q1.1.off + i * 2 + 1) (y := (⟨j, (j + 1)⟩ : TIns)) (q := ()) (Fy := NoB) (by omega) (Nat.le_of_ble_eq_true (by kernel_rfl)) (fun _ _ _ => ⟨NoB, (show RIns (⟨j, (j + 1)⟩ : TIns) from ⟨(show In64 j from ⟨by omega, by omega⟩), (show In64 (j + 1) from ⟨by omega, by omega⟩)⟩), fun _ h => False.elim h⟩) (fun b _ h => False.elim h) (fun b h => False.elim h) (fun b h => False.elim h) ?_ (hc := (by rw [el_set_self (show i < acc.length by omega)]; kernel_rfl))
  clear S; intro w N F18 q19 S up o17 d20 s21 n22
  have s23 : ∀ b, F18 b → F b := fun b h => (s21 b h).elim (s15 b) (fun h => False.elim h)
  clear up d20 o9 n22
  rw [List.set_set] at o17
  have l24 : (acc.set i (⟨j, (j + 1)⟩ : TIns)).length = acc.length := List.length_set
  refine S.ge 14 (.cons (qp (j + 1) 1) (.cons (qp (i : Int) 1) .nil)) f4 fun ac w β S => hf5.of (a.length - (i + 1)) _ _ (by omega) ⟨i + 1, (acc.set i (⟨j, (j + 1)⟩ : TIns)), ((j + 1) + 1), (q1.1, q19), F18, _, _, _, rfl, ?_, ?_, ?_, S.z, o17, hq, s23⟩
  ·exact oz
  ·clear S; (have hlt : i < acc.length := (by omega)); rw [hacc, ← marksIns_step (by omega) hj]; (first | rfl | (simp [g_markIns, Int.add_assoc]; done))
  ·clear S; omega
 refine S.gr 13 .nil [I j] fun ac w β S => ?_
 have hyd : hdl acc k = j := by clear S; (have e : i = a.length := (by omega)); subst e; rw [hacc, List.drop_length, List.append_nil, hj]; exact hd_marksIns k (by omega) _ (by omega) id
 have hyb : k ≤ j ∧ j ≤ k + 16 * ((SZ.sz a : Nat) : Int) := by clear S; skip; constructor <;> omega
 exact retX_of S hyd hyb.1 hyb.2 (by show [slv _ _] = [slv _ _]; rw [hlacc, hq]) o3 hs

theorem c_laws_markGuestS (w0 : World) (a : List TGuest) (pa : LP TGuest) (F : Bl) (ha : GT.own KK F w0 a pa) (hF : ∀ b, F b → b < w0.heap.size) (k : Int) (pre0 : 0 ≤ k) (pre1 : k + 16 * (SZ.sz a : Int) ≤ 4611686018427387904) : Calls Tryz.prog 82 [slv a.length pa.1, I k].toArray w0 (RetX hdl F w0 pa a k) := by
 refine Calls.run F Tryz.func82 ?_
 intro ac β S
 have oa : Ow w0 F w0 (Lt w0.heap.size) F a pa := ⟨ha, hF, fun b hb => .inr hb⟩
 have hz := sz_list a
 have hlea : a.length ≤ 4194304 := LOwn.le ha
 refine S.go 12 .nil fun ac w β S => ?_
 refine lp (fun mm ac w => ∃ (i : Nat) (acc : List TGuest) (j : Int) (q1 : _) (F2 : _) (u : _) (N : _) (β : _), mm = a.length - i ∧ (i ≤ a.length) ∧ (acc.length = a.length) ∧ (∀ f, hdlc (acc.take i) k f = f j) ∧ (acc.drop i = a.drop i) ∧ (k ≤ j) ∧ (j ≤ k + 16 * ((i : Int) + (szsum (a.take i) : Nat))) ∧ St Tryz.prog Tryz.f82.ntmps w0 F u N β ⟨[(0, .v (slv a.length q1.1)), (1, .v (I j)), (5, .v (I (i : Int)))], []⟩ ac w ∧ Ow w0 F u N F2 acc q1 ∧ q1.1 = pa.1 ∧ (∀ b, F2 b → F b)) _ ⟨0, a, k, pa, F, _, _, _, rfl, o0, (by rfl), (by intro f; rfl), (by rfl), o0, (by simp [szsum_nil]), S.z, oa, rfl, (fun _ h => h)⟩ ?_
 clear S oa
 rintro f4 mm hf5 ac w ⟨i, acc, j, q1, F2, u, N, β, rfl, hi, hl, hM, hD, hj0, hj1, S, o3, hq, hs⟩
 refine S.rs fun S => ?_
 have hel := el_of_drop hD
 have hsl := szsum_take_le a i
 refine S.gd 9 .nil (decide ((i : Int) < (a.length : Int))) (fun ac w β h6 g7 S => ?_) (fun ac w β h6 g7 S => ?_)
 ·obtain ⟨F8, o9, s10, b11⟩ := foc_Guest_prog o3 (k := i) (show i < acc.length by omega)
  have z12 := szsum_take (xs := a) (k := i) (by omega)
  have z13 := szsum_take_le a (i + 1)
  have z14 := sz_Guest (el a i)
  have e15 : (el acc i).prog = (el a i).prog := by simp only [hel]
  refine S.go 13 (.cons (Q_idx o3.rn (l := a.length) (k := i) (i := (i : Int)) (by omega) rfl (by omega) Tryz.underlying70 (by kernel_rfl)) (.cons (qc o3.rn 78 i 0 (slv (el acc i).prog.length (q1.2 i).prog.1)) .nil)) fun ac w β S => S.KX (hd := hdl) (d := 18) o9 (c_laws_markInsS w (el acc i).prog (q1.2 i).prog F8 (S.ownw o9) (fun b hb => (S.sep b (o9.sub b hb)).1) j (by omega) (by rw [e15]; omega)) fun ac w N q16 y17 k18 S up o19 c20 x21 b22 b23 => ?_
  rw [e15] at b23
  obtain ⟨p24, o25⟩ := b11 _ _ _ _ up o19 c20
  clear up o3 o9 s10 b11 o19 c20
  obtain ⟨a26, e27⟩ : ∃ z, z = acc.set i ({ el acc i with prog := y17 }) := ⟨_, rfl⟩
  rw [← e27] at o25
  have l28 : a26.length = acc.length := by rw [e27]; exact List.length_set
  have e29 : el a26 i = { el acc i with prog := y17 } := by rw [e27]; exact el_set_self (show i < acc.length by omega)
  have t30 : a26.take i = acc.take i := by rw [e27]; exact take_set_self
  have d31 : a26.drop (i + 1) = acc.drop (i + 1) := by rw [e27]; exact drop_set_self
  clear e27
  refine S.go 10 (.cons (Q_idx o25.rn (l := a.length) (k := i) (i := (i : Int)) (by omega) rfl (by omega) Tryz.underlying70 (by kernel_rfl)) .nil) fun ac w β S => S.SF (α := TGuest) o25 (t := 3) (k := i) (j := 1) (off := q1.1.off + i * 15 + 1) (v := I k18) (y := ({ el a26 i with acc := k18 } : TGuest)) (q := ((q1.1, p24).2 i)) (fun G g_ _ => ⟨G, ows_Guest_acc g_ (⟨by omega, by omega⟩), fun _ h => .inl h⟩) fun w N F33 q34 S up o32 d35 s36 n37 => ?_
  have s38 : ∀ b, F33 b → F b := fun b h => (s36 b h).elim (hs b) (fun h => False.elim h)
  clear up d35 o25 n37
  obtain ⟨a39, e40⟩ : ∃ z, z = a26.set i ({ el a26 i with acc := k18 }) := ⟨_, rfl⟩
  rw [← e40] at o32
  have l41 : a39.length = a26.length := by rw [e40]; exact List.length_set
  have e42 : el a39 i = { el a26 i with acc := k18 } := by rw [e40]; exact el_set_self (show i < a26.length by omega)
  have t43 : a39.take i = a26.take i := by rw [e40]; exact take_set_self
  have d44 : a39.drop (i + 1) = a26.drop (i + 1) := by rw [e40]; exact drop_set_self
  clear e40
  refine S.go 16 (.cons (qp k18 1) (.cons (Q_idx o32.rn (l := a.length) (k := i) (i := (i : Int)) (by omega) rfl (by omega) Tryz.underlying70 (by kernel_rfl)) .nil)) fun ac w β S => S.SF (α := TGuest) o32 (t := 3) (k := i) (j := 2) (off := q1.1.off + i * 15 + 2) (v := I (k18 + 1)) (y := ({ el a39 i with pc := (k18 + 1) } : TGuest)) (q := ((q1.1, q34).2 i)) (fun G g_ _ => ⟨G, ows_Guest_pc g_ (⟨by omega, by omega⟩), fun _ h => .inl h⟩) fun w N F46 q47 S up o45 d48 s49 n50 => ?_
  have s51 : ∀ b, F46 b → F b := fun b h => (s49 b h).elim (s38 b) (fun h => False.elim h)
  clear up d48 o32 n50
  obtain ⟨a52, e53⟩ : ∃ z, z = a39.set i ({ el a39 i with pc := (k18 + 1) }) := ⟨_, rfl⟩
  rw [← e53] at o45
  have l54 : a52.length = a39.length := by rw [e53]; exact List.length_set
  have e55 : el a52 i = { el a39 i with pc := (k18 + 1) } := by rw [e53]; exact el_set_self (show i < a39.length by omega)
  have t56 : a52.take i = a39.take i := by rw [e53]; exact take_set_self
  have d57 : a52.drop (i + 1) = a39.drop (i + 1) := by rw [e53]; exact drop_set_self
  clear e53
  obtain ⟨F58, o59, s60, b61⟩ := foc_Guest_written o45 (k := i) (show i < a52.length by omega)
  have z62 := szsum_take (xs := a) (k := i) (by omega)
  have z63 := szsum_take_le a (i + 1)
  have z64 := sz_Guest (el a i)
  have e65 : (el a52 i).written = (el a i).written := by simp only [e55, e42, e29, hel]
  refine S.go 17 (.cons (qp (k18 + 1) 1) (.cons (Q_idx o45.rn (l := a.length) (k := i) (i := (i : Int)) (by omega) rfl (by omega) Tryz.underlying70 (by kernel_rfl)) (.cons (qc o45.rn 69 i 3 (slv (el a52 i).written.length ((q1.1, q47).2 i).written.1)) .nil))) fun ac w β S => S.KX (hd := hdl) (d := 39) o59 (c_laws_markSlotS w (el a52 i).written ((q1.1, q47).2 i).written F58 (S.ownw o59) (fun b hb => (S.sep b (o59.sub b hb)).1) ((k18 + 1) + 1) (by omega) (by rw [e65]; omega)) fun ac w N q66 y67 k68 S up o69 c70 x71 b72 b73 => ?_
  rw [e65] at b73
  obtain ⟨p74, o75⟩ := b61 _ _ _ _ up o69 c70
  clear up o45 o59 s60 b61 o69 c70
  obtain ⟨a76, e77⟩ : ∃ z, z = a52.set i ({ el a52 i with written := y67 }) := ⟨_, rfl⟩
  rw [← e77] at o75
  have l78 : a76.length = a52.length := by rw [e77]; exact List.length_set
  have e79 : el a76 i = { el a52 i with written := y67 } := by rw [e77]; exact el_set_self (show i < a52.length by omega)
  have t80 : a76.take i = a52.take i := by rw [e77]; exact take_set_self
  have d81 : a76.drop (i + 1) = a52.drop (i + 1) := by rw [e77]; exact drop_set_self
  clear e77
  obtain ⟨F82, o83, s84, b85⟩ := foc_Guest_live o75 (k := i) (show i < a76.length by omega)
  have z86 := szsum_take (xs := a) (k := i) (by omega)
  have z87 := szsum_take_le a (i + 1)
  have z88 := sz_Guest (el a i)
  have e89 : (el a76 i).live = (el a i).live := by simp only [e79, e55, e42, e29, hel]
  refine S.go 11 (.cons (Q_idx o75.rn (l := a.length) (k := i) (i := (i : Int)) (by omega) rfl (by omega) Tryz.underlying70 (by kernel_rfl)) (.cons (qc o75.rn 69 i 4 (slv (el a76 i).live.length ((q1.1, p74).2 i).live.1)) .nil)) fun ac w β S => S.KX (hd := hdl) (d := 46) o83 (c_laws_markSlotS w (el a76 i).live ((q1.1, p74).2 i).live F82 (S.ownw o83) (fun b hb => (S.sep b (o83.sub b hb)).1) k68 (by omega) (by rw [e89]; omega)) fun ac w N q90 y91 k92 S up o93 c94 x95 b96 b97 => ?_
  rw [e89] at b97
  obtain ⟨p98, o99⟩ := b85 _ _ _ _ up o93 c94
  clear up o75 o83 s84 b85 o93 c94
  obtain ⟨a100, e101⟩ : ∃ z, z = a76.set i ({ el a76 i with live := y91 }) := ⟨_, rfl⟩
  rw [← e101] at o99
  have l102 : a100.length = a76.length := by rw [e101]; exact List.length_set
  have e103 : el a100 i = { el a76 i with live := y91 } := by rw [e101]; exact el_set_self (show i < a76.length by omega)
  have t104 : a100.take i = a76.take i := by rw [e101]; exact take_set_self
  have d105 : a100.drop (i + 1) = a76.drop (i + 1) := by rw [e101]; exact drop_set_self
  clear e101
  refine S.go 11 (.cons (Q_idx o99.rn (l := a.length) (k := i) (i := (i : Int)) (by omega) rfl (by omega) Tryz.underlying70 (by kernel_rfl)) .nil) fun ac w β S => S.SF (α := TGuest) o99 (t := 3) (k := i) (j := 5) (off := q1.1.off + i * 15 + 5) (v := I k92) (y := ({ el a100 i with ctl := (⟨k92, (el a100 i).ctl.post, (el a100 i).ctl.opn⟩ : TCtl) } : TGuest)) (q := ((q1.1, p98).2 i)) (fun G g_ _ => ⟨G, ows_Guest_ctl g_ (show RCtl (⟨k92, (el a100 i).ctl.post, (el a100 i).ctl.opn⟩ : TCtl) from ⟨(show In64 k92 from ⟨by omega, by omega⟩), (RCtl.post (d := (el a100 i).ctl) (RGuest.ctl (d := (el a100 i)) (LRd.el o99.rn i (by omega))))⟩), fun _ h => .inl h⟩) fun w N F107 q108 S up o106 d109 s110 n111 => ?_
  have s112 : ∀ b, F107 b → F b := fun b h => (s110 b h).elim (s51 b) (fun h => False.elim h)
  clear up d109 o99 n111
  obtain ⟨a113, e114⟩ : ∃ z, z = a100.set i ({ el a100 i with ctl := (⟨k92, (el a100 i).ctl.post, (el a100 i).ctl.opn⟩ : TCtl) }) := ⟨_, rfl⟩
  rw [← e114] at o106
  have l115 : a113.length = a100.length := by rw [e114]; exact List.length_set
  have e116 : el a113 i = { el a100 i with ctl := (⟨k92, (el a100 i).ctl.post, (el a100 i).ctl.opn⟩ : TCtl) } := by rw [e114]; exact el_set_self (show i < a100.length by omega)
  have t117 : a113.take i = a100.take i := by rw [e114]; exact take_set_self
  have d118 : a113.drop (i + 1) = a100.drop (i + 1) := by rw [e114]; exact drop_set_self
  clear e114
  refine S.go 17 (.cons (qp k92 1) (.cons (Q_idx o106.rn (l := a.length) (k := i) (i := (i : Int)) (by omega) rfl (by omega) Tryz.underlying70 (by kernel_rfl)) .nil)) fun ac w β S => S.SF (α := TGuest) o106 (t := 3) (k := i) (j := 6) (off := q1.1.off + i * 15 + 6) (v := I (k92 + 1)) (y := ({ el a113 i with ctl := (⟨(el a113 i).ctl.traps, (k92 + 1), (el a113 i).ctl.opn⟩ : TCtl) } : TGuest)) (q := ((q1.1, q108).2 i)) (fun G g_ _ => ⟨G, ows_Guest_ctl g_ (show RCtl (⟨(el a113 i).ctl.traps, (k92 + 1), (el a113 i).ctl.opn⟩ : TCtl) from ⟨(RCtl.traps (d := (el a113 i).ctl) (RGuest.ctl (d := (el a113 i)) (LRd.el o106.rn i (by omega)))), (show In64 (k92 + 1) from ⟨by omega, by omega⟩)⟩), fun _ h => .inl h⟩) fun w N F120 q121 S up o119 d122 s123 n124 => ?_
  have s125 : ∀ b, F120 b → F b := fun b h => (s123 b h).elim (s112 b) (fun h => False.elim h)
  clear up d122 o106 n124
  obtain ⟨a126, e127⟩ : ∃ z, z = a113.set i ({ el a113 i with ctl := (⟨(el a113 i).ctl.traps, (k92 + 1), (el a113 i).ctl.opn⟩ : TCtl) }) := ⟨_, rfl⟩
  rw [← e127] at o119
  have l128 : a126.length = a113.length := by rw [e127]; exact List.length_set
  have e129 : el a126 i = { el a113 i with ctl := (⟨(el a113 i).ctl.traps, (k92 + 1), (el a113 i).ctl.opn⟩ : TCtl) } := by rw [e127]; exact el_set_self (show i < a113.length by omega)
  have t130 : a126.take i = a113.take i := by rw [e127]; exact take_set_self
  have d131 : a126.drop (i + 1) = a113.drop (i + 1) := by rw [e127]; exact drop_set_self
  clear e127
  refine S.go 19 (.cons (qp (k92 + 1) 1) (.cons (Q_rem (x := ((k92 + 1) + 1)) (y := 3) (by decide)) (.cons (Q_idx o119.rn (l := a.length) (k := i) (i := (i : Int)) (by omega) rfl (by omega) Tryz.underlying70 (by kernel_rfl)) .nil))) fun ac w β S => S.SF (α := TGuest) o119 (t := 4) (k := i) (j := 7) (off := q1.1.off + i * 15 + 7) (v := B ((Int.tmod ((k92 + 1) + 1) 3) == 0)) (y := ({ el a126 i with ctl := (⟨(el a126 i).ctl.traps, (el a126 i).ctl.post, ((Int.tmod ((k92 + 1) + 1) 3) == 0)⟩ : TCtl) } : TGuest)) (q := ((q1.1, q121).2 i)) (fun G g_ _ => ⟨G, ows_Guest_ctl g_ (show RCtl (⟨(el a126 i).ctl.traps, (el a126 i).ctl.post, ((Int.tmod ((k92 + 1) + 1) 3) == 0)⟩ : TCtl) from ⟨(RCtl.traps (d := (el a126 i).ctl) (RGuest.ctl (d := (el a126 i)) (LRd.el o119.rn i (by omega)))), (RCtl.post (d := (el a126 i).ctl) (RGuest.ctl (d := (el a126 i)) (LRd.el o119.rn i (by omega))))⟩), fun _ h => .inl h⟩) fun w N F133 q134 S up o132 d135 s136 n137 => ?_
  have s138 : ∀ b, F133 b → F b := fun b h => (s136 b h).elim (s125 b) (fun h => False.elim h)
  clear up d135 o119 n137
  obtain ⟨a139, e140⟩ : ∃ z, z = a126.set i ({ el a126 i with ctl := (⟨(el a126 i).ctl.traps, (el a126 i).ctl.post, ((Int.tmod ((k92 + 1) + 1) 3) == 0)⟩ : TCtl) }) := ⟨_, rfl⟩
  rw [← e140] at o132
  have l141 : a139.length = a126.length := by rw [e140]; exact List.length_set
  have e142 : el a139 i = { el a126 i with ctl := (⟨(el a126 i).ctl.traps, (el a126 i).ctl.post, ((Int.tmod ((k92 + 1) + 1) 3) == 0)⟩ : TCtl) } := by rw [e140]; exact el_set_self (show i < a126.length by omega)
  have t143 : a139.take i = a126.take i := by rw [e140]; exact take_set_self
  have d144 : a139.drop (i + 1) = a126.drop (i + 1) := by rw [e140]; exact drop_set_self
  clear e140
  refine S.go 16 (.cons (qp ((k92 + 1) + 1) 1) (.cons (Q_idx o132.rn (l := a.length) (k := i) (i := (i : Int)) (by omega) rfl (by omega) Tryz.underlying70 (by kernel_rfl)) .nil)) fun ac w β S => S.SF (α := TGuest) o132 (t := 3) (k := i) (j := 8) (off := q1.1.off + i * 15 + 8) (v := I (((k92 + 1) + 1) + 1)) (y := ({ el a139 i with pend := (((k92 + 1) + 1) + 1) } : TGuest)) (q := ((q1.1, q134).2 i)) (fun G g_ _ => ⟨G, ows_Guest_pend g_ (⟨by omega, by omega⟩), fun _ h => .inl h⟩) fun w N F146 q147 S up o145 d148 s149 n150 => ?_
  have s151 : ∀ b, F146 b → F b := fun b h => (s149 b h).elim (s138 b) (fun h => False.elim h)
  clear up d148 o132 n150
  obtain ⟨a152, e153⟩ : ∃ z, z = a139.set i ({ el a139 i with pend := (((k92 + 1) + 1) + 1) }) := ⟨_, rfl⟩
  rw [← e153] at o145
  have l154 : a152.length = a139.length := by rw [e153]; exact List.length_set
  have e155 : el a152 i = { el a139 i with pend := (((k92 + 1) + 1) + 1) } := by rw [e153]; exact el_set_self (show i < a139.length by omega)
  have t156 : a152.take i = a139.take i := by rw [e153]; exact take_set_self
  have d157 : a152.drop (i + 1) = a139.drop (i + 1) := by rw [e153]; exact drop_set_self
  clear e153
  refine S.go 17 (.cons (qp (((k92 + 1) + 1) + 1) 1) (.cons (Q_idx o145.rn (l := a.length) (k := i) (i := (i : Int)) (by omega) rfl (by omega) Tryz.underlying70 (by kernel_rfl)) .nil)) fun ac w β S => S.SF (α := TGuest) o145 (t := 3) (k := i) (j := 9) (off := q1.1.off + i * 15 + 9) (v := I ((((k92 + 1) + 1) + 1) + 1)) (y := ({ el a152 i with exit := (⟨((((k92 + 1) + 1) + 1) + 1), (el a152 i).exit.page, (el a152 i).exit.wr, (el a152 i).exit.n⟩ : TExit) } : TGuest)) (q := ((q1.1, q147).2 i)) (fun G g_ _ => ⟨G, ows_Guest_exit g_ (show RExit (⟨((((k92 + 1) + 1) + 1) + 1), (el a152 i).exit.page, (el a152 i).exit.wr, (el a152 i).exit.n⟩ : TExit) from ⟨(show In64 ((((k92 + 1) + 1) + 1) + 1) from ⟨by omega, by omega⟩), (RExit.page (d := (el a152 i).exit) (RGuest.exit (d := (el a152 i)) (LRd.el o145.rn i (by omega)))), (RExit.n (d := (el a152 i).exit) (RGuest.exit (d := (el a152 i)) (LRd.el o145.rn i (by omega))))⟩), fun _ h => .inl h⟩) fun w N F159 q160 S up o158 d161 s162 n163 => ?_
  have s164 : ∀ b, F159 b → F b := fun b h => (s162 b h).elim (s151 b) (fun h => False.elim h)
  clear up d161 o145 n163
  obtain ⟨a165, e166⟩ : ∃ z, z = a152.set i ({ el a152 i with exit := (⟨((((k92 + 1) + 1) + 1) + 1), (el a152 i).exit.page, (el a152 i).exit.wr, (el a152 i).exit.n⟩ : TExit) }) := ⟨_, rfl⟩
  rw [← e166] at o158
  have l167 : a165.length = a152.length := by rw [e166]; exact List.length_set
  have e168 : el a165 i = { el a152 i with exit := (⟨((((k92 + 1) + 1) + 1) + 1), (el a152 i).exit.page, (el a152 i).exit.wr, (el a152 i).exit.n⟩ : TExit) } := by rw [e166]; exact el_set_self (show i < a152.length by omega)
  have t169 : a165.take i = a152.take i := by rw [e166]; exact take_set_self
  have d170 : a165.drop (i + 1) = a152.drop (i + 1) := by rw [e166]; exact drop_set_self
  clear e166
  refine S.go 17 (.cons (qp ((((k92 + 1) + 1) + 1) + 1) 1) (.cons (Q_idx o158.rn (l := a.length) (k := i) (i := (i : Int)) (by omega) rfl (by omega) Tryz.underlying70 (by kernel_rfl)) .nil)) fun ac w β S => S.SF (α := TGuest) o158 (t := 3) (k := i) (j := 10) (off := q1.1.off + i * 15 + 10) (v := I (((((k92 + 1) + 1) + 1) + 1) + 1)) (y := ({ el a165 i with exit := (⟨(el a165 i).exit.kind, (((((k92 + 1) + 1) + 1) + 1) + 1), (el a165 i).exit.wr, (el a165 i).exit.n⟩ : TExit) } : TGuest)) (q := ((q1.1, q160).2 i)) (fun G g_ _ => ⟨G, ows_Guest_exit g_ (show RExit (⟨(el a165 i).exit.kind, (((((k92 + 1) + 1) + 1) + 1) + 1), (el a165 i).exit.wr, (el a165 i).exit.n⟩ : TExit) from ⟨(RExit.kind (d := (el a165 i).exit) (RGuest.exit (d := (el a165 i)) (LRd.el o158.rn i (by omega)))), (show In64 (((((k92 + 1) + 1) + 1) + 1) + 1) from ⟨by omega, by omega⟩), (RExit.n (d := (el a165 i).exit) (RGuest.exit (d := (el a165 i)) (LRd.el o158.rn i (by omega))))⟩), fun _ h => .inl h⟩) fun w N F172 q173 S up o171 d174 s175 n176 => ?_
  have s177 : ∀ b, F172 b → F b := fun b h => (s175 b h).elim (s164 b) (fun h => False.elim h)
  clear up d174 o158 n176
  obtain ⟨a178, e179⟩ : ∃ z, z = a165.set i ({ el a165 i with exit := (⟨(el a165 i).exit.kind, (((((k92 + 1) + 1) + 1) + 1) + 1), (el a165 i).exit.wr, (el a165 i).exit.n⟩ : TExit) }) := ⟨_, rfl⟩
  rw [← e179] at o171
  have l180 : a178.length = a165.length := by rw [e179]; exact List.length_set
  have e181 : el a178 i = { el a165 i with exit := (⟨(el a165 i).exit.kind, (((((k92 + 1) + 1) + 1) + 1) + 1), (el a165 i).exit.wr, (el a165 i).exit.n⟩ : TExit) } := by rw [e179]; exact el_set_self (show i < a165.length by omega)
  have t182 : a178.take i = a165.take i := by rw [e179]; exact take_set_self
  have d183 : a178.drop (i + 1) = a165.drop (i + 1) := by rw [e179]; exact drop_set_self
  clear e179
  refine S.go 19 (.cons (qp (((((k92 + 1) + 1) + 1) + 1) + 1) 1) (.cons (Q_rem (x := ((((((k92 + 1) + 1) + 1) + 1) + 1) + 1)) (y := 3) (by decide)) (.cons (Q_idx o171.rn (l := a.length) (k := i) (i := (i : Int)) (by omega) rfl (by omega) Tryz.underlying70 (by kernel_rfl)) .nil))) fun ac w β S => S.SF (α := TGuest) o171 (t := 4) (k := i) (j := 11) (off := q1.1.off + i * 15 + 11) (v := B ((Int.tmod ((((((k92 + 1) + 1) + 1) + 1) + 1) + 1) 3) == 0)) (y := ({ el a178 i with exit := (⟨(el a178 i).exit.kind, (el a178 i).exit.page, ((Int.tmod ((((((k92 + 1) + 1) + 1) + 1) + 1) + 1) 3) == 0), (el a178 i).exit.n⟩ : TExit) } : TGuest)) (q := ((q1.1, q173).2 i)) (fun G g_ _ => ⟨G, ows_Guest_exit g_ (show RExit (⟨(el a178 i).exit.kind, (el a178 i).exit.page, ((Int.tmod ((((((k92 + 1) + 1) + 1) + 1) + 1) + 1) 3) == 0), (el a178 i).exit.n⟩ : TExit) from ⟨(RExit.kind (d := (el a178 i).exit) (RGuest.exit (d := (el a178 i)) (LRd.el o171.rn i (by omega)))), (RExit.page (d := (el a178 i).exit) (RGuest.exit (d := (el a178 i)) (LRd.el o171.rn i (by omega)))), (RExit.n (d := (el a178 i).exit) (RGuest.exit (d := (el a178 i)) (LRd.el o171.rn i (by omega))))⟩), fun _ h => .inl h⟩) fun w N F185 q186 S up o184 d187 s188 n189 => ?_
  have s190 : ∀ b, F185 b → F b := fun b h => (s188 b h).elim (s177 b) (fun h => False.elim h)
  clear up d187 o171 n189
  obtain ⟨a191, e192⟩ : ∃ z, z = a178.set i ({ el a178 i with exit := (⟨(el a178 i).exit.kind, (el a178 i).exit.page, ((Int.tmod ((((((k92 + 1) + 1) + 1) + 1) + 1) + 1) 3) == 0), (el a178 i).exit.n⟩ : TExit) }) := ⟨_, rfl⟩
  rw [← e192] at o184
  have l193 : a191.length = a178.length := by rw [e192]; exact List.length_set
  have e194 : el a191 i = { el a178 i with exit := (⟨(el a178 i).exit.kind, (el a178 i).exit.page, ((Int.tmod ((((((k92 + 1) + 1) + 1) + 1) + 1) + 1) 3) == 0), (el a178 i).exit.n⟩ : TExit) } := by rw [e192]; exact el_set_self (show i < a178.length by omega)
  have t195 : a191.take i = a178.take i := by rw [e192]; exact take_set_self
  have d196 : a191.drop (i + 1) = a178.drop (i + 1) := by rw [e192]; exact drop_set_self
  clear e192
  refine S.go 17 (.cons (qp ((((((k92 + 1) + 1) + 1) + 1) + 1) + 1) 1) (.cons (Q_idx o184.rn (l := a.length) (k := i) (i := (i : Int)) (by omega) rfl (by omega) Tryz.underlying70 (by kernel_rfl)) .nil)) fun ac w β S => S.SF (α := TGuest) o184 (t := 3) (k := i) (j := 12) (off := q1.1.off + i * 15 + 12) (v := I (((((((k92 + 1) + 1) + 1) + 1) + 1) + 1) + 1)) (y := ({ el a191 i with exit := (⟨(el a191 i).exit.kind, (el a191 i).exit.page, (el a191 i).exit.wr, (((((((k92 + 1) + 1) + 1) + 1) + 1) + 1) + 1)⟩ : TExit) } : TGuest)) (q := ((q1.1, q186).2 i)) (fun G g_ _ => ⟨G, ows_Guest_exit g_ (show RExit (⟨(el a191 i).exit.kind, (el a191 i).exit.page, (el a191 i).exit.wr, (((((((k92 + 1) + 1) + 1) + 1) + 1) + 1) + 1)⟩ : TExit) from ⟨(RExit.kind (d := (el a191 i).exit) (RGuest.exit (d := (el a191 i)) (LRd.el o184.rn i (by omega)))), (RExit.page (d := (el a191 i).exit) (RGuest.exit (d := (el a191 i)) (LRd.el o184.rn i (by omega)))), (show In64 (((((((k92 + 1) + 1) + 1) + 1) + 1) + 1) + 1) from ⟨by omega, by omega⟩)⟩), fun _ h => .inl h⟩) fun w N F198 q199 S up o197 d200 s201 n202 => ?_
  have s203 : ∀ b, F198 b → F b := fun b h => (s201 b h).elim (s190 b) (fun h => False.elim h)
  clear up d200 o184 n202
  obtain ⟨a204, e205⟩ : ∃ z, z = a191.set i ({ el a191 i with exit := (⟨(el a191 i).exit.kind, (el a191 i).exit.page, (el a191 i).exit.wr, (((((((k92 + 1) + 1) + 1) + 1) + 1) + 1) + 1)⟩ : TExit) }) := ⟨_, rfl⟩
  rw [← e205] at o197
  have l206 : a204.length = a191.length := by rw [e205]; exact List.length_set
  have e207 : el a204 i = { el a191 i with exit := (⟨(el a191 i).exit.kind, (el a191 i).exit.page, (el a191 i).exit.wr, (((((((k92 + 1) + 1) + 1) + 1) + 1) + 1) + 1)⟩ : TExit) } := by rw [e205]; exact el_set_self (show i < a191.length by omega)
  have t208 : a204.take i = a191.take i := by rw [e205]; exact take_set_self
  have d209 : a204.drop (i + 1) = a191.drop (i + 1) := by rw [e205]; exact drop_set_self
  clear e205
  refine S.go 18 (.cons (qp (((((((k92 + 1) + 1) + 1) + 1) + 1) + 1) + 1) 1) (.cons (Q_rem (x := ((((((((k92 + 1) + 1) + 1) + 1) + 1) + 1) + 1) + 1)) (y := 3) (by decide)) (.cons (Q_idx o197.rn (l := a.length) (k := i) (i := (i : Int)) (by omega) rfl (by omega) Tryz.underlying70 (by kernel_rfl)) .nil))) fun ac w β S => S.SF (α := TGuest) o197 (t := 4) (k := i) (j := 13) (off := q1.1.off + i * 15 + 13) (v := B ((Int.tmod ((((((((k92 + 1) + 1) + 1) + 1) + 1) + 1) + 1) + 1) 3) == 0)) (y := ({ el a204 i with halted := ((Int.tmod ((((((((k92 + 1) + 1) + 1) + 1) + 1) + 1) + 1) + 1) 3) == 0) } : TGuest)) (q := ((q1.1, q199).2 i)) (fun G g_ _ => ⟨G, ows_Guest_halted g_, fun _ h => .inl h⟩) fun w N F211 q212 S up o210 d213 s214 n215 => ?_
  have s216 : ∀ b, F211 b → F b := fun b h => (s214 b h).elim (s203 b) (fun h => False.elim h)
  clear up d213 o197 n215
  obtain ⟨a217, e218⟩ : ∃ z, z = a204.set i ({ el a204 i with halted := ((Int.tmod ((((((((k92 + 1) + 1) + 1) + 1) + 1) + 1) + 1) + 1) 3) == 0) }) := ⟨_, rfl⟩
  rw [← e218] at o210
  have l219 : a217.length = a204.length := by rw [e218]; exact List.length_set
  have e220 : el a217 i = { el a204 i with halted := ((Int.tmod ((((((((k92 + 1) + 1) + 1) + 1) + 1) + 1) + 1) + 1) 3) == 0) } := by rw [e218]; exact el_set_self (show i < a204.length by omega)
  have t221 : a217.take i = a204.take i := by rw [e218]; exact take_set_self
  have d222 : a217.drop (i + 1) = a204.drop (i + 1) := by rw [e218]; exact drop_set_self
  clear e218
  obtain ⟨F223, o224, s225, b226⟩ := foc_Guest_seen o210 (k := i) (show i < a217.length by omega)
  have z227 := szsum_take (xs := a) (k := i) (by omega)
  have z228 := szsum_take_le a (i + 1)
  have z229 := sz_Guest (el a i)
  have e230 : (el a217 i).seen = (el a i).seen := by simp only [e220, e207, e194, e181, e168, e155, e142, e129, e116, e103, e79, e55, e42, e29, hel]
  refine S.go 16 (.cons (qp ((((((((k92 + 1) + 1) + 1) + 1) + 1) + 1) + 1) + 1) 1) (.cons (Q_idx o210.rn (l := a.length) (k := i) (i := (i : Int)) (by omega) rfl (by omega) Tryz.underlying70 (by kernel_rfl)) (.cons (qc o210.rn 61 i 14 (slv (el a217 i).seen.length ((q1.1, q212).2 i).seen.1)) .nil))) fun ac w β S => S.KX (hd := hdl) (d := 129) o224 (c_laws_markIntS w (el a217 i).seen ((q1.1, q212).2 i).seen F223 (S.ownw o224) (fun b hb => (S.sep b (o224.sub b hb)).1) (((((((((k92 + 1) + 1) + 1) + 1) + 1) + 1) + 1) + 1) + 1) (by omega) (by rw [e230]; omega)) fun ac w N q231 y232 k233 S up o234 c235 x236 b237 b238 => ?_
  rw [e230] at b238
  obtain ⟨p239, o240⟩ := b226 _ _ _ _ up o234 c235
  clear up o210 o224 s225 b226 o234 c235
  obtain ⟨a241, e242⟩ : ∃ z, z = a217.set i ({ el a217 i with seen := y232 }) := ⟨_, rfl⟩
  rw [← e242] at o240
  have l243 : a241.length = a217.length := by rw [e242]; exact List.length_set
  have e244 : el a241 i = { el a217 i with seen := y232 } := by rw [e242]; exact el_set_self (show i < a217.length by omega)
  have t245 : a241.take i = a217.take i := by rw [e242]; exact take_set_self
  have d246 : a241.drop (i + 1) = a217.drop (i + 1) := by rw [e242]; exact drop_set_self
  clear e242
  refine S.ge 9 (.cons (qp (i : Int) 1) .nil) f4 fun ac w β S => hf5.of (a.length - (i + 1)) _ _ (by omega) ⟨i + 1, a241, k233, (q1.1, p239), F211, _, _, _, rfl, ?_, ?_, ?_, ?_, ?_, ?_, S.z, o240, hq, s216⟩
  ·exact oz
  ·clear S; omega
  ·clear S; refine mk_step (acc := a241) (by omega) (by intro f; rw [t245, t221, t208, t195, t182, t169, t156, t143, t130, t117, t104, t80, t56, t43, t30]; exact hM f) ?_; intro f; simp (disch := first | omega | rfl) only [he_list, he_Guest, e244, e220, e207, e194, e181, e168, e155, e142, e129, e116, e103, e79, e55, e42, e29, x21, x71, x95, x236, hdc_pos, hdi_eq, hdb_eq]
  ·clear S; rw [d246, d222, d209, d196, d183, d170, d157, d144, d131, d118, d105, d81, d57, d44, d31]; exact drop_more hD
  ·clear S; omega
  ·clear S; omega
 refine S.gr 13 .nil [I j] fun ac w β S => ?_
 have hyd : hdl acc k = j := by clear S; exact mk_end (by omega) hM
 have hyb : k ≤ j ∧ j ≤ k + 16 * ((SZ.sz a : Nat) : Int) := by clear S; have hs2 := szsum_take_le a i; constructor <;> omega
 exact retX_of S hyd hyb.1 hyb.2 (by show [slv _ _] = [slv _ _]; rw [hl, hq]) o3 hs

theorem c_laws_markKeptS (w0 : World) (a : List TKept) (pa : LP TKept) (F : Bl) (ha : GT.own KK F w0 a pa) (hF : ∀ b, F b → b < w0.heap.size) (k : Int) (pre0 : 0 ≤ k) (pre1 : k + 16 * (SZ.sz a : Int) ≤ 4611686018427387904) : Calls Tryz.prog 83 [slv a.length pa.1, I k].toArray w0 (RetX hdl F w0 pa a k) := by
 refine Calls.run F Tryz.func83 ?_
 intro ac β S
 have oa : Ow w0 F w0 (Lt w0.heap.size) F a pa := ⟨ha, hF, fun b hb => .inr hb⟩
 have hz := sz_list a
 have hlea : a.length ≤ 4194304 := LOwn.le ha
 refine S.go 12 .nil fun ac w β S => ?_
 refine lp (fun mm ac w => ∃ (i : Nat) (acc : List TKept) (j : Int) (q1 : _) (F2 : _) (u : _) (N : _) (β : _), mm = a.length - i ∧ (i ≤ a.length) ∧ (acc.length = a.length) ∧ (∀ f, hdlc (acc.take i) k f = f j) ∧ (acc.drop i = a.drop i) ∧ (k ≤ j) ∧ (j ≤ k + 16 * ((i : Int) + (szsum (a.take i) : Nat))) ∧ St Tryz.prog Tryz.f83.ntmps w0 F u N β ⟨[(0, .v (slv a.length q1.1)), (1, .v (I j)), (5, .v (I (i : Int)))], []⟩ ac w ∧ Ow w0 F u N F2 acc q1 ∧ q1.1 = pa.1 ∧ (∀ b, F2 b → F b)) _ ⟨0, a, k, pa, F, _, _, _, rfl, o0, (by rfl), (by intro f; rfl), (by rfl), o0, (by simp [szsum_nil]), S.z, oa, rfl, (fun _ h => h)⟩ ?_
 clear S oa
 rintro f4 mm hf5 ac w ⟨i, acc, j, q1, F2, u, N, β, rfl, hi, hl, hM, hD, hj0, hj1, S, o3, hq, hs⟩
 refine S.rs fun S => ?_
 have hel := el_of_drop hD
 have hsl := szsum_take_le a i
 refine S.gd 9 .nil (decide ((i : Int) < (a.length : Int))) (fun ac w β h6 g7 S => ?_) (fun ac w β h6 g7 S => ?_)
 ·obtain ⟨F8, o9, s10, b11⟩ := foc_Kept_known o3 (k := i) (show i < acc.length by omega)
  have z12 := szsum_take (xs := a) (k := i) (by omega)
  have z13 := szsum_take_le a (i + 1)
  have z14 := sz_Kept (el a i)
  have e15 : (el acc i).known = (el a i).known := by simp only [hel]
  refine S.go 13 (.cons (Q_idx o3.rn (l := a.length) (k := i) (i := (i : Int)) (by omega) rfl (by omega) Tryz.underlying71 (by kernel_rfl)) (.cons (qc o3.rn 64 i 0 (slv (el acc i).known.length (q1.2 i).known.1)) .nil)) fun ac w β S => S.KX (hd := hdl) (d := 18) o9 (c_laws_markBoolS w (el acc i).known (q1.2 i).known F8 (S.ownw o9) (fun b hb => (S.sep b (o9.sub b hb)).1) j (by omega) (by rw [e15]; omega)) fun ac w N q16 y17 k18 S up o19 c20 x21 b22 b23 => ?_
  rw [e15] at b23
  obtain ⟨p24, o25⟩ := b11 _ _ _ _ up o19 c20
  clear up o3 o9 s10 b11 o19 c20
  obtain ⟨a26, e27⟩ : ∃ z, z = acc.set i ({ el acc i with known := y17 }) := ⟨_, rfl⟩
  rw [← e27] at o25
  have l28 : a26.length = acc.length := by rw [e27]; exact List.length_set
  have e29 : el a26 i = { el acc i with known := y17 } := by rw [e27]; exact el_set_self (show i < acc.length by omega)
  have t30 : a26.take i = acc.take i := by rw [e27]; exact take_set_self
  have d31 : a26.drop (i + 1) = acc.drop (i + 1) := by rw [e27]; exact drop_set_self
  clear e27
  obtain ⟨F32, o33, s34, b35⟩ := foc_Kept_slots o25 (k := i) (show i < a26.length by omega)
  have z36 := szsum_take (xs := a) (k := i) (by omega)
  have z37 := szsum_take_le a (i + 1)
  have z38 := sz_Kept (el a i)
  have e39 : (el a26 i).slots = (el a i).slots := by simp only [e29, hel]
  refine S.go 10 (.cons (Q_idx o25.rn (l := a.length) (k := i) (i := (i : Int)) (by omega) rfl (by omega) Tryz.underlying71 (by kernel_rfl)) (.cons (qc o25.rn 69 i 1 (slv (el a26 i).slots.length ((q1.1, p24).2 i).slots.1)) .nil)) fun ac w β S => S.KX (hd := hdl) (d := 25) o33 (c_laws_markSlotS w (el a26 i).slots ((q1.1, p24).2 i).slots F32 (S.ownw o33) (fun b hb => (S.sep b (o33.sub b hb)).1) k18 (by omega) (by rw [e39]; omega)) fun ac w N q40 y41 k42 S up o43 c44 x45 b46 b47 => ?_
  rw [e39] at b47
  obtain ⟨p48, o49⟩ := b35 _ _ _ _ up o43 c44
  clear up o25 o33 s34 b35 o43 c44
  obtain ⟨a50, e51⟩ : ∃ z, z = a26.set i ({ el a26 i with slots := y41 }) := ⟨_, rfl⟩
  rw [← e51] at o49
  have l52 : a50.length = a26.length := by rw [e51]; exact List.length_set
  have e53 : el a50 i = { el a26 i with slots := y41 } := by rw [e51]; exact el_set_self (show i < a26.length by omega)
  have t54 : a50.take i = a26.take i := by rw [e51]; exact take_set_self
  have d55 : a50.drop (i + 1) = a26.drop (i + 1) := by rw [e51]; exact drop_set_self
  clear e51
  refine S.ge 9 (.cons (qp (i : Int) 1) .nil) f4 fun ac w β S => hf5.of (a.length - (i + 1)) _ _ (by omega) ⟨i + 1, a50, k42, (q1.1, p48), F2, _, _, _, rfl, ?_, ?_, ?_, ?_, ?_, ?_, S.z, o49, hq, hs⟩
  ·exact oz
  ·clear S; omega
  ·clear S; refine mk_step (acc := a50) (by omega) (by intro f; rw [t54, t30]; exact hM f) ?_; intro f; simp (disch := first | omega | rfl) only [he_list, he_Kept, e53, e29, x21, x45, hdc_pos, hdi_eq, hdb_eq]
  ·clear S; rw [d55, d31]; exact drop_more hD
  ·clear S; omega
  ·clear S; omega
 refine S.gr 13 .nil [I j] fun ac w β S => ?_
 have hyd : hdl acc k = j := by clear S; exact mk_end (by omega) hM
 have hyb : k ≤ j ∧ j ≤ k + 16 * ((SZ.sz a : Nat) : Int) := by clear S; have hs2 := szsum_take_le a i; constructor <;> omega
 exact retX_of S hyd hyb.1 hyb.2 (by show [slv _ _] = [slv _ _]; rw [hl, hq]) o3 hs

theorem c_laws_markMonS (w0 : World) (a : List TMon) (pa : LP TMon) (F : Bl) (ha : GT.own KK F w0 a pa) (hF : ∀ b, F b → b < w0.heap.size) (k : Int) (pre0 : 0 ≤ k) (pre1 : k + 16 * (SZ.sz a : Int) ≤ 4611686018427387904) : Calls Tryz.prog 33 [slv a.length pa.1, I k].toArray w0 (RetX hdl F w0 pa a k) := by
 refine Calls.run F Tryz.func33 ?_
 intro ac β S
 have oa : Ow w0 F w0 (Lt w0.heap.size) F a pa := ⟨ha, hF, fun b hb => .inr hb⟩
 have hz := sz_list a
 have hlea : a.length ≤ 4194304 := LOwn.le ha
 refine S.go 12 .nil fun ac w β S => ?_
 refine lp (fun mm ac w => ∃ (i : Nat) (acc : List TMon) (j : Int) (q1 : _) (F2 : _) (u : _) (N : _) (β : _), mm = a.length - i ∧ (i ≤ a.length) ∧ (acc.length = a.length) ∧ (∀ f, hdlc (acc.take i) k f = f j) ∧ (acc.drop i = a.drop i) ∧ (k ≤ j) ∧ (j ≤ k + 16 * ((i : Int) + (szsum (a.take i) : Nat))) ∧ St Tryz.prog Tryz.f33.ntmps w0 F u N β ⟨[(0, .v (slv a.length q1.1)), (1, .v (I j)), (5, .v (I (i : Int)))], []⟩ ac w ∧ Ow w0 F u N F2 acc q1 ∧ q1.1 = pa.1 ∧ (∀ b, F2 b → F b)) _ ⟨0, a, k, pa, F, _, _, _, rfl, o0, (by rfl), (by intro f; rfl), (by rfl), o0, (by simp [szsum_nil]), S.z, oa, rfl, (fun _ h => h)⟩ ?_
 clear S oa
 rintro f4 mm hf5 ac w ⟨i, acc, j, q1, F2, u, N, β, rfl, hi, hl, hM, hD, hj0, hj1, S, o3, hq, hs⟩
 refine S.rs fun S => ?_
 have hel := el_of_drop hD
 have hsl := szsum_take_le a i
 refine S.gd 9 .nil (decide ((i : Int) < (a.length : Int))) (fun ac w β h6 g7 S => ?_) (fun ac w β h6 g7 S => ?_)
 ·obtain ⟨F8, o9, s10, b11⟩ := foc_Mon_outer o3 (k := i) (show i < acc.length by omega)
  have z12 := szsum_take (xs := a) (k := i) (by omega)
  have z13 := szsum_take_le a (i + 1)
  have z14 := sz_Mon (el a i)
  have e15 : (el acc i).outer = (el a i).outer := by simp only [hel]
  refine S.go 13 (.cons (Q_idx o3.rn (l := a.length) (k := i) (i := (i : Int)) (by omega) rfl (by omega) Tryz.underlying28 (by kernel_rfl)) (.cons (qc o3.rn 69 i 0 (slv (el acc i).outer.length (q1.2 i).outer.1)) .nil)) fun ac w β S => S.KX (hd := hdl) (d := 18) o9 (c_laws_markSlotS w (el acc i).outer (q1.2 i).outer F8 (S.ownw o9) (fun b hb => (S.sep b (o9.sub b hb)).1) j (by omega) (by rw [e15]; omega)) fun ac w N q16 y17 k18 S up o19 c20 x21 b22 b23 => ?_
  rw [e15] at b23
  obtain ⟨p24, o25⟩ := b11 _ _ _ _ up o19 c20
  clear up o3 o9 s10 b11 o19 c20
  obtain ⟨a26, e27⟩ : ∃ z, z = acc.set i ({ el acc i with outer := y17 }) := ⟨_, rfl⟩
  rw [← e27] at o25
  have l28 : a26.length = acc.length := by rw [e27]; exact List.length_set
  have e29 : el a26 i = { el acc i with outer := y17 } := by rw [e27]; exact el_set_self (show i < acc.length by omega)
  have t30 : a26.take i = acc.take i := by rw [e27]; exact take_set_self
  have d31 : a26.drop (i + 1) = acc.drop (i + 1) := by rw [e27]; exact drop_set_self
  clear e27
  obtain ⟨F32, o33, s34, b35⟩ := foc_Mon_out o25 (k := i) (show i < a26.length by omega)
  have z36 := szsum_take (xs := a) (k := i) (by omega)
  have z37 := szsum_take_le a (i + 1)
  have z38 := sz_Mon (el a i)
  have e39 : (el a26 i).out = (el a i).out := by simp only [e29, hel]
  refine S.go 11 (.cons (Q_idx o25.rn (l := a.length) (k := i) (i := (i : Int)) (by omega) rfl (by omega) Tryz.underlying28 (by kernel_rfl)) (.cons (qc o25.rn 22 i 1 (slv (el a26 i).out.length ((q1.1, p24).2 i).out.1)) .nil)) fun ac w β S => S.KX (hd := hdl) (d := 25) o33 (c_laws_markIntSS w (el a26 i).out ((q1.1, p24).2 i).out F32 (S.ownw o33) (fun b hb => (S.sep b (o33.sub b hb)).1) k18 (by omega) (by rw [e39]; omega)) fun ac w N q40 y41 k42 S up o43 c44 x45 b46 b47 => ?_
  rw [e39] at b47
  obtain ⟨p48, o49⟩ := b35 _ _ _ _ up o43 c44
  clear up o25 o33 s34 b35 o43 c44
  obtain ⟨a50, e51⟩ : ∃ z, z = a26.set i ({ el a26 i with out := y41 }) := ⟨_, rfl⟩
  rw [← e51] at o49
  have l52 : a50.length = a26.length := by rw [e51]; exact List.length_set
  have e53 : el a50 i = { el a26 i with out := y41 } := by rw [e51]; exact el_set_self (show i < a26.length by omega)
  have t54 : a50.take i = a26.take i := by rw [e51]; exact take_set_self
  have d55 : a50.drop (i + 1) = a26.drop (i + 1) := by rw [e51]; exact drop_set_self
  clear e51
  obtain ⟨F56, o57, s58, b59⟩ := foc_Mon_dirty o49 (k := i) (show i < a50.length by omega)
  have z60 := szsum_take (xs := a) (k := i) (by omega)
  have z61 := szsum_take_le a (i + 1)
  have z62 := sz_Mon (el a i)
  have e63 : (el a50 i).dirty = (el a i).dirty := by simp only [e53, e29, hel]
  refine S.go 11 (.cons (Q_idx o49.rn (l := a.length) (k := i) (i := (i : Int)) (by omega) rfl (by omega) Tryz.underlying28 (by kernel_rfl)) (.cons (qc o49.rn 64 i 2 (slv (el a50 i).dirty.length ((q1.1, p48).2 i).dirty.1)) .nil)) fun ac w β S => S.KX (hd := hdl) (d := 32) o57 (c_laws_markBoolS w (el a50 i).dirty ((q1.1, p48).2 i).dirty F56 (S.ownw o57) (fun b hb => (S.sep b (o57.sub b hb)).1) k42 (by omega) (by rw [e63]; omega)) fun ac w N q64 y65 k66 S up o67 c68 x69 b70 b71 => ?_
  rw [e63] at b71
  obtain ⟨p72, o73⟩ := b59 _ _ _ _ up o67 c68
  clear up o49 o57 s58 b59 o67 c68
  obtain ⟨a74, e75⟩ : ∃ z, z = a50.set i ({ el a50 i with dirty := y65 }) := ⟨_, rfl⟩
  rw [← e75] at o73
  have l76 : a74.length = a50.length := by rw [e75]; exact List.length_set
  have e77 : el a74 i = { el a50 i with dirty := y65 } := by rw [e75]; exact el_set_self (show i < a50.length by omega)
  have t78 : a74.take i = a50.take i := by rw [e75]; exact take_set_self
  have d79 : a74.drop (i + 1) = a50.drop (i + 1) := by rw [e75]; exact drop_set_self
  clear e75
  obtain ⟨F80, o81, s82, b83⟩ := foc_Mon_guests o73 (k := i) (show i < a74.length by omega)
  have z84 := szsum_take (xs := a) (k := i) (by omega)
  have z85 := szsum_take_le a (i + 1)
  have z86 := sz_Mon (el a i)
  have e87 : (el a74 i).guests = (el a i).guests := by simp only [e77, e53, e29, hel]
  refine S.go 11 (.cons (Q_idx o73.rn (l := a.length) (k := i) (i := (i : Int)) (by omega) rfl (by omega) Tryz.underlying28 (by kernel_rfl)) (.cons (qc o73.rn 70 i 3 (slv (el a74 i).guests.length ((q1.1, p72).2 i).guests.1)) .nil)) fun ac w β S => S.KX (hd := hdl) (d := 39) o81 (c_laws_markGuestS w (el a74 i).guests ((q1.1, p72).2 i).guests F80 (S.ownw o81) (fun b hb => (S.sep b (o81.sub b hb)).1) k66 (by omega) (by rw [e87]; omega)) fun ac w N q88 y89 k90 S up o91 c92 x93 b94 b95 => ?_
  rw [e87] at b95
  obtain ⟨p96, o97⟩ := b83 _ _ _ _ up o91 c92
  clear up o73 o81 s82 b83 o91 c92
  obtain ⟨a98, e99⟩ : ∃ z, z = a74.set i ({ el a74 i with guests := y89 }) := ⟨_, rfl⟩
  rw [← e99] at o97
  have l100 : a98.length = a74.length := by rw [e99]; exact List.length_set
  have e101 : el a98 i = { el a74 i with guests := y89 } := by rw [e99]; exact el_set_self (show i < a74.length by omega)
  have t102 : a98.take i = a74.take i := by rw [e99]; exact take_set_self
  have d103 : a98.drop (i + 1) = a74.drop (i + 1) := by rw [e99]; exact drop_set_self
  clear e99
  obtain ⟨F104, o105, s106, b107⟩ := foc_Mon_outs o97 (k := i) (show i < a98.length by omega)
  have z108 := szsum_take (xs := a) (k := i) (by omega)
  have z109 := szsum_take_le a (i + 1)
  have z110 := sz_Mon (el a i)
  have e111 : (el a98 i).outs = (el a i).outs := by simp only [e101, e77, e53, e29, hel]
  refine S.go 11 (.cons (Q_idx o97.rn (l := a.length) (k := i) (i := (i : Int)) (by omega) rfl (by omega) Tryz.underlying28 (by kernel_rfl)) (.cons (qc o97.rn 61 i 4 (slv (el a98 i).outs.length ((q1.1, p96).2 i).outs.1)) .nil)) fun ac w β S => S.KX (hd := hdl) (d := 46) o105 (c_laws_markIntS w (el a98 i).outs ((q1.1, p96).2 i).outs F104 (S.ownw o105) (fun b hb => (S.sep b (o105.sub b hb)).1) k90 (by omega) (by rw [e111]; omega)) fun ac w N q112 y113 k114 S up o115 c116 x117 b118 b119 => ?_
  rw [e111] at b119
  obtain ⟨p120, o121⟩ := b107 _ _ _ _ up o115 c116
  clear up o97 o105 s106 b107 o115 c116
  obtain ⟨a122, e123⟩ : ∃ z, z = a98.set i ({ el a98 i with outs := y113 }) := ⟨_, rfl⟩
  rw [← e123] at o121
  have l124 : a122.length = a98.length := by rw [e123]; exact List.length_set
  have e125 : el a122 i = { el a98 i with outs := y113 } := by rw [e123]; exact el_set_self (show i < a98.length by omega)
  have t126 : a122.take i = a98.take i := by rw [e123]; exact take_set_self
  have d127 : a122.drop (i + 1) = a98.drop (i + 1) := by rw [e123]; exact drop_set_self
  clear e123
  refine S.go 10 (.cons (Q_idx o121.rn (l := a.length) (k := i) (i := (i : Int)) (by omega) rfl (by omega) Tryz.underlying28 (by kernel_rfl)) .nil) fun ac w β S => S.SF (α := TMon) o121 (t := 3) (k := i) (j := 5) (off := q1.1.off + i * 9 + 5) (v := I k114) (y := ({ el a122 i with pend := k114 } : TMon)) (q := ((q1.1, p120).2 i)) (fun G g_ _ => ⟨G, ows_Mon_pend g_ (⟨by omega, by omega⟩), fun _ h => .inl h⟩) fun w N F129 q130 S up o128 d131 s132 n133 => ?_
  have s134 : ∀ b, F129 b → F b := fun b h => (s132 b h).elim (hs b) (fun h => False.elim h)
  clear up d131 o121 n133
  obtain ⟨a135, e136⟩ : ∃ z, z = a122.set i ({ el a122 i with pend := k114 }) := ⟨_, rfl⟩
  rw [← e136] at o128
  have l137 : a135.length = a122.length := by rw [e136]; exact List.length_set
  have e138 : el a135 i = { el a122 i with pend := k114 } := by rw [e136]; exact el_set_self (show i < a122.length by omega)
  have t139 : a135.take i = a122.take i := by rw [e136]; exact take_set_self
  have d140 : a135.drop (i + 1) = a122.drop (i + 1) := by rw [e136]; exact drop_set_self
  clear e136
  refine S.go 16 (.cons (qp k114 1) (.cons (Q_idx o128.rn (l := a.length) (k := i) (i := (i : Int)) (by omega) rfl (by omega) Tryz.underlying28 (by kernel_rfl)) .nil)) fun ac w β S => S.SF (α := TMon) o128 (t := 3) (k := i) (j := 6) (off := q1.1.off + i * 9 + 6) (v := I (k114 + 1)) (y := ({ el a135 i with traps := (k114 + 1) } : TMon)) (q := ((q1.1, q130).2 i)) (fun G g_ _ => ⟨G, ows_Mon_traps g_ (⟨by omega, by omega⟩), fun _ h => .inl h⟩) fun w N F142 q143 S up o141 d144 s145 n146 => ?_
  have s147 : ∀ b, F142 b → F b := fun b h => (s145 b h).elim (s134 b) (fun h => False.elim h)
  clear up d144 o128 n146
  obtain ⟨a148, e149⟩ : ∃ z, z = a135.set i ({ el a135 i with traps := (k114 + 1) }) := ⟨_, rfl⟩
  rw [← e149] at o141
  have l150 : a148.length = a135.length := by rw [e149]; exact List.length_set
  have e151 : el a148 i = { el a135 i with traps := (k114 + 1) } := by rw [e149]; exact el_set_self (show i < a135.length by omega)
  have t152 : a148.take i = a135.take i := by rw [e149]; exact take_set_self
  have d153 : a148.drop (i + 1) = a135.drop (i + 1) := by rw [e149]; exact drop_set_self
  clear e149
  obtain ⟨F154, o155, s156, b157⟩ := foc_Mon_tables o141 (k := i) (show i < a148.length by omega)
  have z158 := szsum_take (xs := a) (k := i) (by omega)
  have z159 := szsum_take_le a (i + 1)
  have z160 := sz_Mon (el a i)
  have e161 : (el a148 i).tables = (el a i).tables := by simp only [e151, e138, e125, e101, e77, e53, e29, hel]
  refine S.go 17 (.cons (qp (k114 + 1) 1) (.cons (Q_idx o141.rn (l := a.length) (k := i) (i := (i : Int)) (by omega) rfl (by omega) Tryz.underlying28 (by kernel_rfl)) (.cons (qc o141.rn 71 i 7 (slv (el a148 i).tables.length ((q1.1, q143).2 i).tables.1)) .nil))) fun ac w β S => S.KX (hd := hdl) (d := 67) o155 (c_laws_markKeptS w (el a148 i).tables ((q1.1, q143).2 i).tables F154 (S.ownw o155) (fun b hb => (S.sep b (o155.sub b hb)).1) ((k114 + 1) + 1) (by omega) (by rw [e161]; omega)) fun ac w N q162 y163 k164 S up o165 c166 x167 b168 b169 => ?_
  rw [e161] at b169
  obtain ⟨p170, o171⟩ := b157 _ _ _ _ up o165 c166
  clear up o141 o155 s156 b157 o165 c166
  obtain ⟨a172, e173⟩ : ∃ z, z = a148.set i ({ el a148 i with tables := y163 }) := ⟨_, rfl⟩
  rw [← e173] at o171
  have l174 : a172.length = a148.length := by rw [e173]; exact List.length_set
  have e175 : el a172 i = { el a148 i with tables := y163 } := by rw [e173]; exact el_set_self (show i < a148.length by omega)
  have t176 : a172.take i = a148.take i := by rw [e173]; exact take_set_self
  have d177 : a172.drop (i + 1) = a148.drop (i + 1) := by rw [e173]; exact drop_set_self
  clear e173
  refine S.go 10 (.cons (Q_idx o171.rn (l := a.length) (k := i) (i := (i : Int)) (by omega) rfl (by omega) Tryz.underlying28 (by kernel_rfl)) .nil) fun ac w β S => S.SF (α := TMon) o171 (t := 3) (k := i) (j := 8) (off := q1.1.off + i * 9 + 8) (v := I k164) (y := ({ el a172 i with owned := k164 } : TMon)) (q := ((q1.1, p170).2 i)) (fun G g_ _ => ⟨G, ows_Mon_owned g_ (⟨by omega, by omega⟩), fun _ h => .inl h⟩) fun w N F179 q180 S up o178 d181 s182 n183 => ?_
  have s184 : ∀ b, F179 b → F b := fun b h => (s182 b h).elim (s147 b) (fun h => False.elim h)
  clear up d181 o171 n183
  obtain ⟨a185, e186⟩ : ∃ z, z = a172.set i ({ el a172 i with owned := k164 }) := ⟨_, rfl⟩
  rw [← e186] at o178
  have l187 : a185.length = a172.length := by rw [e186]; exact List.length_set
  have e188 : el a185 i = { el a172 i with owned := k164 } := by rw [e186]; exact el_set_self (show i < a172.length by omega)
  have t189 : a185.take i = a172.take i := by rw [e186]; exact take_set_self
  have d190 : a185.drop (i + 1) = a172.drop (i + 1) := by rw [e186]; exact drop_set_self
  clear e186
  refine S.ge 14 (.cons (qp k164 1) (.cons (qp (i : Int) 1) .nil)) f4 fun ac w β S => hf5.of (a.length - (i + 1)) _ _ (by omega) ⟨i + 1, a185, (k164 + 1), (q1.1, q180), F179, _, _, _, rfl, ?_, ?_, ?_, ?_, ?_, ?_, S.z, o178, hq, s184⟩
  ·exact oz
  ·clear S; omega
  ·clear S; refine mk_step (acc := a185) (by omega) (by intro f; rw [t189, t176, t152, t139, t126, t102, t78, t54, t30]; exact hM f) ?_; intro f; simp (disch := first | omega | rfl) only [he_list, he_Mon, e188, e175, e151, e138, e125, e101, e77, e53, e29, x21, x45, x69, x93, x117, x167, hdc_pos, hdi_eq, hdb_eq]
  ·clear S; rw [d190, d177, d153, d140, d127, d103, d79, d55, d31]; exact drop_more hD
  ·clear S; omega
  ·clear S; omega
 refine S.gr 13 .nil [I j] fun ac w β S => ?_
 have hyd : hdl acc k = j := by clear S; exact mk_end (by omega) hM
 have hyb : k ≤ j ∧ j ≤ k + 16 * ((SZ.sz a : Nat) : Int) := by clear S; have hs2 := szsum_take_le a i; constructor <;> omega
 exact retX_of S hyd hyb.1 hyb.2 (by show [slv _ _] = [slv _ _]; rw [hl, hq]) o3 hs

theorem c_laws_markEntryS (w0 : World) (a : List TEntry) (pa : LP TEntry) (F : Bl) (ha : GT.own KK F w0 a pa) (hF : ∀ b, F b → b < w0.heap.size) (k : Int) (pre0 : 0 ≤ k) (pre1 : k + 16 * (SZ.sz a : Int) ≤ 4611686018427387904) : Calls Tryz.prog 34 [slv a.length pa.1, I k].toArray w0 (RetX hdl F w0 pa a k) := by
 refine Calls.run F Tryz.func34 ?_
 intro ac β S
 have oa : Ow w0 F w0 (Lt w0.heap.size) F a pa := ⟨ha, hF, fun b hb => .inr hb⟩
 have hz := szl_TEntry a
 have hlea : a.length ≤ 4194304 := LOwn.le ha
 refine S.go 12 .nil fun ac w β S => ?_
 refine lp (fun mm ac w => ∃ (i : Nat) (acc : List TEntry) (j : Int) (q1 : _) (F2 : _) (u : _) (N : _) (β : _), mm = a.length - i ∧ (i ≤ a.length) ∧ (acc = f_marksEntry i k ++ a.drop i) ∧ (j = k + 4 * (i : Int)) ∧ St Tryz.prog Tryz.f34.ntmps w0 F u N β ⟨[(0, .v (slv a.length q1.1)), (1, .v (I j)), (5, .v (I (i : Int)))], []⟩ ac w ∧ Ow w0 F u N F2 acc q1 ∧ q1.1 = pa.1 ∧ (∀ b, F2 b → F b)) _ ⟨0, a, k, pa, F, _, _, _, rfl, o0, (by simp [f_marksEntry]), (by simp), S.z, oa, rfl, (fun _ h => h)⟩ ?_
 clear S oa
 rintro f4 mm hf5 ac w ⟨i, acc, j, q1, F2, u, N, β, rfl, hi, hacc, hj, S, o3, hq, hs⟩
 refine S.rs fun S => ?_
 have hlacc : acc.length = a.length := by rw [hacc]; simp [f_marksEntry]; omega
 refine S.gd 9 .nil (decide ((i : Int) < (a.length : Int))) (fun ac w β h6 g7 S => ?_) (fun ac w β h6 g7 S => ?_)
 ·have e8 : REntry (el acc i) := (LRd.el o3.rn i (by omega))
  refine S.go 12 (.cons (Q_idx o3.rn (l := a.length) (k := i) (i := (i : Int)) (by rw [hacc]; simp [f_marksEntry]; omega) rfl (by omega) Tryz.underlying29 (by kernel_rfl)) .nil) fun ac w β S => S.SF (α := TEntry) o3 (t := 3) (k := i) (j := 0) (off := q1.1.off + i * 4) (v := I j) (y := (⟨j, (el acc i).page, (el acc i).host, (el acc i).rights⟩ : TEntry)) (q := ()) (fun _ _ _ => ⟨NoB, (show REntry (⟨j, (el acc i).page, (el acc i).host, (el acc i).rights⟩ : TEntry) from ⟨(show In64 j from ⟨by omega, by omega⟩), (REntry.page (d := (el acc i)) e8), (REntry.host (d := (el acc i)) e8), (REntry.rights (d := (el acc i)) e8)⟩), fun _ h => False.elim h⟩) fun w N F10 q11 S up o9 d12 s13 n14 => ?_
  have s15 : ∀ b, F10 b → F b := fun b h => (s13 b h).elim (hs b) (fun h => False.elim h)
  clear up d12 o3 n14
  have l16 : (acc.set i (⟨j, (el acc i).page, (el acc i).host, (el acc i).rights⟩ : TEntry)).length = acc.length := List.length_set
  refine S.go 16 (.cons (qp j 1) (.cons (Q_idx o9.rn (l := a.length) (k := i) (i := (i : Int)) (by rw [List.length_set]; exact (by rw [hacc]; simp [f_marksEntry]; omega)) rfl (by omega) Tryz.underlying29 (by kernel_rfl)) .nil)) fun ac w β S => S.SL o9 (α := TEntry) (t := 3) (v := I (j + 1)) (k := i) (j := 1) (off := q1.1.off + i * 4 + 1) (y := (⟨j, (j + 1), (el acc i).host, (el acc i).rights⟩ : TEntry)) (q := ()) (Fy := NoB) (by omega) (Nat.le_of_ble_eq_true (by kernel_rfl)) (fun _ _ _ => ⟨NoB, (show REntry (⟨j, (j + 1), (el acc i).host, (el acc i).rights⟩ : TEntry) from ⟨(show In64 j from ⟨by omega, by omega⟩), (show In64 (j + 1) from ⟨by omega, by omega⟩), (REntry.host (d := (el acc i)) e8), (REntry.rights (d := (el acc i)) e8)⟩), fun _ h => False.elim h⟩) (fun b _ h => False.elim h) (fun b h => False.elim h) (fun b h => False.elim h) ?_ (hc := (by rw [el_set_self (show i < acc.length by omega)]; kernel_rfl))
  clear S; intro w N F18 q19 S up o17 d20 s21 n22
  have s23 : ∀ b, F18 b → F b := fun b h => (s21 b h).elim (s15 b) (fun h => False.elim h)
  clear up d20 o9 n22
  rw [List.set_set] at o17
  have l24 : (acc.set i (⟨j, (j + 1), (el acc i).host, (el acc i).rights⟩ : TEntry)).length = acc.length := List.length_set
  refine S.go 16 (.cons (qp (j + 1) 1) (.cons (Q_idx o17.rn (l := a.length) (k := i) (i := (i : Int)) (by rw [List.length_set]; exact (by rw [hacc]; simp [f_marksEntry]; omega)) rfl (by omega) Tryz.underlying29 (by kernel_rfl)) .nil)) fun ac w β S => S.SL o17 (α := TEntry) (t := 3) (v := I ((j + 1) + 1)) (k := i) (j := 2) (off := q1.1.off + i * 4 + 2) (y := (⟨j, (j + 1), ((j + 1) + 1), (el acc i).rights⟩ : TEntry)) (q := ()) (Fy := NoB) (by omega) (Nat.le_of_ble_eq_true (by kernel_rfl)) (fun _ _ _ => ⟨NoB, (show REntry (⟨j, (j + 1), ((j + 1) + 1), (el acc i).rights⟩ : TEntry) from ⟨(show In64 j from ⟨by omega, by omega⟩), (show In64 (j + 1) from ⟨by omega, by omega⟩), (show In64 ((j + 1) + 1) from ⟨by omega, by omega⟩), (REntry.rights (d := (el acc i)) e8)⟩), fun _ h => False.elim h⟩) (fun b _ h => False.elim h) (fun b h => False.elim h) (fun b h => False.elim h) ?_ (hc := (by rw [el_set_self (show i < acc.length by omega)]; kernel_rfl))
  clear S; intro w N F26 q27 S up o25 d28 s29 n30
  have s31 : ∀ b, F26 b → F b := fun b h => (s29 b h).elim (s23 b) (fun h => False.elim h)
  clear up d28 o17 n30
  rw [List.set_set] at o25
  have l32 : (acc.set i (⟨j, (j + 1), ((j + 1) + 1), (el acc i).rights⟩ : TEntry)).length = acc.length := List.length_set
  refine S.go 16 (.cons (qp ((j + 1) + 1) 1) (.cons (Q_idx o25.rn (l := a.length) (k := i) (i := (i : Int)) (by rw [List.length_set]; exact (by rw [hacc]; simp [f_marksEntry]; omega)) rfl (by omega) Tryz.underlying29 (by kernel_rfl)) .nil)) fun ac w β S => S.SL o25 (α := TEntry) (t := 3) (v := I (((j + 1) + 1) + 1)) (k := i) (j := 3) (off := q1.1.off + i * 4 + 3) (y := (⟨j, (j + 1), ((j + 1) + 1), (((j + 1) + 1) + 1)⟩ : TEntry)) (q := ()) (Fy := NoB) (by omega) (Nat.le_of_ble_eq_true (by kernel_rfl)) (fun _ _ _ => ⟨NoB, (show REntry (⟨j, (j + 1), ((j + 1) + 1), (((j + 1) + 1) + 1)⟩ : TEntry) from ⟨(show In64 j from ⟨by omega, by omega⟩), (show In64 (j + 1) from ⟨by omega, by omega⟩), (show In64 ((j + 1) + 1) from ⟨by omega, by omega⟩), (show In64 (((j + 1) + 1) + 1) from ⟨by omega, by omega⟩)⟩), fun _ h => False.elim h⟩) (fun b _ h => False.elim h) (fun b h => False.elim h) (fun b h => False.elim h) ?_ (hc := (by rw [el_set_self (show i < acc.length by omega)]; kernel_rfl))
  clear S; intro w N F34 q35 S up o33 d36 s37 n38
  have s39 : ∀ b, F34 b → F b := fun b h => (s37 b h).elim (s31 b) (fun h => False.elim h)
  clear up d36 o25 n38
  rw [List.set_set] at o33
  have l40 : (acc.set i (⟨j, (j + 1), ((j + 1) + 1), (((j + 1) + 1) + 1)⟩ : TEntry)).length = acc.length := List.length_set
  refine S.ge 14 (.cons (qp (((j + 1) + 1) + 1) 1) (.cons (qp (i : Int) 1) .nil)) f4 fun ac w β S => hf5.of (a.length - (i + 1)) _ _ (by omega) ⟨i + 1, (acc.set i (⟨j, (j + 1), ((j + 1) + 1), (((j + 1) + 1) + 1)⟩ : TEntry)), ((((j + 1) + 1) + 1) + 1), (q1.1, q35), F34, _, _, _, rfl, ?_, ?_, ?_, S.z, o33, hq, s39⟩
  ·exact oz
  ·clear S; (have hlt : i < acc.length := (by omega)); rw [hacc, ← marksEntry_step (by omega) hj]; (first | rfl | (simp [g_markEntry, Int.add_assoc]; done))
  ·clear S; omega
 refine S.gr 13 .nil [I j] fun ac w β S => ?_
 have hyd : hdl acc k = j := by clear S; (have e : i = a.length := (by omega)); subst e; rw [hacc, List.drop_length, List.append_nil, hj]; exact hd_marksEntry k (by omega) _ (by omega) id
 have hyb : k ≤ j ∧ j ≤ k + 16 * ((SZ.sz a : Nat) : Int) := by clear S; skip; constructor <;> omega
 exact retX_of S hyd hyb.1 hyb.2 (by show [slv _ _] = [slv _ _]; rw [hlacc, hq]) o3 hs

theorem c_laws_markHost (w0 : World) (a : THost) (pa : PHost) (F : Bl) (ha : GT.own KK F w0 a pa) (hF : ∀ b, F b → b < w0.heap.size) (k : Int) (pre0 : 0 ≤ k) (pre1 : k + 16 * (SZ.sz a : Int) ≤ 4611686018427387904) : Calls Tryz.prog 12 [GT.val a pa, I k].toArray w0 (RetX hdT_Host F w0 pa a k) := by
 refine Calls.run F Tryz.func12 ?_
 intro ac β S
 have oa : Ow w0 F w0 (Lt w0.heap.size) F a pa := ⟨ha, hF, fun b hb => .inr hb⟩
 obtain ⟨F1, F4, F7, F10, o2, o5, o8, o11, s3, s6, s9, s12, d13, d14, d15, d16, d17, d18⟩ := sp_Host oa
 have hz := sz_Host a
 refine S.go 11 .nil fun ac w β S => S.KX (hd := hdl) (d := 8) o2 (c_laws_markIntSS w a.mem pa.mem F1 (S.ownw o2) (fun b hb => (S.sep b (o2.sub b hb)).1) k (by omega) (by omega)) fun ac w N q19 y20 k21 S up o22 c23 x24 b25 b26 => ?_
 replace o5 := o5.upF (Disj.symm d13) up
 replace o8 := o8.upF (Disj.symm d14) up
 replace o11 := o11.upF (Disj.symm d15) up
 clear up
 refine S.go 8 .nil fun ac w β S => S.KX (hd := hdl) (d := 12) o5 (c_laws_markMonS w a.mons pa.mons F4 (S.ownw o5) (fun b hb => (S.sep b (o5.sub b hb)).1) k21 (by omega) (by omega)) fun ac w N q27 y28 k29 S up o30 c31 x32 b33 b34 => ?_
 replace o8 := o8.upF (Disj.symm d16) up
 replace o11 := o11.upF (Disj.symm d17) up
 replace o22 := o22.upF (Disj.symm (Disj.symm d13)) up
 clear up
 refine S.go 8 .nil fun ac w β S => S.KX (hd := hdl) (d := 16) o8 (c_laws_markEntryS w a.buf pa.buf F7 (S.ownw o8) (fun b hb => (S.sep b (o8.sub b hb)).1) k29 (by omega) (by omega)) fun ac w N q35 y36 k37 S up o38 c39 x40 b41 b42 => ?_
 replace o11 := o11.upF (Disj.symm d18) up
 replace o22 := o22.upF (Disj.symm (Disj.symm d14)) up
 replace o30 := o30.upF (Disj.symm (Disj.symm d16)) up
 clear up
 refine S.go 8 .nil fun ac w β S => S.KX (hd := hdl) (d := 20) o11 (c_laws_markEntryS w a.iobuf pa.iobuf F10 (S.ownw o11) (fun b hb => (S.sep b (o11.sub b hb)).1) k37 (by omega) (by omega)) fun ac w N q43 y44 k45 S up o46 c47 x48 b49 b50 => ?_
 replace o22 := o22.upF (Disj.symm (Disj.symm d15)) up
 replace o30 := o30.upF (Disj.symm (Disj.symm d17)) up
 replace o38 := o38.upF (Disj.symm (Disj.symm d18)) up
 clear up
 refine S.gr 10 .nil [I k45] fun ac w β S => ?_
 have o51 := ow_Host (x := (⟨y20, y28, y36, y44⟩ : THost)) (p := (⟨q19, q27, q35, q43⟩ : PHost)) o22 o30 o38 o46 (Disj.symm (Disj.symm d13)) (Disj.symm (Disj.symm d14)) (Disj.symm (Disj.symm d15)) (Disj.symm (Disj.symm d16)) (Disj.symm (Disj.symm d17)) (Disj.symm (Disj.symm d18)) 
 have hcc := cc_Host (x := (⟨y20, y28, y36, y44⟩ : THost)) (y := a) (p := (⟨q19, q27, q35, q43⟩ : PHost)) (q := pa) c23 c31 c39 c47 
 have hsz := sz_Host a
 have hyd : hdT_Host (⟨y20, y28, y36, y44⟩ : THost) k = k45 := by clear S; simp (disch := omega) only [hdT_Host, x24, x32, x40, x48, hdc_pos]
 have hyb : k ≤ k45 ∧ k45 ≤ k + 16 * ((SZ.sz a : Nat) : Int) := by clear S; constructor <;> omega
 exact retX_of S hyd hyb.1 hyb.2 hcc o51 (uni_all fun G hG => by simp only [List.mem_cons, List.not_mem_nil, or_false] at hG; rcases hG with rfl | rfl | rfl | rfl <;> assumption)

theorem k0_laws_heldIntS {p : Prop} (h : p := by clear S; (first | (rw [hr, hd_end (by omega)]; done) | (rw [hr, hd_step (by omega)]; simp [he_Int, w1, hdi, hdb, hdc, *]; done) | (rw [hr, hd_step (by omega)]; simp_all [he_Int, w1, hdi, hdb, hdc]; done))) : p := h
theorem c_laws_heldIntS (w0 : World) (a : List Int) (pa : LP Int) (ha : RD w0 a pa) (k : Int) : Calls Tryz.prog 84 [slv a.length pa.1, I k].toArray w0 (fun e w' => e = .returned (I (hdl a k)) ∧ Chg NoB w0 w') := by
 refine Calls.run NoB Tryz.func84 ?_
 intro ac β S
 have hlea : a.length ≤ 4194304 := LRd.le ha
 refine S.go 12 .nil fun ac w β S => ?_
 refine lp (fun mm ac w => ∃ (i : Nat) (j : Int)  (u : _) (N : _) (β : _), mm = a.length - i ∧ (i ≤ a.length) ∧ (hdl a k = hdlc (a.drop i) j id) ∧ St Tryz.prog Tryz.f84.ntmps w0 NoB u N β ⟨[(0, .v (slv a.length pa.1)), (1, .v (I j)), (5, .v (I (i : Int)))], []⟩ ac w) _ ⟨0, k, _, _, _, rfl, o0, (by rfl), S.z⟩ ?_
 clear S
 rintro f1 mm hf2 ac w ⟨i, j, u, N, β, rfl, hi, hr, S⟩
 refine S.rs fun S => ?_
 refine S.gd 9 .nil (decide ((i : Int) < (a.length : Int))) (fun ac w β h3 g4 S => ?_) (fun ac w β h3 g4 S => ?_)
 ·refine S.gd 16 (.cons (qn (S.arg ha) i Tryz.underlying61) (.cons (qx (S.arg ha) 3 i) .nil)) ((el a i) != j) (fun ac w β h5 g6 S => ?_) (fun ac w β h5 g6 S => ?_)
  ·exact S.gf 7 .nil [I (-1)] (retI k0_laws_heldIntS)
  refine S.ge 15 (.cons (Q_addw (x := j) (y := 1)) (.cons (qp (i : Int) 1) .nil)) f1 fun ac w β S => hf2.of (a.length - (i + 1)) _ _ (by omega) ⟨i + 1, (w1 j), _, _, _, rfl, ?_, ?_, S.z⟩
  ·exact oz
  ·clear S; (rw [hr, hd_step (by omega)]; simp [he_Int, w1, hdi, hdb, hdc, *])
 exact S.gf 13 .nil [I j] (retI k0_laws_heldIntS)

theorem k0_laws_heldIntSS {p : Prop} (h : p := by clear S; (first | (rw [hr, hd_end (by omega)]; done) | (rw [hr, hd_step (by omega)]; simp [he_list, w1, hdi, hdb, hdc, *]; done) | (rw [hr, hd_step (by omega)]; simp_all [he_list, w1, hdi, hdb, hdc]; done))) : p := h
theorem c_laws_heldIntSS (w0 : World) (a : List (List Int)) (pa : LP (List Int)) (ha : RD w0 a pa) (k : Int) : Calls Tryz.prog 35 [slv a.length pa.1, I k].toArray w0 (fun e w' => e = .returned (I (hdl a k)) ∧ Chg NoB w0 w') := by
 refine Calls.run NoB Tryz.func35 ?_
 intro ac β S
 have hlea : a.length ≤ 4194304 := LRd.le ha
 refine S.go 12 .nil fun ac w β S => ?_
 refine lp (fun mm ac w => ∃ (i : Nat) (j : Int)  (u : _) (N : _) (β : _), mm = a.length - i ∧ (i ≤ a.length) ∧ (hdl a k = hdlc (a.drop i) j id) ∧ St Tryz.prog Tryz.f35.ntmps w0 NoB u N β ⟨[(0, .v (slv a.length pa.1)), (1, .v (I j)), (5, .v (I (i : Int)))], []⟩ ac w) _ ⟨0, k, _, _, _, rfl, o0, (by rfl), S.z⟩ ?_
 clear S
 rintro f1 mm hf2 ac w ⟨i, j, u, N, β, rfl, hi, hr, S⟩
 refine S.rs fun S => ?_
 refine S.gd 9 .nil (decide ((i : Int) < (a.length : Int))) (fun ac w β h3 g4 S => ?_) (fun ac w β h3 g4 S => ?_)
 ·refine S.gd 22 (.cons (qn (S.arg ha) i Tryz.underlying22) (.cons (qx (S.arg ha) 61 i) (.cons (Q_call fun w hw => c_laws_heldIntS w (el a i) (pa.2 i) (rd_of (LRd.el (S.arg ha) i (by omega)) hw) j) .nil))) (decide ((hdl (el a i) j) < 0)) (fun ac w β h5 g6 S => ?_) (fun ac w β h5 g6 S => ?_)
  ·exact S.gf 7 .nil [I (-1)] (retI k0_laws_heldIntSS)
  refine S.ge 9 (.cons (qp (i : Int) 1) .nil) f1 fun ac w β S => hf2.of (a.length - (i + 1)) _ _ (by omega) ⟨i + 1, (hdl (el a i) j), _, _, _, rfl, ?_, ?_, S.z⟩
  ·exact oz
  ·clear S; (rw [hr, hd_step (by omega)]; simp [he_list, w1, hdi, hdb, hdc, *])
 exact S.gf 13 .nil [I j] (retI k0_laws_heldIntSS)

theorem k0_laws_heldSlotS {p : Prop} (h : p := by clear S; (first | (rw [hr, hd_end (by omega)]; done) | (rw [hr, hd_step (by omega)]; simp [he_Slot, w1, hdi, hdb, hdc, *]; done) | (rw [hr, hd_step (by omega)]; simp_all [he_Slot, w1, hdi, hdb, hdc]; done))) : p := h
theorem c_laws_heldSlotS (w0 : World) (a : List TSlot) (pa : LP TSlot) (ha : RD w0 a pa) (k : Int) : Calls Tryz.prog 85 [slv a.length pa.1, I k].toArray w0 (fun e w' => e = .returned (I (hdl a k)) ∧ Chg NoB w0 w') := by
 refine Calls.run NoB Tryz.func85 ?_
 intro ac β S
 have hlea : a.length ≤ 4194304 := LRd.le ha
 refine S.go 12 .nil fun ac w β S => ?_
 refine lp (fun mm ac w => ∃ (i : Nat) (j : Int)  (u : _) (N : _) (β : _), mm = a.length - i ∧ (i ≤ a.length) ∧ (hdl a k = hdlc (a.drop i) j id) ∧ St Tryz.prog Tryz.f85.ntmps w0 NoB u N β ⟨[(0, .v (slv a.length pa.1)), (1, .v (I j)), (5, .v (I (i : Int)))], []⟩ ac w) _ ⟨0, k, _, _, _, rfl, o0, (by rfl), S.z⟩ ?_
 clear S
 rintro f1 mm hf2 ac w ⟨i, j, u, N, β, rfl, hi, hr, S⟩
 refine S.rs fun S => ?_
 refine S.gd 9 .nil (decide ((i : Int) < (a.length : Int))) (fun ac w β h3 g4 S => ?_) (fun ac w β h3 g4 S => ?_)
 ·refine S.gd 17 (.cons (qn (S.arg ha) i Tryz.underlying69) (.cons (qc (S.arg ha) 3 i 0 (I (el a i).page)) .nil)) ((el a i).page != j) (fun ac w β h5 g6 S => ?_) (fun ac w β h5 g6 S => ?_)
  ·exact S.gf 7 .nil [I (-1)] (retI k0_laws_heldSlotS)
  refine S.gd 22 (.cons (Q_addw (x := j) (y := 1)) (.cons (qn (S.arg ha) i Tryz.underlying69) (.cons (qc (S.arg ha) 3 i 1 (I (el a i).rights)) .nil))) ((el a i).rights != (w1 j)) (fun ac w β h7 g8 S => ?_) (fun ac w β h7 g8 S => ?_)
  ·exact S.gf 7 .nil [I (-1)] (retI k0_laws_heldSlotS)
  refine S.ge 15 (.cons (Q_addw (x := (w1 j)) (y := 1)) (.cons (qp (i : Int) 1) .nil)) f1 fun ac w β S => hf2.of (a.length - (i + 1)) _ _ (by omega) ⟨i + 1, (w1 (w1 j)), _, _, _, rfl, ?_, ?_, S.z⟩
  ·exact oz
  ·clear S; (rw [hr, hd_step (by omega)]; simp [he_Slot, w1, hdi, hdb, hdc, *])
 exact S.gf 13 .nil [I j] (retI k0_laws_heldSlotS)

theorem k0_laws_heldBoolS {p : Prop} (h : p := by clear S; (first | (rw [hr, hd_end (by omega)]; done) | (rw [hr, hd_step (by omega)]; simp [he_Bool, w1, hdi, hdb, hdc, *]; done) | (rw [hr, hd_step (by omega)]; simp_all [he_Bool, w1, hdi, hdb, hdc]; done))) : p := h
theorem c_laws_heldBoolS (w0 : World) (a : List Bool) (pa : LP Bool) (ha : RD w0 a pa) (k : Int) : Calls Tryz.prog 86 [slv a.length pa.1, I k].toArray w0 (fun e w' => e = .returned (I (hdl a k)) ∧ Chg NoB w0 w') := by
 refine Calls.run NoB Tryz.func86 ?_
 intro ac β S
 have hlea : a.length ≤ 4194304 := LRd.le ha
 refine S.go 12 .nil fun ac w β S => ?_
 refine lp (fun mm ac w => ∃ (i : Nat) (j : Int)  (u : _) (N : _) (β : _), mm = a.length - i ∧ (i ≤ a.length) ∧ (hdl a k = hdlc (a.drop i) j id) ∧ St Tryz.prog Tryz.f86.ntmps w0 NoB u N β ⟨[(0, .v (slv a.length pa.1)), (1, .v (I j)), (5, .v (I (i : Int)))], []⟩ ac w) _ ⟨0, k, _, _, _, rfl, o0, (by rfl), S.z⟩ ?_
 clear S
 rintro f1 mm hf2 ac w ⟨i, j, u, N, β, rfl, hi, hr, S⟩
 refine S.rs fun S => ?_
 refine S.gd 9 .nil (decide ((i : Int) < (a.length : Int))) (fun ac w β h3 g4 S => ?_) (fun ac w β h3 g4 S => ?_)
 ·refine S.gb 18 (.cons (qn (S.arg ha) i Tryz.underlying64) (.cons (qx (S.arg ha) 4 i) (.cons (Q_rem (x := j) (y := 3) (by decide)) .nil))) (!((el a i) == ((Int.tmod j 3) == 0))) (fun ac w β h5 S => ?_) (fun ac w β h5 S => ?_)
  ·have h6 := not_t h5
   have g7 : ¬ ((el a i) = ((Int.tmod j 3) == 0)) := ne_of_beq_false h6
   exact S.gf 7 .nil [I (-1)] (retI k0_laws_heldBoolS)
  have h8 := not_f h5
  have g9 : (el a i) = ((Int.tmod j 3) == 0) := eq_of_beq h8
  refine S.ge 15 (.cons (Q_addw (x := j) (y := 1)) (.cons (qp (i : Int) 1) .nil)) f1 fun ac w β S => hf2.of (a.length - (i + 1)) _ _ (by omega) ⟨i + 1, (w1 j), _, _, _, rfl, ?_, ?_, S.z⟩
  ·exact oz
  ·clear S; (rw [hr, hd_step (by omega)]; simp [he_Bool, w1, hdi, hdb, hdc, *])
 exact S.gf 13 .nil [I j] (retI k0_laws_heldBoolS)

theorem k0_laws_heldInsS {p : Prop} (h : p := by clear S; (first | (rw [hr, hd_end (by omega)]; done) | (rw [hr, hd_step (by omega)]; simp [he_Ins, w1, hdi, hdb, hdc, *]; done) | (rw [hr, hd_step (by omega)]; simp_all [he_Ins, w1, hdi, hdb, hdc]; done))) : p := h
theorem c_laws_heldInsS (w0 : World) (a : List TIns) (pa : LP TIns) (ha : RD w0 a pa) (k : Int) : Calls Tryz.prog 129 [slv a.length pa.1, I k].toArray w0 (fun e w' => e = .returned (I (hdl a k)) ∧ Chg NoB w0 w') := by
 refine Calls.run NoB Tryz.func129 ?_
 intro ac β S
 have hlea : a.length ≤ 4194304 := LRd.le ha
 refine S.go 12 .nil fun ac w β S => ?_
 refine lp (fun mm ac w => ∃ (i : Nat) (j : Int)  (u : _) (N : _) (β : _), mm = a.length - i ∧ (i ≤ a.length) ∧ (hdl a k = hdlc (a.drop i) j id) ∧ St Tryz.prog Tryz.f129.ntmps w0 NoB u N β ⟨[(0, .v (slv a.length pa.1)), (1, .v (I j)), (5, .v (I (i : Int)))], []⟩ ac w) _ ⟨0, k, _, _, _, rfl, o0, (by rfl), S.z⟩ ?_
 clear S
 rintro f1 mm hf2 ac w ⟨i, j, u, N, β, rfl, hi, hr, S⟩
 refine S.rs fun S => ?_
 refine S.gd 9 .nil (decide ((i : Int) < (a.length : Int))) (fun ac w β h3 g4 S => ?_) (fun ac w β h3 g4 S => ?_)
 ·refine S.gd 17 (.cons (qn (S.arg ha) i Tryz.underlying78) (.cons (qc (S.arg ha) 3 i 0 (I (el a i).opc)) .nil)) ((el a i).opc != j) (fun ac w β h5 g6 S => ?_) (fun ac w β h5 g6 S => ?_)
  ·exact S.gf 7 .nil [I (-1)] (retI k0_laws_heldInsS)
  refine S.gd 22 (.cons (Q_addw (x := j) (y := 1)) (.cons (qn (S.arg ha) i Tryz.underlying78) (.cons (qc (S.arg ha) 3 i 1 (I (el a i).x)) .nil))) ((el a i).x != (w1 j)) (fun ac w β h7 g8 S => ?_) (fun ac w β h7 g8 S => ?_)
  ·exact S.gf 7 .nil [I (-1)] (retI k0_laws_heldInsS)
  refine S.ge 15 (.cons (Q_addw (x := (w1 j)) (y := 1)) (.cons (qp (i : Int) 1) .nil)) f1 fun ac w β S => hf2.of (a.length - (i + 1)) _ _ (by omega) ⟨i + 1, (w1 (w1 j)), _, _, _, rfl, ?_, ?_, S.z⟩
  ·exact oz
  ·clear S; (rw [hr, hd_step (by omega)]; simp [he_Ins, w1, hdi, hdb, hdc, *])
 exact S.gf 13 .nil [I j] (retI k0_laws_heldInsS)

theorem k0_laws_heldGuestS {p : Prop} (h : p := by clear S; (first | (rw [hr, hd_end (by omega)]; done) | (rw [hr, hd_step (by omega)]; simp [he_Guest, w1, hdi, hdb, hdc, *]; done) | (rw [hr, hd_step (by omega)]; simp_all [he_Guest, w1, hdi, hdb, hdc]; done))) : p := h
theorem c_laws_heldGuestS (w0 : World) (a : List TGuest) (pa : LP TGuest) (ha : RD w0 a pa) (k : Int) : Calls Tryz.prog 87 [slv a.length pa.1, I k].toArray w0 (fun e w' => e = .returned (I (hdl a k)) ∧ Chg NoB w0 w') := by
 refine Calls.run NoB Tryz.func87 ?_
 intro ac β S
 have hlea : a.length ≤ 4194304 := LRd.le ha
 refine S.go 12 .nil fun ac w β S => ?_
 refine lp (fun mm ac w => ∃ (i : Nat) (j : Int)  (u : _) (N : _) (β : _), mm = a.length - i ∧ (i ≤ a.length) ∧ (hdl a k = hdlc (a.drop i) j id) ∧ St Tryz.prog Tryz.f87.ntmps w0 NoB u N β ⟨[(0, .v (slv a.length pa.1)), (1, .v (I j)), (5, .v (I (i : Int)))], []⟩ ac w) _ ⟨0, k, _, _, _, rfl, o0, (by rfl), S.z⟩ ?_
 clear S
 rintro f1 mm hf2 ac w ⟨i, j, u, N, β, rfl, hi, hr, S⟩
 refine S.rs fun S => ?_
 refine S.gd 9 .nil (decide ((i : Int) < (a.length : Int))) (fun ac w β h3 g4 S => ?_) (fun ac w β h3 g4 S => ?_)
 ·refine S.gd 24 (.cons (qn (S.arg ha) i Tryz.underlying70) (.cons (qc (S.arg ha) 78 i 0 (slv (el a i).prog.length (pa.2 i).prog.1)) (.cons (Q_call fun w hw => c_laws_heldInsS w (el a i).prog (pa.2 i).prog (rd_of (RGuest.prog (d := (el a i)) (LRd.el (S.arg ha) i (by omega))) hw) j) .nil))) (decide ((hdl (el a i).prog j) < 0)) (fun ac w β h5 g6 S => ?_) (fun ac w β h5 g6 S => ?_)
  ·exact S.gf 7 .nil [I (-1)] (retI k0_laws_heldGuestS)
  refine S.gd 15 (.cons (qn (S.arg ha) i Tryz.underlying70) (.cons (qc (S.arg ha) 3 i 1 (I (el a i).acc)) .nil)) ((el a i).acc != (hdl (el a i).prog j)) (fun ac w β h7 g8 S => ?_) (fun ac w β h7 g8 S => ?_)
  ·exact S.gf 7 .nil [I (-1)] (retI k0_laws_heldGuestS)
  refine S.gd 22 (.cons (Q_addw (x := (hdl (el a i).prog j)) (y := 1)) (.cons (qn (S.arg ha) i Tryz.underlying70) (.cons (qc (S.arg ha) 3 i 2 (I (el a i).pc)) .nil))) ((el a i).pc != (w1 (hdl (el a i).prog j))) (fun ac w β h9 g10 S => ?_) (fun ac w β h9 g10 S => ?_)
  ·exact S.gf 7 .nil [I (-1)] (retI k0_laws_heldGuestS)
  refine S.gd 29 (.cons (Q_addw (x := (w1 (hdl (el a i).prog j))) (y := 1)) (.cons (qn (S.arg ha) i Tryz.underlying70) (.cons (qc (S.arg ha) 69 i 3 (slv (el a i).written.length (pa.2 i).written.1)) (.cons (Q_call fun w hw => c_laws_heldSlotS w (el a i).written (pa.2 i).written (rd_of (RGuest.written (d := (el a i)) (LRd.el (S.arg ha) i (by omega))) hw) (w1 (w1 (hdl (el a i).prog j)))) .nil)))) (decide ((hdl (el a i).written (w1 (w1 (hdl (el a i).prog j)))) < 0)) (fun ac w β h11 g12 S => ?_) (fun ac w β h11 g12 S => ?_)
  ·exact S.gf 7 .nil [I (-1)] (retI k0_laws_heldGuestS)
  refine S.gd 22 (.cons (qn (S.arg ha) i Tryz.underlying70) (.cons (qc (S.arg ha) 69 i 4 (slv (el a i).live.length (pa.2 i).live.1)) (.cons (Q_call fun w hw => c_laws_heldSlotS w (el a i).live (pa.2 i).live (rd_of (RGuest.live (d := (el a i)) (LRd.el (S.arg ha) i (by omega))) hw) (hdl (el a i).written (w1 (w1 (hdl (el a i).prog j))))) .nil))) (decide ((hdl (el a i).live (hdl (el a i).written (w1 (w1 (hdl (el a i).prog j))))) < 0)) (fun ac w β h13 g14 S => ?_) (fun ac w β h13 g14 S => ?_)
  ·exact S.gf 7 .nil [I (-1)] (retI k0_laws_heldGuestS)
  refine S.gd 16 (.cons (qn (S.arg ha) i Tryz.underlying70) (.cons (qc (S.arg ha) 3 i 5 (I (el a i).ctl.traps)) .nil)) ((el a i).ctl.traps != (hdl (el a i).live (hdl (el a i).written (w1 (w1 (hdl (el a i).prog j)))))) (fun ac w β h15 g16 S => ?_) (fun ac w β h15 g16 S => ?_)
  ·exact S.gf 7 .nil [I (-1)] (retI k0_laws_heldGuestS)
  refine S.gd 23 (.cons (Q_addw (x := (hdl (el a i).live (hdl (el a i).written (w1 (w1 (hdl (el a i).prog j)))))) (y := 1)) (.cons (qn (S.arg ha) i Tryz.underlying70) (.cons (qc (S.arg ha) 3 i 6 (I (el a i).ctl.post)) .nil))) ((el a i).ctl.post != (w1 (hdl (el a i).live (hdl (el a i).written (w1 (w1 (hdl (el a i).prog j))))))) (fun ac w β h17 g18 S => ?_) (fun ac w β h17 g18 S => ?_)
  ·exact S.gf 7 .nil [I (-1)] (retI k0_laws_heldGuestS)
  refine S.gb 25 (.cons (Q_addw (x := (w1 (hdl (el a i).live (hdl (el a i).written (w1 (w1 (hdl (el a i).prog j))))))) (y := 1)) (.cons (qn (S.arg ha) i Tryz.underlying70) (.cons (qc (S.arg ha) 4 i 7 (B (el a i).ctl.opn)) (.cons (Q_rem (x := (w1 (w1 (hdl (el a i).live (hdl (el a i).written (w1 (w1 (hdl (el a i).prog j)))))))) (y := 3) (by decide)) .nil)))) (!((el a i).ctl.opn == ((Int.tmod (w1 (w1 (hdl (el a i).live (hdl (el a i).written (w1 (w1 (hdl (el a i).prog j))))))) 3) == 0))) (fun ac w β h19 S => ?_) (fun ac w β h19 S => ?_)
  ·have h20 := not_t h19
   have g21 : ¬ ((el a i).ctl.opn = ((Int.tmod (w1 (w1 (hdl (el a i).live (hdl (el a i).written (w1 (w1 (hdl (el a i).prog j))))))) 3) == 0)) := ne_of_beq_false h20
   exact S.gf 7 .nil [I (-1)] (retI k0_laws_heldGuestS)
  have h22 := not_f h19
  have g23 : (el a i).ctl.opn = ((Int.tmod (w1 (w1 (hdl (el a i).live (hdl (el a i).written (w1 (w1 (hdl (el a i).prog j))))))) 3) == 0) := eq_of_beq h22
  refine S.gd 22 (.cons (Q_addw (x := (w1 (w1 (hdl (el a i).live (hdl (el a i).written (w1 (w1 (hdl (el a i).prog j)))))))) (y := 1)) (.cons (qn (S.arg ha) i Tryz.underlying70) (.cons (qc (S.arg ha) 3 i 8 (I (el a i).pend)) .nil))) ((el a i).pend != (w1 (w1 (w1 (hdl (el a i).live (hdl (el a i).written (w1 (w1 (hdl (el a i).prog j))))))))) (fun ac w β h24 g25 S => ?_) (fun ac w β h24 g25 S => ?_)
  ·exact S.gf 7 .nil [I (-1)] (retI k0_laws_heldGuestS)
  refine S.gd 23 (.cons (Q_addw (x := (w1 (w1 (w1 (hdl (el a i).live (hdl (el a i).written (w1 (w1 (hdl (el a i).prog j))))))))) (y := 1)) (.cons (qn (S.arg ha) i Tryz.underlying70) (.cons (qc (S.arg ha) 3 i 9 (I (el a i).exit.kind)) .nil))) ((el a i).exit.kind != (w1 (w1 (w1 (w1 (hdl (el a i).live (hdl (el a i).written (w1 (w1 (hdl (el a i).prog j)))))))))) (fun ac w β h26 g27 S => ?_) (fun ac w β h26 g27 S => ?_)
  ·exact S.gf 7 .nil [I (-1)] (retI k0_laws_heldGuestS)
  refine S.gd 23 (.cons (Q_addw (x := (w1 (w1 (w1 (w1 (hdl (el a i).live (hdl (el a i).written (w1 (w1 (hdl (el a i).prog j)))))))))) (y := 1)) (.cons (qn (S.arg ha) i Tryz.underlying70) (.cons (qc (S.arg ha) 3 i 10 (I (el a i).exit.page)) .nil))) ((el a i).exit.page != (w1 (w1 (w1 (w1 (w1 (hdl (el a i).live (hdl (el a i).written (w1 (w1 (hdl (el a i).prog j))))))))))) (fun ac w β h28 g29 S => ?_) (fun ac w β h28 g29 S => ?_)
  ·exact S.gf 7 .nil [I (-1)] (retI k0_laws_heldGuestS)
  refine S.gb 25 (.cons (Q_addw (x := (w1 (w1 (w1 (w1 (w1 (hdl (el a i).live (hdl (el a i).written (w1 (w1 (hdl (el a i).prog j))))))))))) (y := 1)) (.cons (qn (S.arg ha) i Tryz.underlying70) (.cons (qc (S.arg ha) 4 i 11 (B (el a i).exit.wr)) (.cons (Q_rem (x := (w1 (w1 (w1 (w1 (w1 (w1 (hdl (el a i).live (hdl (el a i).written (w1 (w1 (hdl (el a i).prog j)))))))))))) (y := 3) (by decide)) .nil)))) (!((el a i).exit.wr == ((Int.tmod (w1 (w1 (w1 (w1 (w1 (w1 (hdl (el a i).live (hdl (el a i).written (w1 (w1 (hdl (el a i).prog j))))))))))) 3) == 0))) (fun ac w β h30 S => ?_) (fun ac w β h30 S => ?_)
  ·have h31 := not_t h30
   have g32 : ¬ ((el a i).exit.wr = ((Int.tmod (w1 (w1 (w1 (w1 (w1 (w1 (hdl (el a i).live (hdl (el a i).written (w1 (w1 (hdl (el a i).prog j))))))))))) 3) == 0)) := ne_of_beq_false h31
   exact S.gf 7 .nil [I (-1)] (retI k0_laws_heldGuestS)
  have h33 := not_f h30
  have g34 : (el a i).exit.wr = ((Int.tmod (w1 (w1 (w1 (w1 (w1 (w1 (hdl (el a i).live (hdl (el a i).written (w1 (w1 (hdl (el a i).prog j))))))))))) 3) == 0) := eq_of_beq h33
  refine S.gd 23 (.cons (Q_addw (x := (w1 (w1 (w1 (w1 (w1 (w1 (hdl (el a i).live (hdl (el a i).written (w1 (w1 (hdl (el a i).prog j)))))))))))) (y := 1)) (.cons (qn (S.arg ha) i Tryz.underlying70) (.cons (qc (S.arg ha) 3 i 12 (I (el a i).exit.n)) .nil))) ((el a i).exit.n != (w1 (w1 (w1 (w1 (w1 (w1 (w1 (hdl (el a i).live (hdl (el a i).written (w1 (w1 (hdl (el a i).prog j))))))))))))) (fun ac w β h35 g36 S => ?_) (fun ac w β h35 g36 S => ?_)
  ·exact S.gf 7 .nil [I (-1)] (retI k0_laws_heldGuestS)
  refine S.gb 24 (.cons (Q_addw (x := (w1 (w1 (w1 (w1 (w1 (w1 (w1 (hdl (el a i).live (hdl (el a i).written (w1 (w1 (hdl (el a i).prog j))))))))))))) (y := 1)) (.cons (qn (S.arg ha) i Tryz.underlying70) (.cons (qc (S.arg ha) 4 i 13 (B (el a i).halted)) (.cons (Q_rem (x := (w1 (w1 (w1 (w1 (w1 (w1 (w1 (w1 (hdl (el a i).live (hdl (el a i).written (w1 (w1 (hdl (el a i).prog j)))))))))))))) (y := 3) (by decide)) .nil)))) (!((el a i).halted == ((Int.tmod (w1 (w1 (w1 (w1 (w1 (w1 (w1 (w1 (hdl (el a i).live (hdl (el a i).written (w1 (w1 (hdl (el a i).prog j))))))))))))) 3) == 0))) (fun ac w β h37 S => ?_) (fun ac w β h37 S => ?_)
  ·have h38 := not_t h37
   have g39 : ¬ ((el a i).halted = ((Int.tmod (w1 (w1 (w1 (w1 (w1 (w1 (w1 (w1 (hdl (el a i).live (hdl (el a i).written (w1 (w1 (hdl (el a i).prog j))))))))))))) 3) == 0)) := ne_of_beq_false h38
   exact S.gf 7 .nil [I (-1)] (retI k0_laws_heldGuestS)
  have h40 := not_f h37
  have g41 : (el a i).halted = ((Int.tmod (w1 (w1 (w1 (w1 (w1 (w1 (w1 (w1 (hdl (el a i).live (hdl (el a i).written (w1 (w1 (hdl (el a i).prog j))))))))))))) 3) == 0) := eq_of_beq h40
  refine S.gd 28 (.cons (Q_addw (x := (w1 (w1 (w1 (w1 (w1 (w1 (w1 (w1 (hdl (el a i).live (hdl (el a i).written (w1 (w1 (hdl (el a i).prog j)))))))))))))) (y := 1)) (.cons (qn (S.arg ha) i Tryz.underlying70) (.cons (qc (S.arg ha) 61 i 14 (slv (el a i).seen.length (pa.2 i).seen.1)) (.cons (Q_call fun w hw => c_laws_heldIntS w (el a i).seen (pa.2 i).seen (rd_of (RGuest.seen (d := (el a i)) (LRd.el (S.arg ha) i (by omega))) hw) (w1 (w1 (w1 (w1 (w1 (w1 (w1 (w1 (w1 (hdl (el a i).live (hdl (el a i).written (w1 (w1 (hdl (el a i).prog j))))))))))))))) .nil)))) (decide ((hdl (el a i).seen (w1 (w1 (w1 (w1 (w1 (w1 (w1 (w1 (w1 (hdl (el a i).live (hdl (el a i).written (w1 (w1 (hdl (el a i).prog j))))))))))))))) < 0)) (fun ac w β h42 g43 S => ?_) (fun ac w β h42 g43 S => ?_)
  ·exact S.gf 7 .nil [I (-1)] (retI k0_laws_heldGuestS)
  refine S.ge 9 (.cons (qp (i : Int) 1) .nil) f1 fun ac w β S => hf2.of (a.length - (i + 1)) _ _ (by omega) ⟨i + 1, (hdl (el a i).seen (w1 (w1 (w1 (w1 (w1 (w1 (w1 (w1 (w1 (hdl (el a i).live (hdl (el a i).written (w1 (w1 (hdl (el a i).prog j))))))))))))))), _, _, _, rfl, ?_, ?_, S.z⟩
  ·exact oz
  ·clear S; (rw [hr, hd_step (by omega)]; simp [he_Guest, w1, hdi, hdb, hdc, *])
 exact S.gf 13 .nil [I j] (retI k0_laws_heldGuestS)

theorem k0_laws_heldKeptS {p : Prop} (h : p := by clear S; (first | (rw [hr, hd_end (by omega)]; done) | (rw [hr, hd_step (by omega)]; simp [he_Kept, w1, hdi, hdb, hdc, *]; done) | (rw [hr, hd_step (by omega)]; simp_all [he_Kept, w1, hdi, hdb, hdc]; done))) : p := h
theorem c_laws_heldKeptS (w0 : World) (a : List TKept) (pa : LP TKept) (ha : RD w0 a pa) (k : Int) : Calls Tryz.prog 88 [slv a.length pa.1, I k].toArray w0 (fun e w' => e = .returned (I (hdl a k)) ∧ Chg NoB w0 w') := by
 refine Calls.run NoB Tryz.func88 ?_
 intro ac β S
 have hlea : a.length ≤ 4194304 := LRd.le ha
 refine S.go 12 .nil fun ac w β S => ?_
 refine lp (fun mm ac w => ∃ (i : Nat) (j : Int)  (u : _) (N : _) (β : _), mm = a.length - i ∧ (i ≤ a.length) ∧ (hdl a k = hdlc (a.drop i) j id) ∧ St Tryz.prog Tryz.f88.ntmps w0 NoB u N β ⟨[(0, .v (slv a.length pa.1)), (1, .v (I j)), (5, .v (I (i : Int)))], []⟩ ac w) _ ⟨0, k, _, _, _, rfl, o0, (by rfl), S.z⟩ ?_
 clear S
 rintro f1 mm hf2 ac w ⟨i, j, u, N, β, rfl, hi, hr, S⟩
 refine S.rs fun S => ?_
 refine S.gd 9 .nil (decide ((i : Int) < (a.length : Int))) (fun ac w β h3 g4 S => ?_) (fun ac w β h3 g4 S => ?_)
 ·refine S.gd 24 (.cons (qn (S.arg ha) i Tryz.underlying71) (.cons (qc (S.arg ha) 64 i 0 (slv (el a i).known.length (pa.2 i).known.1)) (.cons (Q_call fun w hw => c_laws_heldBoolS w (el a i).known (pa.2 i).known (rd_of (RKept.known (d := (el a i)) (LRd.el (S.arg ha) i (by omega))) hw) j) .nil))) (decide ((hdl (el a i).known j) < 0)) (fun ac w β h5 g6 S => ?_) (fun ac w β h5 g6 S => ?_)
  ·exact S.gf 7 .nil [I (-1)] (retI k0_laws_heldKeptS)
  refine S.gd 21 (.cons (qn (S.arg ha) i Tryz.underlying71) (.cons (qc (S.arg ha) 69 i 1 (slv (el a i).slots.length (pa.2 i).slots.1)) (.cons (Q_call fun w hw => c_laws_heldSlotS w (el a i).slots (pa.2 i).slots (rd_of (RKept.slots (d := (el a i)) (LRd.el (S.arg ha) i (by omega))) hw) (hdl (el a i).known j)) .nil))) (decide ((hdl (el a i).slots (hdl (el a i).known j)) < 0)) (fun ac w β h7 g8 S => ?_) (fun ac w β h7 g8 S => ?_)
  ·exact S.gf 7 .nil [I (-1)] (retI k0_laws_heldKeptS)
  refine S.ge 9 (.cons (qp (i : Int) 1) .nil) f1 fun ac w β S => hf2.of (a.length - (i + 1)) _ _ (by omega) ⟨i + 1, (hdl (el a i).slots (hdl (el a i).known j)), _, _, _, rfl, ?_, ?_, S.z⟩
  ·exact oz
  ·clear S; (rw [hr, hd_step (by omega)]; simp [he_Kept, w1, hdi, hdb, hdc, *])
 exact S.gf 13 .nil [I j] (retI k0_laws_heldKeptS)

theorem k0_laws_heldMonS {p : Prop} (h : p := by clear S; (first | (rw [hr, hd_end (by omega)]; done) | (rw [hr, hd_step (by omega)]; simp [he_Mon, w1, hdi, hdb, hdc, *]; done) | (rw [hr, hd_step (by omega)]; simp_all [he_Mon, w1, hdi, hdb, hdc]; done))) : p := h
theorem c_laws_heldMonS (w0 : World) (a : List TMon) (pa : LP TMon) (ha : RD w0 a pa) (k : Int) : Calls Tryz.prog 36 [slv a.length pa.1, I k].toArray w0 (fun e w' => e = .returned (I (hdl a k)) ∧ Chg NoB w0 w') := by
 refine Calls.run NoB Tryz.func36 ?_
 intro ac β S
 have hlea : a.length ≤ 4194304 := LRd.le ha
 refine S.go 12 .nil fun ac w β S => ?_
 refine lp (fun mm ac w => ∃ (i : Nat) (j : Int)  (u : _) (N : _) (β : _), mm = a.length - i ∧ (i ≤ a.length) ∧ (hdl a k = hdlc (a.drop i) j id) ∧ St Tryz.prog Tryz.f36.ntmps w0 NoB u N β ⟨[(0, .v (slv a.length pa.1)), (1, .v (I j)), (5, .v (I (i : Int)))], []⟩ ac w) _ ⟨0, k, _, _, _, rfl, o0, (by rfl), S.z⟩ ?_
 clear S
 rintro f1 mm hf2 ac w ⟨i, j, u, N, β, rfl, hi, hr, S⟩
 refine S.rs fun S => ?_
 refine S.gd 9 .nil (decide ((i : Int) < (a.length : Int))) (fun ac w β h3 g4 S => ?_) (fun ac w β h3 g4 S => ?_)
 ·refine S.gd 24 (.cons (qn (S.arg ha) i Tryz.underlying28) (.cons (qc (S.arg ha) 69 i 0 (slv (el a i).outer.length (pa.2 i).outer.1)) (.cons (Q_call fun w hw => c_laws_heldSlotS w (el a i).outer (pa.2 i).outer (rd_of (RMon.outer (d := (el a i)) (LRd.el (S.arg ha) i (by omega))) hw) j) .nil))) (decide ((hdl (el a i).outer j) < 0)) (fun ac w β h5 g6 S => ?_) (fun ac w β h5 g6 S => ?_)
  ·exact S.gf 7 .nil [I (-1)] (retI k0_laws_heldMonS)
  refine S.gd 22 (.cons (qn (S.arg ha) i Tryz.underlying28) (.cons (qc (S.arg ha) 22 i 1 (slv (el a i).out.length (pa.2 i).out.1)) (.cons (Q_call fun w hw => c_laws_heldIntSS w (el a i).out (pa.2 i).out (rd_of (RMon.out (d := (el a i)) (LRd.el (S.arg ha) i (by omega))) hw) (hdl (el a i).outer j)) .nil))) (decide ((hdl (el a i).out (hdl (el a i).outer j)) < 0)) (fun ac w β h7 g8 S => ?_) (fun ac w β h7 g8 S => ?_)
  ·exact S.gf 7 .nil [I (-1)] (retI k0_laws_heldMonS)
  refine S.gd 22 (.cons (qn (S.arg ha) i Tryz.underlying28) (.cons (qc (S.arg ha) 64 i 2 (slv (el a i).dirty.length (pa.2 i).dirty.1)) (.cons (Q_call fun w hw => c_laws_heldBoolS w (el a i).dirty (pa.2 i).dirty (rd_of (RMon.dirty (d := (el a i)) (LRd.el (S.arg ha) i (by omega))) hw) (hdl (el a i).out (hdl (el a i).outer j))) .nil))) (decide ((hdl (el a i).dirty (hdl (el a i).out (hdl (el a i).outer j))) < 0)) (fun ac w β h9 g10 S => ?_) (fun ac w β h9 g10 S => ?_)
  ·exact S.gf 7 .nil [I (-1)] (retI k0_laws_heldMonS)
  refine S.gd 22 (.cons (qn (S.arg ha) i Tryz.underlying28) (.cons (qc (S.arg ha) 70 i 3 (slv (el a i).guests.length (pa.2 i).guests.1)) (.cons (Q_call fun w hw => c_laws_heldGuestS w (el a i).guests (pa.2 i).guests (rd_of (RMon.guests (d := (el a i)) (LRd.el (S.arg ha) i (by omega))) hw) (hdl (el a i).dirty (hdl (el a i).out (hdl (el a i).outer j)))) .nil))) (decide ((hdl (el a i).guests (hdl (el a i).dirty (hdl (el a i).out (hdl (el a i).outer j)))) < 0)) (fun ac w β h11 g12 S => ?_) (fun ac w β h11 g12 S => ?_)
  ·exact S.gf 7 .nil [I (-1)] (retI k0_laws_heldMonS)
  refine S.gd 22 (.cons (qn (S.arg ha) i Tryz.underlying28) (.cons (qc (S.arg ha) 61 i 4 (slv (el a i).outs.length (pa.2 i).outs.1)) (.cons (Q_call fun w hw => c_laws_heldIntS w (el a i).outs (pa.2 i).outs (rd_of (RMon.outs (d := (el a i)) (LRd.el (S.arg ha) i (by omega))) hw) (hdl (el a i).guests (hdl (el a i).dirty (hdl (el a i).out (hdl (el a i).outer j))))) .nil))) (decide ((hdl (el a i).outs (hdl (el a i).guests (hdl (el a i).dirty (hdl (el a i).out (hdl (el a i).outer j))))) < 0)) (fun ac w β h13 g14 S => ?_) (fun ac w β h13 g14 S => ?_)
  ·exact S.gf 7 .nil [I (-1)] (retI k0_laws_heldMonS)
  refine S.gd 15 (.cons (qn (S.arg ha) i Tryz.underlying28) (.cons (qc (S.arg ha) 3 i 5 (I (el a i).pend)) .nil)) ((el a i).pend != (hdl (el a i).outs (hdl (el a i).guests (hdl (el a i).dirty (hdl (el a i).out (hdl (el a i).outer j)))))) (fun ac w β h15 g16 S => ?_) (fun ac w β h15 g16 S => ?_)
  ·exact S.gf 7 .nil [I (-1)] (retI k0_laws_heldMonS)
  refine S.gd 22 (.cons (Q_addw (x := (hdl (el a i).outs (hdl (el a i).guests (hdl (el a i).dirty (hdl (el a i).out (hdl (el a i).outer j)))))) (y := 1)) (.cons (qn (S.arg ha) i Tryz.underlying28) (.cons (qc (S.arg ha) 3 i 6 (I (el a i).traps)) .nil))) ((el a i).traps != (w1 (hdl (el a i).outs (hdl (el a i).guests (hdl (el a i).dirty (hdl (el a i).out (hdl (el a i).outer j))))))) (fun ac w β h17 g18 S => ?_) (fun ac w β h17 g18 S => ?_)
  ·exact S.gf 7 .nil [I (-1)] (retI k0_laws_heldMonS)
  refine S.gd 29 (.cons (Q_addw (x := (w1 (hdl (el a i).outs (hdl (el a i).guests (hdl (el a i).dirty (hdl (el a i).out (hdl (el a i).outer j))))))) (y := 1)) (.cons (qn (S.arg ha) i Tryz.underlying28) (.cons (qc (S.arg ha) 71 i 7 (slv (el a i).tables.length (pa.2 i).tables.1)) (.cons (Q_call fun w hw => c_laws_heldKeptS w (el a i).tables (pa.2 i).tables (rd_of (RMon.tables (d := (el a i)) (LRd.el (S.arg ha) i (by omega))) hw) (w1 (w1 (hdl (el a i).outs (hdl (el a i).guests (hdl (el a i).dirty (hdl (el a i).out (hdl (el a i).outer j)))))))) .nil)))) (decide ((hdl (el a i).tables (w1 (w1 (hdl (el a i).outs (hdl (el a i).guests (hdl (el a i).dirty (hdl (el a i).out (hdl (el a i).outer j)))))))) < 0)) (fun ac w β h19 g20 S => ?_) (fun ac w β h19 g20 S => ?_)
  ·exact S.gf 7 .nil [I (-1)] (retI k0_laws_heldMonS)
  refine S.gd 15 (.cons (qn (S.arg ha) i Tryz.underlying28) (.cons (qc (S.arg ha) 3 i 8 (I (el a i).owned)) .nil)) ((el a i).owned != (hdl (el a i).tables (w1 (w1 (hdl (el a i).outs (hdl (el a i).guests (hdl (el a i).dirty (hdl (el a i).out (hdl (el a i).outer j))))))))) (fun ac w β h21 g22 S => ?_) (fun ac w β h21 g22 S => ?_)
  ·exact S.gf 7 .nil [I (-1)] (retI k0_laws_heldMonS)
  refine S.ge 15 (.cons (Q_addw (x := (hdl (el a i).tables (w1 (w1 (hdl (el a i).outs (hdl (el a i).guests (hdl (el a i).dirty (hdl (el a i).out (hdl (el a i).outer j))))))))) (y := 1)) (.cons (qp (i : Int) 1) .nil)) f1 fun ac w β S => hf2.of (a.length - (i + 1)) _ _ (by omega) ⟨i + 1, (w1 (hdl (el a i).tables (w1 (w1 (hdl (el a i).outs (hdl (el a i).guests (hdl (el a i).dirty (hdl (el a i).out (hdl (el a i).outer j))))))))), _, _, _, rfl, ?_, ?_, S.z⟩
  ·exact oz
  ·clear S; (rw [hr, hd_step (by omega)]; simp [he_Mon, w1, hdi, hdb, hdc, *])
 exact S.gf 13 .nil [I j] (retI k0_laws_heldMonS)

theorem k0_laws_heldEntryS {p : Prop} (h : p := by clear S; (first | (rw [hr, hd_end (by omega)]; done) | (rw [hr, hd_step (by omega)]; simp [he_Entry, w1, hdi, hdb, hdc, *]; done) | (rw [hr, hd_step (by omega)]; simp_all [he_Entry, w1, hdi, hdb, hdc]; done))) : p := h
theorem c_laws_heldEntryS (w0 : World) (a : List TEntry) (pa : LP TEntry) (ha : RD w0 a pa) (k : Int) : Calls Tryz.prog 37 [slv a.length pa.1, I k].toArray w0 (fun e w' => e = .returned (I (hdl a k)) ∧ Chg NoB w0 w') := by
 refine Calls.run NoB Tryz.func37 ?_
 intro ac β S
 have hlea : a.length ≤ 4194304 := LRd.le ha
 refine S.go 12 .nil fun ac w β S => ?_
 refine lp (fun mm ac w => ∃ (i : Nat) (j : Int)  (u : _) (N : _) (β : _), mm = a.length - i ∧ (i ≤ a.length) ∧ (hdl a k = hdlc (a.drop i) j id) ∧ St Tryz.prog Tryz.f37.ntmps w0 NoB u N β ⟨[(0, .v (slv a.length pa.1)), (1, .v (I j)), (5, .v (I (i : Int)))], []⟩ ac w) _ ⟨0, k, _, _, _, rfl, o0, (by rfl), S.z⟩ ?_
 clear S
 rintro f1 mm hf2 ac w ⟨i, j, u, N, β, rfl, hi, hr, S⟩
 refine S.rs fun S => ?_
 refine S.gd 9 .nil (decide ((i : Int) < (a.length : Int))) (fun ac w β h3 g4 S => ?_) (fun ac w β h3 g4 S => ?_)
 ·refine S.gd 17 (.cons (qn (S.arg ha) i Tryz.underlying29) (.cons (qc (S.arg ha) 3 i 0 (I (el a i).tag)) .nil)) ((el a i).tag != j) (fun ac w β h5 g6 S => ?_) (fun ac w β h5 g6 S => ?_)
  ·exact S.gf 7 .nil [I (-1)] (retI k0_laws_heldEntryS)
  refine S.gd 22 (.cons (Q_addw (x := j) (y := 1)) (.cons (qn (S.arg ha) i Tryz.underlying29) (.cons (qc (S.arg ha) 3 i 1 (I (el a i).page)) .nil))) ((el a i).page != (w1 j)) (fun ac w β h7 g8 S => ?_) (fun ac w β h7 g8 S => ?_)
  ·exact S.gf 7 .nil [I (-1)] (retI k0_laws_heldEntryS)
  refine S.gd 22 (.cons (Q_addw (x := (w1 j)) (y := 1)) (.cons (qn (S.arg ha) i Tryz.underlying29) (.cons (qc (S.arg ha) 3 i 2 (I (el a i).host)) .nil))) ((el a i).host != (w1 (w1 j))) (fun ac w β h9 g10 S => ?_) (fun ac w β h9 g10 S => ?_)
  ·exact S.gf 7 .nil [I (-1)] (retI k0_laws_heldEntryS)
  refine S.gd 22 (.cons (Q_addw (x := (w1 (w1 j))) (y := 1)) (.cons (qn (S.arg ha) i Tryz.underlying29) (.cons (qc (S.arg ha) 3 i 3 (I (el a i).rights)) .nil))) ((el a i).rights != (w1 (w1 (w1 j)))) (fun ac w β h11 g12 S => ?_) (fun ac w β h11 g12 S => ?_)
  ·exact S.gf 7 .nil [I (-1)] (retI k0_laws_heldEntryS)
  refine S.ge 15 (.cons (Q_addw (x := (w1 (w1 (w1 j)))) (y := 1)) (.cons (qp (i : Int) 1) .nil)) f1 fun ac w β S => hf2.of (a.length - (i + 1)) _ _ (by omega) ⟨i + 1, (w1 (w1 (w1 (w1 j)))), _, _, _, rfl, ?_, ?_, S.z⟩
  ·exact oz
  ·clear S; (rw [hr, hd_step (by omega)]; simp [he_Entry, w1, hdi, hdb, hdc, *])
 exact S.gf 13 .nil [I j] (retI k0_laws_heldEntryS)

theorem c_laws_heldHost (w0 : World) (a : THost) (pa : PHost) (ha : RD w0 a pa) (k : Int) : Calls Tryz.prog 13 [GT.val a pa, I k].toArray w0 (fun e w' => e = .returned (I (hdT_Host a k)) ∧ Chg NoB w0 w') := by
 refine Calls.run NoB Tryz.func13 ?_
 intro ac β S
 have hlea_mem : a.mem.length ≤ 4194304 := LRd.le (RHost.mem (d := a) ha)
 have hlea_mons : a.mons.length ≤ 4194304 := LRd.le (RHost.mons (d := a) ha)
 have hlea_buf : a.buf.length ≤ 4194304 := LRd.le (RHost.buf (d := a) ha)
 have hlea_iobuf : a.iobuf.length ≤ 4194304 := LRd.le (RHost.iobuf (d := a) ha)
 refine S.gd 22 (.cons (Q_call fun w hw => c_laws_heldIntSS w a.mem pa.mem (rd_of (RHost.mem (d := a) (S.arg ha)) hw) k) .nil) (decide ((hdl a.mem k) < 0)) (fun ac w β h1 g2 S => ?_) (fun ac w β h1 g2 S => ?_)
 ·exact S.gf 7 .nil [I (-1)] (retI (by clear S; (simp [hdT_Host, hdc, *])))
 refine S.gd 19 (.cons (Q_call fun w hw => c_laws_heldMonS w a.mons pa.mons (rd_of (RHost.mons (d := a) (S.arg ha)) hw) (hdl a.mem k)) .nil) (decide ((hdl a.mons (hdl a.mem k)) < 0)) (fun ac w β h3 g4 S => ?_) (fun ac w β h3 g4 S => ?_)
 ·exact S.gf 7 .nil [I (-1)] (retI (by clear S; (simp [hdT_Host, hdc, *])))
 refine S.gd 19 (.cons (Q_call fun w hw => c_laws_heldEntryS w a.buf pa.buf (rd_of (RHost.buf (d := a) (S.arg ha)) hw) (hdl a.mons (hdl a.mem k))) .nil) (decide ((hdl a.buf (hdl a.mons (hdl a.mem k))) < 0)) (fun ac w β h5 g6 S => ?_) (fun ac w β h5 g6 S => ?_)
 ·exact S.gf 7 .nil [I (-1)] (retI (by clear S; (simp [hdT_Host, hdc, *])))
 refine S.gd 19 (.cons (Q_call fun w hw => c_laws_heldEntryS w a.iobuf pa.iobuf (rd_of (RHost.iobuf (d := a) (S.arg ha)) hw) (hdl a.buf (hdl a.mons (hdl a.mem k)))) .nil) (decide ((hdl a.iobuf (hdl a.buf (hdl a.mons (hdl a.mem k)))) < 0)) (fun ac w β h7 g8 S => ?_) (fun ac w β h7 g8 S => ?_)
 ·exact S.gf 7 .nil [I (-1)] (retI (by clear S; (simp [hdT_Host, hdc, *])))
 exact S.gf 10 .nil [I (hdl a.iobuf (hdl a.buf (hdl a.mons (hdl a.mem k))))] (retI (by clear S; (simp [hdT_Host, hdc, *])))

theorem k0_laws_FnExactHostDma {p : Prop} (h : p := by clear S; first | rfl | (exfalso; omega) | (exfalso; simp_all; done) | (exfalso; simp_all; omega)) : p := h
theorem c_laws_FnExactHostDma (w0 : World) (aH : THost) (paH : PHost) (haH : GT.rd KR (Lt w0.heap.size) w0 aH paH) (aM : Int) (aG : Int) (aAddr : Int) (haAddr : In64 aAddr) (aV : Int) (haV : In64 aV) : Calls Tryz.prog 6 [GT.val aH paH, I aM, I aG, I aAddr, I aV].toArray w0 (fun e w' => e = .returned (B true) ∧ Chg NoB w0 w') := by
 refine Calls.run NoB Tryz.func6 ?_
 intro ac β S
 have hloaAddr := haAddr.lo; have hhiaAddr := haAddr.hi
 have hloaV := haV.lo; have hhiaV := haV.hi
 have b1 := f_sz_cs (SZ.sz aH) 1048576
 refine S.gd 26 (.cons (Q_call fun w hw => c_laws_szHost w aH paH (rd_of (S.arg haH) hw) 1048576 (by omega) (by omega)) .nil) (decide ((f_sz (SZ.sz aH) 1048576) < 0)) (fun ac w β h2 g3 S => ?_) (fun ac w β h2 g3 S => ?_)
 ·exact S.gf 7 .nil [B true] (retB k0_laws_FnExactHostDma)
 have hkaH : RD w0 aH paH := SZ.cut haH (show SZ.sz aH ≤ 4194304 by omega)
 have hcaH : SZ.sz aH ≤ 1048576 := by omega
 refine S.go 6 .nil fun ac w β S => S.K1 (r := aH) (d := 29) (c_laws_toHost w aH paH (S.rd (S.arg hkaH))) fun ac w N q4 F5 S up o6 d7 => ?_
 clear up d7
 refine S.go 4 .nil fun ac w β S => S.K2 (r := (f_hostDma aH aM aG aAddr aV).1) (r' := (f_hostDma aH aM aG aAddr aV).2) (d := 34) (c_spec_HostDma w aH q4 (S.rd o6.rn) aM aG aAddr haAddr aV haV) fun ac w N q8 q9 F10 F11 S up o12 o13 d14 d15 d16 => ?_
 have d17 := Disj.w d15 o6.sub
 have d18 := Disj.w d14 o6.sub
 replace o6 := o6.up up
 clear up d14
 clear d15
 refine S.go 11 .nil fun ac w β S => S.K1 (r := aH) (d := 38) (c_laws_toHost w aH paH (S.rd (S.arg hkaH))) fun ac w N q19 F20 S up o21 d22 => ?_
 have d23 := Disj.w d22 o12.sub
 replace o12 := o12.up up
 clear up d22
 refine S.go 11 .nil fun ac w β S => S.K2 (r := (f_hostDma aH aM aG aAddr aV).1) (r' := (f_hostDma aH aM aG aAddr aV).2) (d := 45) (c_impl_HostDma w aH q19 (S.rd o21.rn) aM aG aAddr haAddr aV haV) fun ac w N q24 q25 F26 F27 S up o28 o29 d30 d31 d32 => ?_
 have d33 := Disj.w d31 o12.sub
 have d34 := Disj.w d31 o21.sub
 have d35 := Disj.w d30 o12.sub
 have d36 := Disj.w d30 o21.sub
 replace o12 := o12.up up
 replace o21 := o21.up up
 clear up d30
 clear d31
 refine S.gb 16 (.cons (Q_call fun w hw => c_laws_eqHost w (f_hostDma aH aM aG aAddr aV).1 q24 (rd_of o28.rn hw) (f_hostDma aH aM aG aAddr aV).1 q8 (rd_of o12.rn hw)) .nil) (!(decide ((f_hostDma aH aM aG aAddr aV).1 = (f_hostDma aH aM aG aAddr aV).1))) (fun ac w β h37 S => ?_) (fun ac w β h37 S => ?_)
 ·have h38 := not_t h37
  have g39 := of_decide_eq_false h38
  exact S.gf 13 .nil [B false] (retB k0_laws_FnExactHostDma)
 have h40 := not_f h37
 have g41 := of_decide_eq_true h40
 refine S.gb 6 .nil (!((f_hostDma aH aM aG aAddr aV).2 == (f_hostDma aH aM aG aAddr aV).2)) (fun ac w β h42 S => ?_) (fun ac w β h42 S => ?_)
 ·have h43 := not_t h42
  have g44 : ¬ ((f_hostDma aH aM aG aAddr aV).2 = (f_hostDma aH aM aG aAddr aV).2) := ne_of_beq_false h43
  exact S.gf 7 .nil [B false] (retB k0_laws_FnExactHostDma)
 have h45 := not_f h42
 have g46 : (f_hostDma aH aM aG aAddr aV).2 = (f_hostDma aH aM aG aAddr aV).2 := eq_of_beq h45
 refine S.go 5 .nil fun ac w β S => ?_
 refine drw ?_
 refine S.draw0 (f := 5) 5 (by kernel_rfl) (by kernel_rfl) fun w S => ?_
 refine S.hq 0 [] [] [(57, .v (GT.val aH q19))] .nil fun ac S => ?_
 refine S.hq 1 [] [] [(58, .v (GT.val aH paH))] .nil fun ac S => ?_
 refine WD.one (i := 2) (by kernel_rfl) ?_
 refine id (S.k1 59 (c_laws_toHost w aH paH (S.rd (S.arg hkaH))) fun ac w N q47 F48 S up o49 d50 => ?_)
 refine WD.next S up (by kernel_rfl) ?_
 have d51 := Disj.w d50 o12.sub
 have d52 := Disj.w d50 o21.sub
 have d53 := Disj.w d50 o28.sub
 replace o12 := o12.up up
 replace o21 := o21.up up
 replace o28 := o28.up up
 clear up d50
 refine WD.one (i := 3) (by kernel_rfl) ?_
 refine S.stepq (i := 3) (keep := [1, 2, 3, 4, 5, 12, 13, 14, 15, 16, 60]) (m := 4) (σ' := ⟨[(1, .v (I aM)), (2, .v (I aG)), (3, .v (I aAddr)), (4, .v (I aV)), (5, .p 0 0), (12, .p 1 0), (13, .v (B (f_hostDma aH aM aG aAddr aV).2)), (14, .p 2 0), (15, .p 3 0), (16, .v (B (f_hostDma aH aM aG aAddr aV).2)), (60, .v (B (decide (aH = aH))))], [GT.cells aH paH, GT.cells (f_hostDma aH aM aG aAddr aV).1 q8, GT.cells aH q19, GT.cells (f_hostDma aH aM aG aAddr aV).1 q24]⟩) (.cons (Q_call fun w hw => c_laws_eqHost w aH q19 (rd_of o21.rn hw) aH q47 (rd_of o49.rn hw)) .nil) (by kernel_rfl) fun ac w β S hβ => ?_
 refine WD.stayq S hβ ?_
 clear hβ
 refine S.hq 4 [] [] [(61, .v (B (!(decide (aH = aH)))))] .nil fun ac S => ?_
 refine WD.done (by kernel_rfl) ?_ _
 refine S.ex fun S => ?_
 refine S.gb 1 .nil (!(decide (aH = aH))) (fun ac w β h54 S => ?_) (fun ac w β h54 S => ?_)
 ·have h55 := not_t h54
  have g56 := of_decide_eq_false h55
  exact S.gf 7 .nil [B false] (retB k0_laws_FnExactHostDma)
 have h57 := not_f h54
 have g58 := of_decide_eq_true h57
 have z67 := sz_hostDma aH aM aG aAddr aV
 refine S.go 12 .nil fun ac w β S => S.KX (hd := hdT_Host) (d := 64) o21 (c_laws_markHost w aH q19 F20 (S.ownw o21) (fun b hb => (S.sep b (o21.sub b hb)).1) 1 (by omega) (by omega)) fun ac w N q59 y60 k61 S up o62 c63 x64 b65 b66 => ?_
 replace o12 := o12.upF d23 up
 replace o28 := o28.upF (Disj.symm d36) up
 clear up
 replace S := S.z (σ' := ⟨[(1, .v (I aM)), (2, .v (I aG)), (3, .v (I aAddr)), (4, .v (I aV)), (5, .p 0 0), (12, .p 1 0), (13, .v (B (f_hostDma aH aM aG aAddr aV).2)), (15, .p 3 0), (16, .v (B (f_hostDma aH aM aG aAddr aV).2)), (63, .v (I 1)), (64, .v (I k61))], [GT.cells aH paH, GT.cells (f_hostDma aH aM aG aAddr aV).1 q8, GT.cells aH q19, GT.cells (f_hostDma aH aM aG aAddr aV).1 q24]⟩)
 have hw0 : GT.cells y60 q59 = GT.cells aH q19 := c63
 replace S := S.cast (σ' := ⟨[(1, .v (I aM)), (2, .v (I aG)), (3, .v (I aAddr)), (4, .v (I aV)), (5, .p 0 0), (12, .p 1 0), (13, .v (B (f_hostDma aH aM aG aAddr aV).2)), (15, .p 3 0), (16, .v (B (f_hostDma aH aM aG aAddr aV).2)), (63, .v (I 1)), (64, .v (I k61))], [GT.cells aH paH, GT.cells (f_hostDma aH aM aG aAddr aV).1 q8, GT.cells y60 q59, GT.cells (f_hostDma aH aM aG aAddr aV).1 q24]⟩) (by rw [hw0])
 clear hw0
 refine S.is fun S => ?_
 refine S.gd 9 .nil (decide (k61 < 0)) (fun ac w β h68 g69 S => ?_) (fun ac w β h68 g69 S => ?_)
 ·exact S.gf 19 .nil [B false] (retB k0_laws_FnExactHostDma)
 refine S.go 6 (.cons (Q_call fun w hw => c_laws_eqHost w (f_hostDma aH aM aG aAddr aV).1 q24 (rd_of o28.rn hw) (f_hostDma aH aM aG aAddr aV).1 q8 (rd_of o12.rn hw)) .nil) fun ac w β S => ?_
 refine S.lt 73 h37 fun S => ?_
 refine S.go 6 .nil fun ac w β S => ?_
 refine S.lt 77 h42 fun S => ?_
 have z78 := sz_hostDma aH aM aG aAddr aV
 refine S.go 12 .nil fun ac w β S => S.KX (hd := hdT_Host) (d := 80) o28 (c_laws_markHost w (f_hostDma aH aM aG aAddr aV).1 q24 F26 (S.ownw o28) (fun b hb => (S.sep b (o28.sub b hb)).1) 1 (by omega) (by omega)) fun ac w N q70 y71 k72 S up o73 c74 x75 b76 b77 => ?_
 replace o12 := o12.upF d35 up
 replace o62 := o62.upF (Disj.symm (Disj.symm d36)) up
 clear up
 replace S := S.z (σ' := ⟨[(1, .v (I aM)), (2, .v (I aG)), (3, .v (I aAddr)), (4, .v (I aV)), (5, .p 0 0), (12, .p 1 0), (13, .v (B (f_hostDma aH aM aG aAddr aV).2)), (15, .p 3 0), (79, .v (I 1)), (80, .v (I k72))], [GT.cells aH paH, GT.cells (f_hostDma aH aM aG aAddr aV).1 q8, GT.cells y60 q59, GT.cells (f_hostDma aH aM aG aAddr aV).1 q24]⟩)
 have hw0 : GT.cells y71 q70 = GT.cells (f_hostDma aH aM aG aAddr aV).1 q24 := c74
 replace S := S.cast (σ' := ⟨[(1, .v (I aM)), (2, .v (I aG)), (3, .v (I aAddr)), (4, .v (I aV)), (5, .p 0 0), (12, .p 1 0), (13, .v (B (f_hostDma aH aM aG aAddr aV).2)), (15, .p 3 0), (79, .v (I 1)), (80, .v (I k72))], [GT.cells aH paH, GT.cells (f_hostDma aH aM aG aAddr aV).1 q8, GT.cells y60 q59, GT.cells y71 q70]⟩) (by rw [hw0])
 clear hw0
 refine S.is fun S => ?_
 refine S.gd 23 (.cons (Q_call fun w hw => c_laws_heldHost w y71 q70 (rd_of o73.rn hw) 1) .nil) (decide ((hdT_Host y71 1) < 0)) (fun ac w β h79 g80 S => ?_) (fun ac w β h79 g80 S => ?_)
 ·exact S.gf 7 .nil [B false] (retB k0_laws_FnExactHostDma)
 refine S.gd 11 .nil ((hdT_Host y71 1) != k72) (fun ac w β h81 g82 S => ?_) (fun ac w β h81 g82 S => ?_)
 ·exact S.gf 7 .nil [B false] (retB k0_laws_FnExactHostDma)
 refine S.go 6 .nil fun ac w β S => S.K1 (r := aH) (d := 91) (c_laws_toHost w aH paH (S.rd (S.arg hkaH))) fun ac w N q83 F84 S up o85 d86 => ?_
 have d87 := Disj.w d86 o12.sub
 have d88 := Disj.w d86 o62.sub
 have d89 := Disj.w d86 o73.sub
 replace o12 := o12.up up
 replace o62 := o62.up up
 replace o73 := o73.up up
 clear up d86
 refine S.go 4 .nil fun ac w β S => S.K2 (r := (f_hostDma aH aM aG aAddr aV).1) (r' := (f_hostDma aH aM aG aAddr aV).2) (d := 96) (c_impl_HostDma w aH q83 (S.rd o85.rn) aM aG aAddr haAddr aV haV) fun ac w N q90 q91 F92 F93 S up o94 o95 d96 d97 d98 => ?_
 have d99 := Disj.w d97 o12.sub
 have d100 := Disj.w d97 o62.sub
 have d101 := Disj.w d97 o73.sub
 have d102 := Disj.w d97 o85.sub
 have d103 := Disj.w d96 o12.sub
 have d104 := Disj.w d96 o62.sub
 have d105 := Disj.w d96 o73.sub
 have d106 := Disj.w d96 o85.sub
 replace o12 := o12.up up
 replace o62 := o62.up up
 replace o73 := o73.up up
 replace o85 := o85.up up
 clear up d96
 clear d97
 refine S.go 16 (.cons (Q_call fun w hw => c_laws_eqHost w (f_hostDma aH aM aG aAddr aV).1 q90 (rd_of o94.rn hw) (f_hostDma aH aM aG aAddr aV).1 q8 (rd_of o12.rn hw)) .nil) fun ac w β S => ?_
 refine S.lt 103 h37 fun S => ?_
 refine S.go 6 .nil fun ac w β S => ?_
 refine S.lt 107 h42 fun S => ?_
 refine S.go 23 (.cons (Q_call fun w hw => c_laws_heldHost w y71 q70 (rd_of o73.rn hw) 1) .nil) fun ac w β S => ?_
 refine S.lt 112 h79 fun S => ?_
 refine S.go 11 .nil fun ac w β S => ?_
 refine S.lt 115 h81 fun S => ?_
 exact S.gf 9 .nil [B true] (retB k0_laws_FnExactHostDma)

end Go.Proofs.YtomgmpbipaldaaaGreat
