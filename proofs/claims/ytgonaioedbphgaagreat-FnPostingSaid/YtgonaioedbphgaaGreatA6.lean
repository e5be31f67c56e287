/- The walks: what each function that the laws reach computes (part 3). -/
import Derived.Test.YtgonaioedbphgaaGreatA5
import Derived.Test.YtgonaioedbphgaaGreatProg
import Derived.KernelRfl
namespace Go.Proofs.YtgonaioedbphgaaGreat
open Go
set_option linter.unusedVariables false
set_option linter.unusedSimpArgs false
set_option maxRecDepth 100000
set_option maxHeartbeats 2000000

theorem c_impl_OutExit (w0 : World) (n : Int) (hn : In64 n) : Calls Tryz.prog 190 [I n].toArray w0 (fun e w' => e = .returned (GT.val (f_outExit n) ()) ∧ Chg NoB w0 w') := by
 refine Calls.run NoB Tryz.func190 ?_
 intro ac β S
 have hlon := hn.lo; have hhin := hn.hi
 exact S.gf 13 (.cons (Q_sem (s := Instr.build 49 [(0, I 3), (3, I n)].toArray) (v := .agg [I 3, I 0, B false, I n].toArray) (fun w => by kernel_rfl)) .nil) [GT.val (⟨3, 0, false, n⟩ : TExit) ()] (retV (p := ()) (by clear S; rfl))

theorem k0_impl_trapped {p : Prop} (h : p := by clear S; (unfold f_trapped; (repeat' split) <;> first | rfl | (exfalso; omega) | (exfalso; simp_all; done) | (exfalso; simp_all; omega) | (simp_all; done))) : p := h
theorem c_impl_trapped (w0 : World) (x : TGuest) (px : PGuest) (hx : RD w0 x px) (want : Int) : Calls Tryz.prog 148 [GT.val x px, I want].toArray w0 (Ret1 NoB w0 (f_trapped x want : TGuest)) := by
 refine Calls.run NoB Tryz.func148 ?_
 intro ac β S
 have hlex_prog : x.prog.length ≤ 4194304 := LRd.le (RGuest.prog (d := x) hx)
 have hlex_written : x.written.length ≤ 4194304 := LRd.le (RGuest.written (d := x) hx)
 have hlex_live : x.live.length ≤ 4194304 := LRd.le (RGuest.live (d := x) hx)
 have hlex_seen : x.seen.length ≤ 4194304 := LRd.le (RGuest.seen (d := x) hx)
 refine S.gd 13 .nil (want == 5) (fun ac w β h1 g2 S => ?_) (fun ac w β h1 g2 S => ?_)
 ·refine S.go 2 .nil fun ac w β S => ?_
  refine drw ?_
  refine S.draw0 (f := 10) 9 (by kernel_rfl) (by kernel_rfl) fun w S => ?_
  refine S.hq 0 [0] [] [(7, .v (GT.val x px))] .nil fun ac S => ?_
  refine S.hq 1 [1] [] [(8, .p 0 0)] .nil fun ac S => ?_
  refine S.hq 2 [2] [] [(9, .v (slv x.prog.length px.prog.1))] .nil fun ac S => ?_
  refine S.hq 3 [3] [] [(10, .p 0 2)] .nil fun ac S => ?_
  refine S.hq 4 [4] [] [(11, .v (I x.pc))] .nil fun ac S => ?_
  refine S.sq 5 [] [(12, .v (GT.val (f_insAt x.prog x.pc) ()))] 2 [] (.cons (Q_call fun w hw => c_impl_InsAt w x.prog px.prog (rd_of (RGuest.prog (d := x) (S.arg hx)) hw) x.pc) .nil) fun ac w β S => ?_
  refine S.hq 6 [6] [] [(13, .v (I (f_insAt x.prog x.pc).x))] .nil fun ac S => ?_
  refine S.sq 7 [] [(14, .v (GT.val (f_outExit (f_insAt x.prog x.pc).x) ()))] 2 [] (.cons (Q_call fun w hw => c_impl_OutExit w (f_insAt x.prog x.pc).x (RIns.x (d := (f_insAt x.prog x.pc)) (insAt_r (RGuest.prog (d := x) (S.arg hx)) x.pc))) .nil) fun ac w β S => ?_
  refine WD.one (i := 8) (by kernel_rfl) ?_
  refine id (S.k1 15 (c_impl_Stopped w x px (S.rd (S.arg hx)) (f_outExit (f_insAt x.prog x.pc).x) (outExit_r (RIns.x (d := (f_insAt x.prog x.pc)) (insAt_r (RGuest.prog (d := x) (S.arg hx)) x.pc)))) fun ac w N q3 F4 S up o5 d6 => ?_)
  refine WD.next S up (by kernel_rfl) ?_
  clear up d6
  refine S.sl 9 [] [] 2 [(1, GT.cells ({ x with exit := (f_outExit (f_insAt x.prog x.pc).x) } : TGuest) q3)] .nil fun ac w β S => ?_
  refine WD.done (by kernel_rfl) ?_ _
  refine S.ex fun S => ?_
  refine S.gr 2 .nil [GT.val ({ x with exit := (f_outExit (f_insAt x.prog x.pc).x) } : TGuest) q3] fun ac w β S => ?_
  exact ret1_of S (show f_trapped x want = ({ x with exit := (f_outExit (f_insAt x.prog x.pc).x) } : TGuest) from k0_impl_trapped) rfl o5
 refine S.go 7 (.cons (Q_sem (s := Instr.build 49 [(0, I 4)].toArray) (v := .agg [I 4, I 0, B false, I 0].toArray) (fun w => by kernel_rfl)) .nil) fun ac w β S => S.K1 (r := ({ x with exit := (⟨4, 0, false, 0⟩ : TExit) } : TGuest)) (d := 18) (c_impl_Stopped w x px (S.rd (S.arg hx)) (⟨4, 0, false, 0⟩ : TExit) (show RExit (⟨4, 0, false, 0⟩ : TExit) from ⟨(show In64 4 from ⟨by decide, by decide⟩), (show In64 0 from ⟨by decide, by decide⟩), (show In64 0 from ⟨by decide, by decide⟩)⟩)) fun ac w N q7 F8 S up o9 d10 => ?_
 clear up d10
 refine S.gr 4 .nil [GT.val ({ x with exit := (⟨4, 0, false, 0⟩ : TExit) } : TGuest) q7] fun ac w β S => ?_
 exact ret1_of S (show f_trapped x want = ({ x with exit := (⟨4, 0, false, 0⟩ : TExit) } : TGuest) from k0_impl_trapped) rfl o9

theorem c_impl_Held (w0 : World) (g : TGuest) (pg : PGuest) (hg : RD w0 g pg) : Calls Tryz.prog 149 [GT.val g pg].toArray w0 (Ret1 NoB w0 (f_held g : TGuest)) := by
 refine Calls.run NoB Tryz.func149 ?_
 intro ac β S
 have hleg_prog : g.prog.length ≤ 4194304 := LRd.le (RGuest.prog (d := g) hg)
 have hleg_written : g.written.length ≤ 4194304 := LRd.le (RGuest.written (d := g) hg)
 have hleg_live : g.live.length ≤ 4194304 := LRd.le (RGuest.live (d := g) hg)
 have hleg_seen : g.seen.length ≤ 4194304 := LRd.le (RGuest.seen (d := g) hg)
 refine S.go 15 .nil fun ac w β S => S.K1 (r := f_moved (⟨g.prog, g.acc, g.pc, g.written, g.live, g.ctl, g.pend, g.exit, true, g.seen⟩ : TGuest)) (d := 5) (c_impl_Moved w (⟨g.prog, g.acc, g.pc, g.written, g.live, g.ctl, g.pend, g.exit, true, g.seen⟩ : TGuest) (⟨pg.prog, pg.written, pg.live, pg.seen⟩ : PGuest) (S.rd (show GT.rd KK _ _ (⟨g.prog, g.acc, g.pc, g.written, g.live, g.ctl, g.pend, g.exit, true, g.seen⟩ : TGuest) (⟨pg.prog, pg.written, pg.live, pg.seen⟩ : PGuest) from ⟨(RGuest.prog (p := pg) (d := g) (S.arg hg)), (RGuest.acc (d := g) (S.arg hg)), (RGuest.pc (d := g) (S.arg hg)), (RGuest.written (p := pg) (d := g) (S.arg hg)), (RGuest.live (p := pg) (d := g) (S.arg hg)), (RGuest.ctl (d := g) (S.arg hg)), (RGuest.pend (d := g) (S.arg hg)), (RGuest.exit (d := g) (S.arg hg)), (RGuest.seen (p := pg) (d := g) (S.arg hg))⟩))) fun ac w N q1 F2 S up o3 d4 => ?_
 clear up d4
 refine S.gr 4 .nil [GT.val (f_moved (⟨g.prog, g.acc, g.pc, g.written, g.live, g.ctl, g.pend, g.exit, true, g.seen⟩ : TGuest)) q1] fun ac w β S => ?_
 exact ret1_of S (show f_held g = (f_moved (⟨g.prog, g.acc, g.pc, g.written, g.live, g.ctl, g.pend, g.exit, true, g.seen⟩ : TGuest)) by clear S; rfl) rfl o3

theorem c_impl_leave (w0 : World) (xs : List TMon) (qx : LP TMon) (xk : Nat) (kx : xk < xs.length) (F : Bl) (hx : GT.own KK F w0 xs qx) (hF : ∀ b, F b → b < w0.heap.size) (g : Int) (want : Int) (pre0 : 0 ≤ g ∧ g < (el xs xk).guests.length) (pre1 : want = 5 ∨ want = 7) : Calls Tryz.prog 87 [pt qx.1.b (qx.1.off + xk * 9), I g, I want].toArray w0 (RetL F qx w0 (xs.set xk (f_trapMon (el xs xk) g (el (el xs xk).guests g.toNat) want))) := by
 refine Calls.run F Tryz.func87 ?_
 intro ac β S
 have ox : Ow w0 F w0 (Lt w0.heap.size) F xs ((qx.1, qx.2) : LP TMon) := ⟨hx, hF, fun b hb => .inr hb⟩
 have hlex : xs.length ≤ 4194304 := LOwn.le hx
 have hgk : g.toNat < (el xs xk).guests.length := by omega
 have hown : In64 (el xs xk).owned := RMon.owned (d := (el xs xk)) (LRd.el ox.rn xk kx)
 refine S.gd 23 (.cons (Q_cell ox.rn (t := 25) (k := xk) (j := 3) (v := slv (el xs xk).guests.length (qx.2 xk).guests.1) kx (by kernel_rfl) (by kernel_rfl)) (.cons (qt (RMon.guests (d := (el xs xk)) (LRd.el ox.rn xk kx)) g Tryz.underlying25) (.cons (qs (RMon.guests (d := (el xs xk)) (LRd.el ox.rn xk kx)) 51 g.toNat) (.cons (Q_cell ox.rn (t := 3) (k := xk) (j := 6) (v := I (el xs xk).traps) kx (by kernel_rfl) (by kernel_rfl)) (.cons (Q_call fun w hw => c_impl_trapOf w want) (.cons (Q_call fun w hw => c_impl_OwnerOf w (el xs xk).traps (el (el xs xk).guests g.toNat).ctl.traps (f_trapOf want)) .nil)))))) ((f_ownerIs (el xs xk).traps (el (el xs xk).guests g.toNat).ctl.traps (f_trapOf want)) == 1) (fun ac w β h1 g2 S => ?_) (fun ac w β h1 g2 S => ?_)
 ·clear h1
  refine S.go 2 .nil fun ac w β S => ?_
  refine drw ?_
  refine S.draw0 (f := 10) 9 (by kernel_rfl) (by kernel_rfl) fun w S => ?_
  refine S.hq 0 [0] [] [(27, .v (pt qx.1.b (qx.1.off + xk * 9)))] .nil fun ac S => ?_
  refine S.hq 1 [1] [] [(28, .v (pt qx.1.b (qx.1.off + xk * 9)))] .nil fun ac S => ?_
  refine S.hq 2 [2] [] [(29, .v (pt qx.1.b (qx.1.off + xk * 9 + 3)))] .nil fun ac S => ?_
  refine S.hq 3 [3] [] [(30, .v (slv (el xs xk).guests.length (qx.2 xk).guests.1))] (.cons (Q_cell ox.rn (t := 25) (k := xk) (j := 3) (v := slv (el xs xk).guests.length (qx.2 xk).guests.1) kx (by kernel_rfl) (by kernel_rfl)) .nil) fun ac S => ?_
  refine S.hq 4 [4] [] [(31, .v (I g))] .nil fun ac S => ?_
  refine S.hq 5 [5] [] [(32, .v (GT.val (el (el xs xk).guests g.toNat) ((qx.2 xk).guests.2 g.toNat)))] .nil fun ac S => ?_
  refine S.hq 6 [6] [] [(33, .v (I want))] .nil fun ac S => ?_
  refine WD.one (i := 7) (by kernel_rfl) ?_
  refine id (S.k1 34 (c_impl_trapped w (el (el xs xk).guests g.toNat) ((qx.2 xk).guests.2 g.toNat) (S.rd (LRd.el (RMon.guests (d := (el xs xk)) (LRd.el ox.rn xk kx)) g.toNat hgk)) want) fun ac w N q1 F1y S up o1y d1y => ?_)
  refine WD.next S up (by kernel_rfl) ?_
  have d2y := Disj.w d1y ox.sub
  replace ox := ox.up up
  refine S.hq 8 [8] [] [(34, .v (GT.val (f_trapped (el (el xs xk).guests g.toNat) want) q1)), (35, .v (pt (qx.2 xk).guests.1.b ((qx.2 xk).guests.1.off + g.toNat * 15)))] (.cons (qt (RMon.guests (d := (el xs xk)) (LRd.el ox.rn xk kx)) g Tryz.underlying25 (hi := hgk)) .nil) fun ac S => ?_
  refine WD.one (i := 9) (by kernel_rfl) ?_
  obtain ⟨F3y, o3y, s3y, b3y⟩ := foc2_Mon_guests ox (k := xk) kx
  have n3y := o3y.sub
  refine id (S.sV (α := TGuest) o3y (t := 51) (k := g.toNat) (off := (qx.2 xk).guests.1.off + g.toNat * 15) o1y (Disj.part d2y s3y) (hk := hgk) fun w N F4y q4y S up o4y d4y s4y n4y => ?_)
  refine WD.last (by kernel_rfl) ?_
  obtain ⟨p5y, o5y, c5y⟩ := b3y _ _ _ _ _ F1y up o4y s4y d2y (by show [slv _ _] = [slv _ _]; rw [List.length_set]) (fun b h => n4y b (n3y b h))
  replace S := S.z (σ' := ⟨[(34, .v (GT.val (f_trapped (el (el xs xk).guests g.toNat) want) q1))], [GT.cells (el (el xs xk).guests g.toNat) ((qx.2 xk).guests.2 g.toNat)]⟩)
  refine WD.done (by kernel_rfl) ?_ _
  refine S.ex fun S => ?_
  refine S.gr 2 .nil [] fun ac w β S => ?_
  exact retL_of S (show (xs.set xk (f_trapMon (el xs xk) g (el (el xs xk).guests g.toNat) want)) = (xs.set xk ({ el xs xk with guests := (el xs xk).guests.set g.toNat (f_trapped (el (el xs xk).guests g.toNat) want) })) from leave_trapped pre1 g2) o5y
 refine S.go 4 .nil fun ac w β S => ?_
 refine cutC S (fun ac w => ∃ (o1 : Int) (pf : Nat → PMon) (F1 : Bl) (u : _) (N : _) (β : _), o1 = f_ownUp (el xs xk) (el (el xs xk).guests g.toNat) want ∧ St Tryz.prog Tryz.f87.ntmps w0 F u N β ⟨[(0, .v (pt qx.1.b (qx.1.off + xk * 9))), (1, .v (I g)), (2, .v (I want)), (6, .p 0 0)], [GT.cells (el (el xs xk).guests g.toNat) ((qx.2 xk).guests.2 g.toNat)]⟩ ac w ∧ Ow w0 F u N F1 (xs.set xk ({ el xs xk with owned := o1 } : TMon)) ((qx.1, pf) : LP TMon) ∧ pf xk = qx.2 xk) ?_ ?_
 ·clear S; intro S
  refine S.gd 5 .nil ((f_ownerIs (el xs xk).traps (el (el xs xk).guests g.toNat).ctl.traps (f_trapOf want)) == 2) (fun ac w β h3 g3 S => ?_) (fun ac w β h3 g3 S => ?_)
  ·refine S.gd 8 (.cons (Q_cell ox.rn (t := 3) (k := xk) (j := 8) (v := I (el xs xk).owned) kx (by kernel_rfl) (by kernel_rfl)) .nil) (decide ((el xs xk).owned < 1000000000)) (fun ac w β h4 g4 S => ?_) (fun ac w β h4 g4 S => ?_)
   ·refine S.go 9 (.cons (Q_cell ox.rn (t := 3) (k := xk) (j := 8) (v := I (el xs xk).owned) kx (by kernel_rfl) (by kernel_rfl)) (.cons (qp ((el xs xk).owned) 1 ⟨by have := hown.lo; omega, by omega⟩) .nil)) fun ac w β S => S.SLE (α := TMon) (Fy := NoB) (t := 3) (k := xk) (j := 8) (off := qx.1.off + xk * 9 + 8) (v := I ((el xs xk).owned + 1)) (y := ({ el xs xk with owned := (el xs xk).owned + 1 } : TMon)) (q := qx.2 xk) ox kx (show 8 + 1 ≤ 9 by decide) (fun G g_ _ => ⟨G, ows_Mon_owned g_ (⟨by have := hown.lo; omega, by omega⟩), fun _ h => .inl h⟩) Disj.nob.symm (fun _ h => False.elim h) (fun _ h => False.elim h) fun w N F' S up o d s n => ?_
    exact S.gn 30 .nil fun ac w β S => ⟨rfl, (el xs xk).owned + 1, _, F', _, _, _, (ownUp_yes pre1 g3 g4).symm, S.z, o, if_pos rfl⟩
   exact S.gn 30 .nil fun ac w β S => ⟨rfl, (el xs xk).owned, qx.2, F, _, _, _, (ownUp_no (.inr g4)).symm, S.z, by rw [set_own kx]; exact ox, rfl⟩
  exact S.gn 30 .nil fun ac w β S => ⟨rfl, (el xs xk).owned, qx.2, F, _, _, _, (ownUp_no (.inl g3)).symm, S.z, by rw [set_own kx]; exact ox, rfl⟩
 clear S ox
 rintro ac w ⟨o1, pf, F1, u, N, β, ho1, S, ox, hpf⟩
 obtain ⟨X, hX⟩ : ∃ X, X = xs.set xk ({ el xs xk with owned := o1 } : TMon) := ⟨_, rfl⟩
 rw [← hX] at ox
 have hXl : X.length = xs.length := by rw [hX, List.length_set]
 have kX : xk < X.length := by omega
 have he : el X xk = ({ el xs xk with owned := o1 } : TMon) := by rw [hX, el_set_self kx]
 have hmg : (el X xk).guests = (el xs xk).guests := by rw [he]
 have hpg : (pf xk).guests = (qx.2 xk).guests := by rw [hpf]
 have hgX : g.toNat < (el X xk).guests.length := by rw [hmg]; exact hgk
 refine S.ex fun S => ?_
 refine S.gd 8 .nil (want == 7) (fun ac w β h5 g5 S => ?_) (fun ac w β h5 g5 S => ?_)
 ·clear h5
  refine S.go 2 .nil fun ac w β S => ?_
  refine drw ?_
  refine S.draw0 (f := 9) 8 (by kernel_rfl) (by kernel_rfl) fun w S => ?_
  refine S.hq 0 [0] [] [(54, .v (pt qx.1.b (qx.1.off + xk * 9)))] .nil fun ac S => ?_
  refine S.hq 1 [1] [] [(55, .v (pt qx.1.b (qx.1.off + xk * 9)))] .nil fun ac S => ?_
  refine S.hq 2 [2] [] [(56, .v (pt qx.1.b (qx.1.off + xk * 9 + 3)))] .nil fun ac S => ?_
  refine S.hq 3 [3] [] [(57, .v (slv (el X xk).guests.length (pf xk).guests.1))] (.cons (Q_cell ox.rn (t := 25) (k := xk) (j := 3) (v := slv (el X xk).guests.length (pf xk).guests.1) kX (by kernel_rfl) (by kernel_rfl)) .nil) fun ac S => ?_
  refine S.hq 4 [4] [] [(58, .v (I g))] .nil fun ac S => ?_
  refine S.hq 5 [5] [] [(59, .v (GT.val (el (el xs xk).guests g.toNat) ((qx.2 xk).guests.2 g.toNat)))] .nil fun ac S => ?_
  refine WD.one (i := 6) (by kernel_rfl) ?_
  refine id (S.k1 60 (c_impl_Held w (el (el xs xk).guests g.toNat) ((qx.2 xk).guests.2 g.toNat) (S.rd (rdG ox hmg hpg kX hgk))) fun ac w N q1 F1y S up o1y d1y => ?_)
  refine WD.next S up (by kernel_rfl) ?_
  have d2y := Disj.w d1y ox.sub
  replace ox := ox.up up
  refine S.hq 7 [7] [] [(60, .v (GT.val (f_held (el (el xs xk).guests g.toNat)) q1)), (61, .v (pt (pf xk).guests.1.b ((pf xk).guests.1.off + g.toNat * 15)))] (.cons (qt (RMon.guests (d := (el X xk)) (LRd.el ox.rn xk kX)) g Tryz.underlying25 (hi := hgX)) .nil) fun ac S => ?_
  refine WD.one (i := 8) (by kernel_rfl) ?_
  obtain ⟨F3y, o3y, s3y, b3y⟩ := foc2_Mon_guests ox (k := xk) kX
  have n3y := o3y.sub
  refine id (S.sV (α := TGuest) o3y (t := 51) (k := g.toNat) (off := (pf xk).guests.1.off + g.toNat * 15) o1y (Disj.part d2y s3y) (hk := hgX) fun w N F4y q4y S up o4y d4y s4y n4y => ?_)
  refine WD.last (by kernel_rfl) ?_
  obtain ⟨p5y, o5y, c5y⟩ := b3y _ _ _ _ _ F1y up o4y s4y d2y (by show [slv _ _] = [slv _ _]; rw [List.length_set]) (fun b h => n4y b (n3y b h))
  replace S := S.z (σ' := ⟨[(60, .v (GT.val (f_held (el (el xs xk).guests g.toNat)) q1))], [GT.cells (el (el xs xk).guests g.toNat) ((qx.2 xk).guests.2 g.toNat)]⟩)
  refine WD.done (by kernel_rfl) ?_ _
  refine S.ex fun S => ?_
  refine S.gr 2 .nil [] fun ac w β S => ?_
  exact retL_of S (show (xs.set xk (f_trapMon (el xs xk) g (el (el xs xk).guests g.toNat) want)) = (X.set xk ({ el X xk with guests := (el X xk).guests.set g.toNat (f_held (el (el xs xk).guests g.toNat)) })) from leave_held hX he ho1 g2 g5) o5y
 have hw5 : want = 5 := by omega
 have hmo : (el X xk).outs = (el xs xk).outs := by rw [he]
 refine S.go 4 .nil fun ac w β S => ?_
 refine cutC S (fun ac w => ∃ (os : List Int) (pf2 : Nat → PMon) (F2 : Bl) (u : _) (N : _) (β : _), os = (if (el xs xk).outs.length < 40 then (el xs xk).outs ++ [(f_insAt (el (el xs xk).guests g.toNat).prog (el (el xs xk).guests g.toNat).pc).x] else (el xs xk).outs) ∧ St Tryz.prog Tryz.f87.ntmps w0 F u N β ⟨[(0, .v (pt qx.1.b (qx.1.off + xk * 9))), (1, .v (I g)), (6, .p 0 0)], [GT.cells (el (el xs xk).guests g.toNat) ((qx.2 xk).guests.2 g.toNat)]⟩ ac w ∧ Ow w0 F u N F2 (xs.set xk ({ el xs xk with owned := o1, outs := os } : TMon)) ((qx.1, pf2) : LP TMon) ∧ (pf2 xk).guests = (qx.2 xk).guests) ?_ ?_
 ·clear S; intro S
  have b0 : (el X xk).outs.length ≤ 4194304 := LRd.le (RMon.outs (d := (el X xk)) (LRd.el ox.rn xk kX))
  refine S.gd 10 (.cons (Q_cell ox.rn (t := 26) (k := xk) (j := 4) (v := slv (el X xk).outs.length (pf xk).outs.1) kX (by kernel_rfl) (by kernel_rfl)) .nil) (decide (((el X xk).outs.length : Int) < 40)) (fun ac w β h6 g6 S => ?_) (fun ac w β h6 g6 S => ?_)
  ·refine S.go 1 .nil fun ac w β S => ?_
   refine drw ?_
   let σ109 : Sy := ⟨[(0, .v (pt qx.1.b (qx.1.off + xk * 9))), (1, .v (I g)), (6, .p 0 0), (67, .v (B true))], [GT.cells (el (el xs xk).guests g.toNat) ((qx.2 xk).guests.2 g.toNat)]⟩
   obtain ⟨u0, N0, β0, S, ox⟩ : ∃ u0 N0 β0, St Tryz.prog Tryz.f87.ntmps w0 F u0 N0 β0 σ109 ac w ∧ Ow w0 F u0 N0 F1 X ((qx.1, pf) : LP TMon) := ⟨_, _, _, S.z, ox⟩
   refine wp_region_cut (fun ac w => ∃ (pf2 : Nat → PMon) (F143 : Bl) (u : _) (N : _) (β : _), St Tryz.prog Tryz.f87.ntmps w0 F u N β ⟨[(0, .v (pt qx.1.b (qx.1.off + xk * 9))), (1, .v (I g)), (6, .p 0 0)], [GT.cells (el (el xs xk).guests g.toNat) ((qx.2 xk).guests.2 g.toNat)]⟩ ac w ∧ Ow w0 F u N F143 (X.set xk (({ el X xk with outs := ((el X xk).outs ++ [(f_insAt (el (el xs xk).guests g.toNat).prog (el (el xs xk).guests g.toNat).pc).x]) }) : TMon)) ((qx.1, pf2) : LP TMon) ∧ (pf2 xk).guests = (pf xk).guests) ?_ ?_
   ·refine S.draw0 (f := 16) 12 (by kernel_rfl) (by kernel_rfl) fun w S => ?_
    refine S.hq 1 [4, 3, 2, 1] [] [(69, .v (pt qx.1.b (qx.1.off + xk * 9)))] .nil fun ac S => ?_
    refine S.hq 2 [4, 3, 2] [] [(70, .v (pt qx.1.b (qx.1.off + xk * 9)))] .nil fun ac S => ?_
    refine S.hq 3 [4, 3] [] [(71, .v (pt qx.1.b (qx.1.off + xk * 9 + 4)))] .nil fun ac S => ?_
    refine S.hq 4 [4] [] [(72, .v (slv (el X xk).outs.length (pf xk).outs.1))] (.cons (Q_cell ox.rn (t := 26) (k := xk) (j := 4) (v := slv (el X xk).outs.length (pf xk).outs.1) kX (by kernel_rfl) (by kernel_rfl)) .nil) fun ac S => ?_
    refine S.hq 5 [9, 6, 5] [] [(73, .p 0 0)] .nil fun ac S => ?_
    refine S.hq 6 [9, 6] [] [(74, .v (slv (el (el xs xk).guests g.toNat).prog.length ((qx.2 xk).guests.2 g.toNat).prog.1))] .nil fun ac S => ?_
    refine S.hq 7 [9, 8, 7] [] [(75, .p 0 2)] .nil fun ac S => ?_
    refine S.hq 8 [9, 8] [] [(76, .v (I (el (el xs xk).guests g.toNat).pc))] .nil fun ac S => ?_
    refine WD.nameW fun W hW => ?_
    refine WD.castW (l' := mkL 16 [1, 2, 3, 4, 5, 6, 7, 8]) (by kernel_rfl) ?_
    have hK144 ac w (pf2 : Nat → PMon) F143 u N β (S : St Tryz.prog Tryz.f87.ntmps w0 F u N β ⟨[(0, .v (pt qx.1.b (qx.1.off + xk * 9))), (1, .v (I g)), (6, .p 0 0)], [GT.cells (el (el xs xk).guests g.toNat) ((qx.2 xk).guests.2 g.toNat)]⟩ ac w) (o141 : Ow w0 F u N F143 (X.set xk (({ el X xk with outs := ((el X xk).outs ++ [(f_insAt (el (el xs xk).guests g.toNat).prog (el (el xs xk).guests g.toNat).pc).x]) }) : TMon)) ((qx.1, pf2) : LP TMon)) (hp2 : (pf2 xk).guests = (pf xk).guests) : W 0 (mkL 16 [0, 1, 2, 3, 4, 5, 6, 7, 8, 9, 10, 11, 12, 13, 14, 15]) ac w := by
     exact od hW ⟨rfl, pf2, F143, _, _, _, S.z, o141, hp2⟩
    have hK145 ac w q117 F118 u N β (S : St Tryz.prog Tryz.f87.ntmps w0 F u N β (σ109.dl [67] [(68, .v (pt qx.1.b (qx.1.off + xk * 9))), (72, .v (slv (el X xk).outs.length (pf xk).outs.1)), (79, .v (slv 1 q117.1))] 1 []) ac w) (ox : Ow w0 F u N F1 X ((qx.1, pf) : LP TMon)) (o116 : Ow w0 F u N F118 ([(f_insAt (el (el xs xk).guests g.toNat).prog (el (el xs xk).guests g.toNat).pc).x]) q117) (d146 : Disj F1 F118) (hNN : NN N0 u0 N u) (hBB : BB σ109.bx.length β0 β) : W 4 (mkL 16 [0, 1, 2, 3, 4, 5, 6, 7, 8, 9, 10, 11]) ac w := by
     refine ox1 hW 12 ?_
     have b159 : (el X xk).outs.length ≤ 4194304 := LRd.le (RMon.outs (d := (el X xk)) (LRd.el ox.rn xk kX))
     refine id (S.appOutsO ox xk o116.rn (by' := 8) (d := 80) kX (show (el X xk).outs.length + ([(f_insAt (el (el xs xk).guests g.toNat).prog (el (el xs xk).guests g.toNat).pc).x]).length ≤ 4194304 by simp only [List.length_cons, List.length_nil]; omega) fun ac w N q151 F152 S up o153 r154 y155 z156 n157 y158 => ?_)
     refine WD.sl fun hC => ?_
     have d160 := z156 _ o116.sub
     have d161 := z156 _ ox.sub
     replace o116 := o116.upF (Disj.symm d146) up
     clear up z156 ox
     refine S.wh (σ' := ⟨[(0, .v (pt qx.1.b (qx.1.off + xk * 9))), (1, .v (I g)), (6, .p 0 0), (80, .v (slv ((el X xk).outs ++ [(f_insAt (el (el xs xk).guests g.toNat).prog (el (el xs xk).guests g.toNat).pc).x]).length q151.1)), (82, .v (pt qx.1.b (qx.1.off + xk * 9 + 4)))], [GT.cells (el (el xs xk).guests g.toNat) ((qx.2 xk).guests.2 g.toNat)]⟩) (f := 1) (l2 := mkL 16 [0, 1, 2, 3, 4, 5, 6, 7, 8, 9, 10, 11, 12, 13, 14]) hW [13, 14] hC fun _ S => ?_
     refine ox1 hW 15 ?_
     refine id (St.setElE S (hx := o153) (t := 26) (k := xk) (j := 4) (off := qx.1.off + xk * 9 + 4) (v := slv ((el X xk).outs ++ [(f_insAt (el (el xs xk).guests g.toNat).prog (el (el xs xk).guests g.toNat).pc).x]).length q151.1) (y := ({ el X xk with outs := ((el X xk).outs ++ [(f_insAt (el (el xs xk).guests g.toNat).prog (el (el xs xk).guests g.toNat).pc).x]) } : TMon)) (q := ({ pf xk with outs := q151 } : PMon)) (hop := by kernel_rfl) (hoff := by kernel_rfl) (hk := kX) (hs := by kernel_rfl) (hpl := by kernel_rfl) (hjw := show 4 + 1 ≤ 9 by decide) (hc := by kernel_rfl) (hy := y155) (hd := d161) (hyN := n157) (hyY := y158) (K := fun w N F163 S up o162 d165 s166 n167 => ?_))
     refine WD.sl fun hC => ?_
     replace S := S.z (σ' := ⟨[(0, .v (pt qx.1.b (qx.1.off + xk * 9))), (1, .v (I g)), (6, .p 0 0)], [GT.cells (el (el xs xk).guests g.toNat) ((qx.2 xk).guests.2 g.toNat)]⟩)
     exact S.wh hW [] hC fun _ S => hK144 _ _ _ F163 _ _ _ S o162 (by simp)
    have hK169 ac w u N β (S : St Tryz.prog Tryz.f87.ntmps w0 F u N β (σ109.dl [67] [(68, .v (pt qx.1.b (qx.1.off + xk * 9))), (72, .v (slv (el X xk).outs.length (pf xk).outs.1)), (78, .v (I (f_insAt (el (el xs xk).guests g.toNat).prog (el (el xs xk).guests g.toNat).pc).x))] 1 []) ac w) (ox : Ow w0 F u N F1 X ((qx.1, pf) : LP TMon)) (hNN : NN N0 u0 N u) (hBB : BB σ109.bx.length β0 β) : W 5 (mkL 16 [0, 1, 2, 3, 4, 5, 6, 7, 8, 9, 10]) ac w := by
     refine ox1 hW 11 ?_
     refine id (S.bs1 (α := Int) (x := (f_insAt (el (el xs xk).guests g.toNat).prog (el (el xs xk).guests g.toNat).pc).x) (p := ()) (F := NoB) (RIns.x (d := (f_insAt (el (el xs xk).guests g.toNat).prog (el (el xs xk).guests g.toNat).pc)) (insAt_r (RGuest.prog (d := (el (el xs xk).guests g.toNat)) (rdG ox hmg hpg kX hgk)) (el (el xs xk).guests g.toNat).pc)) (fun b h => False.elim h) (fun b h => False.elim h) (d := 79) (by kernel_rfl) fun ac w N q170 F171 S up o172 d173 => ?_)
     have hb174 := fun b h => (⟨(up b (hNN b h).1).1, (up b (hNN b h).1).2.trans (hNN b h).2⟩ : _ ∧ _)
     refine WD.sc S hb174 hBB fun hC => ?_
     have d175 := d173 _ (fun b _ h => False.elim h) ox.sub
     replace ox := ox.up up
     clear up d173
     exact S.wh hW [] hC fun _ S => hK145 _ _ q170 F171 _ _ _ S ox o172 d175 hb174 hBB
    have hK176 ac w u N β (S : St Tryz.prog Tryz.f87.ntmps w0 F u N β (σ109.dl [67] [(68, .v (pt qx.1.b (qx.1.off + xk * 9))), (72, .v (slv (el X xk).outs.length (pf xk).outs.1)), (74, .v (slv (el (el xs xk).guests g.toNat).prog.length ((qx.2 xk).guests.2 g.toNat).prog.1)), (76, .v (I (el (el xs xk).guests g.toNat).pc))] 1 []) ac w) (ox : Ow w0 F u N F1 X ((qx.1, pf) : LP TMon)) (hNN : NN N0 u0 N u) (hBB : BB σ109.bx.length β0 β) : W 7 (mkL 16 [0, 1, 2, 3, 4, 5, 6, 7, 8]) ac w := by
     exact ox1 hW 9 (S.wq hW hNN hBB [10] (.cons (Q_call fun w hw => c_impl_InsAt w (el (el xs xk).guests g.toNat).prog ((qx.2 xk).guests.2 g.toNat).prog (rd_of (RGuest.prog (d := (el (el xs xk).guests g.toNat)) (rdG ox hmg hpg kX hgk)) hw) (el (el xs xk).guests g.toNat).pc) .nil) fun _ _ _ S hB => hK169 _ _ _ _ _ S ox hNN hB)
    rw [hW]
    exact S.wh hW [0] (fun _ => S.rcx) fun _ S => hK176 _ _ _ _ _ S ox (fun _ h => ⟨h, rfl⟩) (fun _ _ => rfl)
   clear S ox
   rintro ac w ⟨pf2, F2, u, N, β, S, o2, hp2⟩
   refine S.ex fun S => ?_
   rw [hmo] at o2
   exact S.gn 30 .nil fun ac w β S => ⟨rfl, _, pf2, F2, _, _, _, (if_pos (by rw [← hmo]; omega)).symm, S.z, by rw [he, hX, List.set_set] at o2; exact o2, hp2.trans hpg⟩
  exact S.gn 30 .nil fun ac w β S => ⟨rfl, _, pf, F1, _, _, _, (if_neg (by rw [← hmo]; omega)).symm, S.z, by rw [hX] at ox; exact ox, hpg⟩
 clear S ox
 rintro ac w ⟨os, pf2, F2, u, N, β, hos, S, ox, hpg2⟩
 obtain ⟨X2, hX2⟩ : ∃ X2, X2 = xs.set xk ({ el xs xk with owned := o1, outs := os } : TMon) := ⟨_, rfl⟩
 rw [← hX2] at ox
 have kX2 : xk < X2.length := by rw [hX2, List.length_set]; exact kx
 have he2 : el X2 xk = ({ el xs xk with owned := o1, outs := os } : TMon) := by rw [hX2, el_set_self kx]
 have hmg2 : (el X2 xk).guests = (el xs xk).guests := by rw [he2]
 have hgX2 : g.toNat < (el X2 xk).guests.length := by rw [hmg2]; exact hgk
 refine S.ex fun S => ?_
 refine S.go 1 .nil fun ac w β S => ?_
 refine drw ?_
 refine S.draw0 (f := 9) 8 (by kernel_rfl) (by kernel_rfl) fun w S => ?_
 refine S.hq 0 [0] [] [(83, .v (pt qx.1.b (qx.1.off + xk * 9)))] .nil fun ac S => ?_
 refine S.hq 1 [1] [] [(84, .v (pt qx.1.b (qx.1.off + xk * 9)))] .nil fun ac S => ?_
 refine S.hq 2 [2] [] [(85, .v (pt qx.1.b (qx.1.off + xk * 9 + 3)))] .nil fun ac S => ?_
 refine S.hq 3 [3] [] [(86, .v (slv (el X2 xk).guests.length (pf2 xk).guests.1))] (.cons (Q_cell ox.rn (t := 25) (k := xk) (j := 3) (v := slv (el X2 xk).guests.length (pf2 xk).guests.1) kX2 (by kernel_rfl) (by kernel_rfl)) .nil) fun ac S => ?_
 refine S.hq 4 [4] [] [(87, .v (I g))] .nil fun ac S => ?_
 refine S.hq 5 [5] [] [(88, .v (GT.val (el (el xs xk).guests g.toNat) ((qx.2 xk).guests.2 g.toNat)))] .nil fun ac S => ?_
 refine WD.one (i := 6) (by kernel_rfl) ?_
 refine id (S.k1 89 (c_impl_Moved w (el (el xs xk).guests g.toNat) ((qx.2 xk).guests.2 g.toNat) (S.rd (rdG ox hmg2 hpg2 kX2 hgk))) fun ac w N q1 F1y S up o1y d1y => ?_)
 refine WD.next S up (by kernel_rfl) ?_
 have d2y := Disj.w d1y ox.sub
 replace ox := ox.up up
 refine S.hq 7 [7] [] [(89, .v (GT.val (f_moved (el (el xs xk).guests g.toNat)) q1)), (90, .v (pt (pf2 xk).guests.1.b ((pf2 xk).guests.1.off + g.toNat * 15)))] (.cons (qt (RMon.guests (d := (el X2 xk)) (LRd.el ox.rn xk kX2)) g Tryz.underlying25 (hi := hgX2)) .nil) fun ac S => ?_
 refine WD.one (i := 8) (by kernel_rfl) ?_
 obtain ⟨F3y, o3y, s3y, b3y⟩ := foc2_Mon_guests ox (k := xk) kX2
 have n3y := o3y.sub
 refine id (S.sV (α := TGuest) o3y (t := 51) (k := g.toNat) (off := (pf2 xk).guests.1.off + g.toNat * 15) o1y (Disj.part d2y s3y) (hk := hgX2) fun w N F4y q4y S up o4y d4y s4y n4y => ?_)
 refine WD.last (by kernel_rfl) ?_
 obtain ⟨p5y, o5y, c5y⟩ := b3y _ _ _ _ _ F1y up o4y s4y d2y (by show [slv _ _] = [slv _ _]; rw [List.length_set]) (fun b h => n4y b (n3y b h))
 replace S := S.z (σ' := ⟨[(89, .v (GT.val (f_moved (el (el xs xk).guests g.toNat)) q1))], [GT.cells (el (el xs xk).guests g.toNat) ((qx.2 xk).guests.2 g.toNat)]⟩)
 refine WD.done (by kernel_rfl) ?_ _
 refine S.ex fun S => ?_
 refine S.gr 0 .nil [] fun ac w β S => ?_
 exact retL_of S (show (xs.set xk (f_trapMon (el xs xk) g (el (el xs xk).guests g.toNat) want)) = (X2.set xk ({ el X2 xk with guests := (el X2 xk).guests.set g.toNat (f_moved (el (el xs xk).guests g.toNat)) })) from leave_moved hX2 he2 ho1 g2 hw5 hos) o5y

theorem k0_impl_Interrupted {p : Prop} (h : p := by clear S; (unfold f_interrupted; first | (rw [if_pos (by assumption)]; done) | (rw [if_neg (by simp [*])]; done))) : p := h
theorem c_impl_Interrupted (w0 : World) (g : TGuest) (pg : PGuest) (hg : RD w0 g pg) : Calls Tryz.prog 151 [GT.val g pg].toArray w0 (Ret1 NoB w0 (f_interrupted g : TGuest)) := by
 refine Calls.run NoB Tryz.func151 ?_
 intro ac β S
 have hleg_prog : g.prog.length ≤ 4194304 := LRd.le (RGuest.prog (d := g) hg)
 have hleg_written : g.written.length ≤ 4194304 := LRd.le (RGuest.written (d := g) hg)
 have hleg_live : g.live.length ≤ 4194304 := LRd.le (RGuest.live (d := g) hg)
 have hleg_seen : g.seen.length ≤ 4194304 := LRd.le (RGuest.seen (d := g) hg)
 refine S.gb 14 (.cons (Q_call fun w hw => c_impl_TakesIrq w g pg (rd_of (S.arg hg) hw)) .nil) (!(f_takesIrq g)) (fun ac w β h1 S => ?_) (fun ac w β h1 S => ?_)
 ·have h2 := not_t h1
  refine S.go 4 .nil fun ac w β S => S.K1 (r := g) (d := 10) (c_impl_copyGuest w g pg (S.rd (S.arg hg))) fun ac w N q3 F4 S up o5 d6 => ?_
  clear up d6
  refine S.gr 4 .nil [GT.val g q3] fun ac w β S => ?_
  exact ret1_of S (show f_interrupted g = g from k0_impl_Interrupted) rfl o5
 have h7 := not_f h1
 have b8 := takeIrq_bd g.pend
 refine S.go 29 (.cons (Q_call fun w hw => c_impl_TakeIrq w g.pend (RGuest.pend (d := g) (S.arg hg))) (.cons (qp 100 ((f_takeIrq g.pend).2.1)) .nil)) fun ac w β S => S.K1 (r := f_saw (⟨g.prog, g.acc, g.pc, g.written, g.live, g.ctl, (f_takeIrq g.pend).1, g.exit, g.halted, g.seen⟩ : TGuest) (100 + (f_takeIrq g.pend).2.1)) (d := 23) (c_impl_Saw w (⟨g.prog, g.acc, g.pc, g.written, g.live, g.ctl, (f_takeIrq g.pend).1, g.exit, g.halted, g.seen⟩ : TGuest) (⟨pg.prog, pg.written, pg.live, pg.seen⟩ : PGuest) (S.rd (show GT.rd KK _ _ (⟨g.prog, g.acc, g.pc, g.written, g.live, g.ctl, (f_takeIrq g.pend).1, g.exit, g.halted, g.seen⟩ : TGuest) (⟨pg.prog, pg.written, pg.live, pg.seen⟩ : PGuest) from ⟨(RGuest.prog (p := pg) (d := g) (S.arg hg)), (RGuest.acc (d := g) (S.arg hg)), (RGuest.pc (d := g) (S.arg hg)), (RGuest.written (p := pg) (d := g) (S.arg hg)), (RGuest.live (p := pg) (d := g) (S.arg hg)), (RGuest.ctl (d := g) (S.arg hg)), (takeIrq_in64 (RGuest.pend (d := g) (S.arg hg))), (RGuest.exit (d := g) (S.arg hg)), (RGuest.seen (p := pg) (d := g) (S.arg hg))⟩)) (100 + (f_takeIrq g.pend).2.1) ⟨by omega, by omega⟩) fun ac w N q9 F10 S up o11 d12 => ?_
 clear up d12
 refine S.gr 4 .nil [GT.val (f_saw (⟨g.prog, g.acc, g.pc, g.written, g.live, g.ctl, (f_takeIrq g.pend).1, g.exit, g.halted, g.seen⟩ : TGuest) (100 + (f_takeIrq g.pend).2.1)) q9] fun ac w β S => ?_
 exact ret1_of S (show f_interrupted g = (f_saw (⟨g.prog, g.acc, g.pc, g.written, g.live, g.ctl, (f_takeIrq g.pend).1, g.exit, g.halted, g.seen⟩ : TGuest) (100 + (f_takeIrq g.pend).2.1)) from k0_impl_Interrupted) rfl o11

theorem k0_impl_Plainly {p : Prop} (h : p := by clear S; (unfold f_plainly; first | (rw [if_neg (by assumption)]; done) | (rw [if_pos (by assumption)]; unfold f_plainTo; (repeat' split) <;> first | rfl | (exfalso; omega) | (exfalso; simp_all; done) | (exfalso; simp_all; omega) | (simp_all; done) | (simp_all [f_moved]; done)))) : p := h
theorem c_impl_Plainly (w0 : World) (g : TGuest) (pg : PGuest) (hg : RD w0 g pg) : Calls Tryz.prog 152 [GT.val g pg].toArray w0 (Ret1 NoB w0 (f_plainly g : TGuest)) := by
 refine Calls.run NoB Tryz.func152 ?_
 intro ac β S
 have hleg_prog : g.prog.length ≤ 4194304 := LRd.le (RGuest.prog (d := g) hg)
 have hleg_written : g.written.length ≤ 4194304 := LRd.le (RGuest.written (d := g) hg)
 have hleg_live : g.live.length ≤ 4194304 := LRd.le (RGuest.live (d := g) hg)
 have hleg_seen : g.seen.length ≤ 4194304 := LRd.le (RGuest.seen (d := g) hg)
 have b1 := wantOf_bd g
 refine S.gd 14 (.cons (Q_call fun w hw => c_impl_WantOf w g pg (rd_of (S.arg hg) hw)) .nil) ((f_wantOf g) != 2) (fun ac w β h2 g3 S => ?_) (fun ac w β h2 g3 S => ?_)
 ·refine S.go 4 .nil fun ac w β S => S.K1 (r := g) (d := 9) (c_impl_copyGuest w g pg (S.rd (S.arg hg))) fun ac w N q4 F5 S up o6 d7 => ?_
  clear up d7
  have i11 : In64 g.acc := RGuest.acc (d := g) o6.rn
  have i12 : In64 g.pc := RGuest.pc (d := g) o6.rn
  have i19 : RCtl g.ctl := RGuest.ctl (d := g) o6.rn
  have i20 : In64 g.pend := RGuest.pend (d := g) o6.rn
  have i21 : RExit g.exit := RGuest.exit (d := g) o6.rn
  obtain ⟨F8, F13, F16, F22, o9, o14, o17, o23, _, _, _, _, d25, d26, d27, d28, d29, d30⟩ := sp_Guest o6
  refine S.gr 4 .nil [GT.val g q4] fun ac w β S => ?_
  have o31 := ow_Guest (x := g) (p := q4) o9 o14 o17 o23 d25 d26 d27 d28 d29 d30 i11 i12 i19 i20 i21
  exact ret1_of S (show f_plainly g = g from k0_impl_Plainly) rfl o31
 refine S.go 17 (.cons (Q_call fun w hw => c_impl_InsAt w g.prog pg.prog (rd_of (RGuest.prog (d := g) (S.arg hg)) hw) g.pc) .nil) fun ac w β S => S.K1 (r := f_moved g) (d := 16) (c_impl_Moved w g pg (S.rd (S.arg hg))) fun ac w N q32 F33 S up o34 d35 => ?_
 clear up d35
 have i39 : In64 (f_moved g).acc := RGuest.acc (d := (f_moved g)) o34.rn
 have i40 : In64 (f_moved g).pc := RGuest.pc (d := (f_moved g)) o34.rn
 have i47 : RCtl (f_moved g).ctl := RGuest.ctl (d := (f_moved g)) o34.rn
 have i48 : In64 (f_moved g).pend := RGuest.pend (d := (f_moved g)) o34.rn
 have i49 : RExit (f_moved g).exit := RGuest.exit (d := (f_moved g)) o34.rn
 obtain ⟨F36, F41, F44, F50, o37, o42, o45, o51, _, _, _, _, d53, d54, d55, d56, d57, d58⟩ := sp_Guest o34
 refine S.gb 12 (.cons (Q_call fun w hw => c_impl_within w g.acc 0 99) .nil) (!(f_within g.acc 0 99)) (fun ac w β h59 S => ?_) (fun ac w β h59 S => ?_)
 ·have h60 := not_t h59
  have g61 := within_f h60
  refine S.gr 15 .nil [GT.val (f_moved g) q32] fun ac w β S => ?_
  have o62 := ow_Guest (x := (f_moved g)) (p := q32) o37 o42 o45 o51 d53 d54 d55 d56 d57 d58 i39 i40 i47 i48 i49
  exact ret1_of S (show f_plainly g = (f_moved g) from k0_impl_Plainly) rfl o62
 have h63 := not_f h59
 have g64 := within_t h63
 refine S.gb 7 (.cons (Q_call fun w hw => c_impl_within w (f_insAt g.prog g.pc).x 0 99) .nil) (!(f_within (f_insAt g.prog g.pc).x 0 99)) (fun ac w β h65 S => ?_) (fun ac w β h65 S => ?_)
 ·have h66 := not_t h65
  have g67 := within_f h66
  refine S.gr 8 .nil [GT.val (f_moved g) q32] fun ac w β S => ?_
  have o68 := ow_Guest (x := (f_moved g)) (p := q32) o37 o42 o45 o51 d53 d54 d55 d56 d57 d58 i39 i40 i47 i48 i49
  exact ret1_of S (show f_plainly g = (f_moved g) from k0_impl_Plainly) rfl o68
 have h69 := not_f h65
 have g70 := within_t h69
 refine S.gd 13 .nil ((f_insAt g.prog g.pc).opc == 1) (fun ac w β h71 g72 S => ?_) (fun ac w β h71 g72 S => ?_)
 ·refine S.gr 16 .nil [GT.val (⟨(f_moved g).prog, (f_insAt g.prog g.pc).x, (f_moved g).pc, (f_moved g).written, (f_moved g).live, (f_moved g).ctl, (f_moved g).pend, (f_moved g).exit, (f_moved g).halted, (f_moved g).seen⟩ : TGuest) (⟨q32.prog, q32.written, q32.live, q32.seen⟩ : PGuest)] fun ac w β S => ?_
  have o73 := ow_Guest (x := (⟨(f_moved g).prog, (f_insAt g.prog g.pc).x, (f_moved g).pc, (f_moved g).written, (f_moved g).live, (f_moved g).ctl, (f_moved g).pend, (f_moved g).exit, (f_moved g).halted, (f_moved g).seen⟩ : TGuest)) (p := (⟨q32.prog, q32.written, q32.live, q32.seen⟩ : PGuest)) o37 o42 o45 o51 d53 d54 d55 d56 d57 d58 (RIns.x (d := (f_insAt g.prog g.pc)) (insAt_r (RGuest.prog (d := g) (S.arg hg)) g.pc)) i40 i47 i48 i49
  exact ret1_of S (show f_plainly g = (⟨(f_moved g).prog, (f_insAt g.prog g.pc).x, (f_moved g).pc, (f_moved g).written, (f_moved g).live, (f_moved g).ctl, (f_moved g).pend, (f_moved g).exit, (f_moved g).halted, (f_moved g).seen⟩ : TGuest) from k0_impl_Plainly) rfl o73
 refine S.gd 9 .nil ((f_insAt g.prog g.pc).opc == 2) (fun ac w β h74 g75 S => ?_) (fun ac w β h74 g75 S => ?_)
 ·refine S.gr 20 (.cons (qp g.acc ((f_insAt g.prog g.pc).x)) (.cons (Q_rem (x := (g.acc + (f_insAt g.prog g.pc).x)) (y := 100) (by decide)) .nil)) [GT.val (⟨(f_moved g).prog, (Int.tmod (g.acc + (f_insAt g.prog g.pc).x) 100), (f_moved g).pc, (f_moved g).written, (f_moved g).live, (f_moved g).ctl, (f_moved g).pend, (f_moved g).exit, (f_moved g).halted, (f_moved g).seen⟩ : TGuest) (⟨q32.prog, q32.written, q32.live, q32.seen⟩ : PGuest)] fun ac w β S => ?_
  have o76 := ow_Guest (x := (⟨(f_moved g).prog, (Int.tmod (g.acc + (f_insAt g.prog g.pc).x) 100), (f_moved g).pc, (f_moved g).written, (f_moved g).live, (f_moved g).ctl, (f_moved g).pend, (f_moved g).exit, (f_moved g).halted, (f_moved g).seen⟩ : TGuest)) (p := (⟨q32.prog, q32.written, q32.live, q32.seen⟩ : PGuest)) o37 o42 o45 o51 d53 d54 d55 d56 d57 d58 (tmod_in64 (by decide)) i40 i47 i48 i49
  exact ret1_of S (show f_plainly g = (⟨(f_moved g).prog, (Int.tmod (g.acc + (f_insAt g.prog g.pc).x) 100), (f_moved g).pc, (f_moved g).written, (f_moved g).live, (f_moved g).ctl, (f_moved g).pend, (f_moved g).exit, (f_moved g).halted, (f_moved g).seen⟩ : TGuest) from k0_impl_Plainly) rfl o76
 refine S.gd 7 .nil ((f_insAt g.prog g.pc).opc == 8) (fun ac w β h77 g78 S => ?_) (fun ac w β h77 g78 S => ?_)
 ·refine S.gd 7 .nil (g.acc == 0) (fun ac w β h79 g80 S => ?_) (fun ac w β h79 g80 S => ?_)
  ·refine S.gr 16 .nil [GT.val (⟨(f_moved g).prog, (f_moved g).acc, (f_insAt g.prog g.pc).x, (f_moved g).written, (f_moved g).live, (f_moved g).ctl, (f_moved g).pend, (f_moved g).exit, (f_moved g).halted, (f_moved g).seen⟩ : TGuest) (⟨q32.prog, q32.written, q32.live, q32.seen⟩ : PGuest)] fun ac w β S => ?_
   have o81 := ow_Guest (x := (⟨(f_moved g).prog, (f_moved g).acc, (f_insAt g.prog g.pc).x, (f_moved g).written, (f_moved g).live, (f_moved g).ctl, (f_moved g).pend, (f_moved g).exit, (f_moved g).halted, (f_moved g).seen⟩ : TGuest)) (p := (⟨q32.prog, q32.written, q32.live, q32.seen⟩ : PGuest)) o37 o42 o45 o51 d53 d54 d55 d56 d57 d58 i39 (RIns.x (d := (f_insAt g.prog g.pc)) (insAt_r (RGuest.prog (d := g) (S.arg hg)) g.pc)) i47 i48 i49
   exact ret1_of S (show f_plainly g = (⟨(f_moved g).prog, (f_moved g).acc, (f_insAt g.prog g.pc).x, (f_moved g).written, (f_moved g).live, (f_moved g).ctl, (f_moved g).pend, (f_moved g).exit, (f_moved g).halted, (f_moved g).seen⟩ : TGuest) from k0_impl_Plainly) rfl o81
  refine S.gr 11 .nil [GT.val (f_moved g) q32] fun ac w β S => ?_
  have o82 := ow_Guest (x := (f_moved g)) (p := q32) o37 o42 o45 o51 d53 d54 d55 d56 d57 d58 i39 i40 i47 i48 i49
  exact ret1_of S (show f_plainly g = (f_moved g) from k0_impl_Plainly) rfl o82
 refine S.gr 18 .nil [GT.val (f_moved g) q32] fun ac w β S => ?_
 have o83 := ow_Guest (x := (f_moved g)) (p := q32) o37 o42 o45 o51 d53 d54 d55 d56 d57 d58 i39 i40 i47 i48 i49
 exact ret1_of S (show f_plainly g = (f_moved g) from k0_impl_Plainly) rfl o83

theorem c_impl_CallExit (w0 : World) (n : Int) (hn : In64 n) : Calls Tryz.prog 153 [I n].toArray w0 (fun e w' => e = .returned (GT.val (f_callExit n) ()) ∧ Chg NoB w0 w') := by
 refine Calls.run NoB Tryz.func153 ?_
 intro ac β S
 have hlon := hn.lo; have hhin := hn.hi
 exact S.gf 13 (.cons (Q_sem (s := Instr.build 49 [(0, I 2), (3, I n)].toArray) (v := .agg [I 2, I 0, B false, I n].toArray) (fun w => by kernel_rfl)) .nil) [GT.val (⟨2, 0, false, n⟩ : TExit) ()] (retV (p := ()) (by clear S; rfl))

theorem k0_impl_PutOut {p : Prop} (h : p := by clear S; (first | (unfold f_putOut; rw [if_pos (by omega)]; done) | (unfold f_putOut; rw [if_pos (by omega)]; first | rfl | (simp; done)) | (unfold f_putOut; rw [if_neg (by omega)]; done) | (unfold f_putOut; rw [if_neg (by omega)]; first | rfl | (simp; done)))) : p := h
theorem c_impl_PutOut (w0 : World) (b : TBare) (pb : PBare) (hb : RD w0 b pb) (n : Int) (hn : In64 n) : Calls Tryz.prog 155 [GT.val b pb, I n].toArray w0 (Ret1 NoB w0 (f_putOut b n : TBare)) := by
 refine Calls.run NoB Tryz.func155 ?_
 intro ac β S
 have hleb_mem : b.mem.length ≤ 4194304 := LRd.le (RBare.mem (d := b) hb)
 have hleb_guests : b.guests.length ≤ 4194304 := LRd.le (RBare.guests (d := b) hb)
 have hleb_outs : b.outs.length ≤ 4194304 := LRd.le (RBare.outs (d := b) hb)
 have hlon := hn.lo; have hhin := hn.hi
 refine S.go 9 .nil fun ac w β S => S.K1 (r := b) (d := 7) (c_impl_copyBare w b pb (S.rd (S.arg hb))) fun ac w N q1 F2 S up o3 d4 => ?_
 clear up d4
 have i14 : In64 b.pend := RBare.pend (d := b) o3.rn
 obtain ⟨F5, F8, F11, o6, o9, o12, _, _, _, d15, d16, d17⟩ := sp_Bare o3
 refine S.gd 13 .nil (decide ((b.outs.length : Int) < 40)) (fun ac w β h18 g19 S => ?_) (fun ac w β h18 g19 S => ?_)
 ·refine S.go 5 .nil fun ac w β S => S.B1 (α := Int) (x := n) (p := ()) (F := NoB) hn (fun b h => False.elim h) (fun b h => False.elim h) (d := 15) fun ac w N q20 F21 S up o22 d23 => ?_
  replace o6 := o6.up up
  replace o9 := o9.up up
  replace o12 := o12.up up
  clear up d23
  refine S.AF (α := Int) o12 o22.rn (fun _ _ h => h) (by' := 8) (d := 16) (lx := b.outs.length) (ly := 1) rfl rfl (show _ ≤ 4194304 by simp only [List.length_append, List.length_cons, List.length_nil]; omega) fun ac w N q27 F28 S up o29 d30 => ?_
  have d31 := d30 _ d16 o6.sub
  have d32 := d30 _ d17 o9.sub
  replace o6 := o6.upF d16 up
  replace o9 := o9.upF d17 up
  clear up d30
  refine S.gr 11 .nil [GT.val (⟨b.mem, b.guests, (b.outs ++ [n]), b.pend⟩ : TBare) (⟨q1.mem, q1.guests, q27⟩ : PBare)] fun ac w β S => ?_
  have o34 := ow_Bare (x := (⟨b.mem, b.guests, (b.outs ++ [n]), b.pend⟩ : TBare)) (p := (⟨q1.mem, q1.guests, q27⟩ : PBare)) o6 o9 o29 d15 d31 d32 i14
  exact ret1_of S (show f_putOut b n = (⟨b.mem, b.guests, (b.outs ++ [n]), b.pend⟩ : TBare) from k0_impl_PutOut) rfl o34
 refine S.gr 10 .nil [GT.val b q1] fun ac w β S => ?_
 have o35 := ow_Bare (x := b) (p := q1) o6 o9 o12 d15 d16 d17 i14
 exact ret1_of S (show f_putOut b n = b from k0_impl_PutOut) rfl o35

theorem k0_impl_BareStep {p : Prop} (h : p := by clear S; (first | (rw [bareStep_no (.inl (by assumption))]; done) | (rw [bareStep_no (.inr (.inl (by assumption)))]; done) | (rw [bareStep_no (.inr (.inr (by omega)))]; done) | (rw [bareStep_yes (by assumption) (by assumption) (by omega)]; first | (rw [bareTo1 (by omega), withGuest_at (by assumption)]; first | done | rfl) | (rw [bareTo1 (by omega), withGuest_eq (by assumption) rfl]; first | done | rfl) | (rw [bareTo1 (by omega), withGuest_eq (by assumption) (putOut_guests _ _)]; first | done | rfl) | (rw [bareTo2 (by omega), withGuest_at (by assumption)]; first | done | rfl) | (rw [bareTo2 (by omega), withGuest_eq (by assumption) rfl]; first | done | rfl) | (rw [bareTo2 (by omega), withGuest_eq (by assumption) (putOut_guests _ _)]; first | done | rfl) | (rw [mem_no (by omega) (by assumption), withGuest_at (by assumption)]; first | done | rfl) | (rw [mem_no (by omega) (by assumption), withGuest_eq (by assumption) rfl]; first | done | rfl) | (rw [mem_no (by omega) (by assumption), withGuest_eq (by assumption) (putOut_guests _ _)]; first | done | rfl) | (rw [mem_store (by omega) (by assumption), withGuest_at (by assumption)]; first | done | rfl) | (rw [mem_store (by omega) (by assumption), withGuest_eq (by assumption) rfl]; first | done | rfl) | (rw [mem_store (by omega) (by assumption), withGuest_eq (by assumption) (putOut_guests _ _)]; first | done | rfl) | (rw [mem_load (by omega) (by assumption), withGuest_at (by assumption)]; first | done | rfl) | (rw [mem_load (by omega) (by assumption), withGuest_eq (by assumption) rfl]; first | done | rfl) | (rw [mem_load (by omega) (by assumption), withGuest_eq (by assumption) (putOut_guests _ _)]; first | done | rfl) | (rw [out_call (by omega), withGuest_at (by assumption)]; first | done | rfl) | (rw [out_call (by omega), withGuest_eq (by assumption) rfl]; first | done | rfl) | (rw [out_call (by omega), withGuest_eq (by assumption) (putOut_guests _ _)]; first | done | rfl) | (rw [out_trap (by omega) (by assumption), withGuest_at (by assumption)]; first | done | rfl) | (rw [out_trap (by omega) (by assumption), withGuest_eq (by assumption) rfl]; first | done | rfl) | (rw [out_trap (by omega) (by assumption), withGuest_eq (by assumption) (putOut_guests _ _)]; first | done | rfl) | (rw [out_out (by omega) (by assumption), withGuest_at (by assumption)]; first | done | rfl) | (rw [out_out (by omega) (by assumption), withGuest_eq (by assumption) rfl]; first | done | rfl) | (rw [out_out (by omega) (by assumption), withGuest_eq (by assumption) (putOut_guests _ _)]; first | done | rfl) | (rw [out_halt (by omega) (by assumption), withGuest_at (by assumption)]; first | done | rfl) | (rw [out_halt (by omega) (by assumption), withGuest_eq (by assumption) rfl]; first | done | rfl) | (rw [out_halt (by omega) (by assumption), withGuest_eq (by assumption) (putOut_guests _ _)]; first | done | rfl)))) : p := h
theorem k1_impl_BareStep {p : Prop} (h : p := by clear S; (first | (rw [bareStep_no (.inl (by assumption))]; done) | (rw [bareStep_no (.inr (.inl (by assumption)))]; done) | (rw [bareStep_no (.inr (.inr (by omega)))]; done) | (rw [bareStep_yes (by assumption) (by assumption) (by omega)]; done))) : p := h
theorem c_impl_BareStep (w0 : World) (b : TBare) (pb : PBare) (hb : RD w0 b pb) (g : Int) : Calls Tryz.prog 88 [GT.val b pb, I g].toArray w0 (Ret2 NoB w0 ((f_bareStep b g).1 : TBare) ((f_bareStep b g).2 : Bool)) := by
 refine Calls.run NoB Tryz.func88 ?_
 intro ac β S
 have hleb_mem : b.mem.length ≤ 4194304 := LRd.le (RBare.mem (d := b) hb)
 have hleb_guests : b.guests.length ≤ 4194304 := LRd.le (RBare.guests (d := b) hb)
 have hleb_outs : b.outs.length ≤ 4194304 := LRd.le (RBare.outs (d := b) hb)
 refine S.go 11 .nil fun ac w β S => S.K2 (r := (f_guestAt b g).1) (r' := (f_guestAt b g).2) (d := 17) (c_impl_GuestAt w b pb (S.rd (S.arg hb)) g) fun ac w N q1 q2 F3 F4 S up o5 o6 d7 d8 d9 => ?_
 clear up d7
 clear d8
 have b10 := wantOf_bd (f_guestAt b g).1
 refine S.gb 22 (.cons (Q_call fun w hw => c_impl_WantOf w (f_guestAt b g).1 q1 (rd_of o5.rn hw)) (.cons (Q_call fun w hw => c_impl_BareOk w b pb (rd_of (S.arg hb) hw)) .nil)) (!(f_bareOk b)) (fun ac w β h11 S => ?_) (fun ac w β h11 S => ?_)
 ·have h12 := not_t h11
  refine S.go 13 .nil fun ac w β S => S.K1 (r := b) (d := 34) (c_impl_copyBare w b pb (S.rd (S.arg hb))) fun ac w N q13 F14 S up o15 d16 => ?_
  clear up d16
  refine S.gr 5 .nil [GT.val b q13, B false] fun ac w β S => ?_
  exact ret2_of (p' := ()) S (show (f_bareStep b g).1 = b from k0_impl_BareStep) (show (f_bareStep b g).2 = false from k1_impl_BareStep) rfl rfl o15 trivial
 have h17 := not_f h11
 have g18 := bareOk_t h17
 refine S.gb 4 .nil (!(f_guestAt b g).2) (fun ac w β h19 S => ?_) (fun ac w β h19 S => ?_)
 ·have h20 := not_t h19
  have g21 := guestAt_f h20
  refine S.go 9 .nil fun ac w β S => S.K1 (r := b) (d := 34) (c_impl_copyBare w b pb (S.rd (S.arg hb))) fun ac w N q22 F23 S up o24 d25 => ?_
  clear up d25
  refine S.gr 5 .nil [GT.val b q22, B false] fun ac w β S => ?_
  exact ret2_of (p' := ()) S (show (f_bareStep b g).1 = b from k0_impl_BareStep) (show (f_bareStep b g).2 = false from k1_impl_BareStep) rfl rfl o24 trivial
 have h26 := not_f h19
 have g27 := guestAt_t h26
 refine S.gd 5 .nil ((f_wantOf (f_guestAt b g).1) == 0) (fun ac w β h28 g29 S => ?_) (fun ac w β h28 g29 S => ?_)
 ·refine S.go 4 .nil fun ac w β S => S.K1 (r := b) (d := 34) (c_impl_copyBare w b pb (S.rd (S.arg hb))) fun ac w N q30 F31 S up o32 d33 => ?_
  clear up d33
  refine S.gr 5 .nil [GT.val b q30, B false] fun ac w β S => ?_
  exact ret2_of (p' := ()) S (show (f_bareStep b g).1 = b from k0_impl_BareStep) (show (f_bareStep b g).2 = false from k1_impl_BareStep) rfl rfl o32 trivial
 refine S.gd 34 (.cons (Q_call fun w hw => c_impl_Address w (f_guestAt b g).1 q1 (rd_of o5.rn hw)) (.cons (Q_call fun w hw => c_impl_InsAt w (f_guestAt b g).1.prog q1.prog (rd_of (RGuest.prog (d := (f_guestAt b g).1) o5.rn) hw) (f_guestAt b g).1.pc) .nil)) ((f_wantOf (f_guestAt b g).1) == 1) (fun ac w β h34 g35 S => ?_) (fun ac w β h34 g35 S => ?_)
 ·refine S.go 2 .nil fun ac w β S => ?_
  refine drw ?_
  refine S.draw0 (f := 7) 5 (by kernel_rfl) (by kernel_rfl) fun w S => ?_
  refine S.hq 0 [0] [] [(45, .v (GT.val b pb))] .nil fun ac S => ?_
  refine S.hq 1 [1] [] [(46, .v (I g))] .nil fun ac S => ?_
  refine S.hq 2 [2] [] [(47, .v (GT.val (f_guestAt b g).1 q1))] .nil fun ac S => ?_
  refine WD.one (i := 3) (by kernel_rfl) ?_
  refine id (S.k1 48 (c_impl_Interrupted w (f_guestAt b g).1 q1 (S.rd o5.rn)) fun ac w N q36 F37 S up o38 d39 => ?_)
  refine WD.next S up (by kernel_rfl) ?_
  replace o5 := o5.up up
  clear up d39
  refine WD.one (i := 4) (by kernel_rfl) ?_
  refine id (S.k1 49 (c_impl_WithGuest w b pb (S.rd (S.arg hb)) g (f_interrupted (f_guestAt b g).1) q36 (S.rd o38.rn)) fun ac w N q41 F42 S up o43 d44 => ?_)
  refine WD.next S up (by kernel_rfl) ?_
  replace o5 := o5.up up
  clear up d44
  refine S.sl 5 [] [] 4 [(1, GT.cells (f_withGuest b g (f_interrupted (f_guestAt b g).1)) q41)] .nil fun ac w β S => ?_
  refine S.sl 6 [] [(5, .v (B true))] 4 [] .nil fun ac w β S => ?_
  refine WD.done (by kernel_rfl) ?_ _
  refine S.ex fun S => ?_
  refine S.gr 2 .nil [GT.val (f_withGuest b g (f_interrupted (f_guestAt b g).1)) q41, B true] fun ac w β S => ?_
  exact ret2_of (p' := ()) S (show (f_bareStep b g).1 = (f_withGuest b g (f_interrupted (f_guestAt b g).1)) from k0_impl_BareStep) (show (f_bareStep b g).2 = true from k1_impl_BareStep) rfl rfl o43 trivial
 refine S.gd 7 .nil ((f_wantOf (f_guestAt b g).1) == 2) (fun ac w β h47 g48 S => ?_) (fun ac w β h47 g48 S => ?_)
 ·refine S.go 2 .nil fun ac w β S => ?_
  refine drw ?_
  refine S.draw0 (f := 7) 5 (by kernel_rfl) (by kernel_rfl) fun w S => ?_
  refine S.hq 0 [0] [] [(52, .v (GT.val b pb))] .nil fun ac S => ?_
  refine S.hq 1 [1] [] [(53, .v (I g))] .nil fun ac S => ?_
  refine S.hq 2 [2] [] [(54, .v (GT.val (f_guestAt b g).1 q1))] .nil fun ac S => ?_
  refine WD.one (i := 3) (by kernel_rfl) ?_
  refine id (S.k1 55 (c_impl_Plainly w (f_guestAt b g).1 q1 (S.rd o5.rn)) fun ac w N q49 F50 S up o51 d52 => ?_)
  refine WD.next S up (by kernel_rfl) ?_
  replace o5 := o5.up up
  clear up d52
  refine WD.one (i := 4) (by kernel_rfl) ?_
  refine id (S.k1 56 (c_impl_WithGuest w b pb (S.rd (S.arg hb)) g (f_plainly (f_guestAt b g).1) q49 (S.rd o51.rn)) fun ac w N q54 F55 S up o56 d57 => ?_)
  refine WD.next S up (by kernel_rfl) ?_
  replace o5 := o5.up up
  clear up d57
  refine S.sl 5 [] [] 4 [(1, GT.cells (f_withGuest b g (f_plainly (f_guestAt b g).1)) q54)] .nil fun ac w β S => ?_
  refine S.sl 6 [] [(5, .v (B true))] 4 [] .nil fun ac w β S => ?_
  refine WD.done (by kernel_rfl) ?_ _
  refine S.ex fun S => ?_
  refine S.gr 2 .nil [GT.val (f_withGuest b g (f_plainly (f_guestAt b g).1)) q54, B true] fun ac w β S => ?_
  exact ret2_of (p' := ()) S (show (f_bareStep b g).1 = (f_withGuest b g (f_plainly (f_guestAt b g).1)) from k0_impl_BareStep) (show (f_bareStep b g).2 = true from k1_impl_BareStep) rfl rfl o56 trivial
 refine S.gd 8 .nil ((f_wantOf (f_guestAt b g).1) == 3) (fun ac w β h60 g61 S => ?_) (fun ac w β h60 g61 S => ?_)
 ·refine S.gb 23 (.cons (Q_call fun w hw => c_impl_AddrPage w (f_address (f_guestAt b g).1) (address_in64 o5.rn)) (.cons (Q_call fun w hw => c_impl_NeedOf w ((f_wantOf (f_guestAt b g).1) == 4)) (.cons (Q_call fun w hw => c_impl_WalkInner w (f_guestAt b g).1.live q1.live (rd_of (RGuest.live (d := (f_guestAt b g).1) o5.rn) hw) (f_addrPage (f_address (f_guestAt b g).1)) (f_needOf ((f_wantOf (f_guestAt b g).1) == 4))) .nil))) (!(f_walkInner (f_guestAt b g).1.live (f_addrPage (f_address (f_guestAt b g).1)) (f_needOf ((f_wantOf (f_guestAt b g).1) == 4))).2) (fun ac w β h62 S => ?_) (fun ac w β h62 S => ?_)
  ·have h63 := not_t h62
   refine S.go 2 .nil fun ac w β S => ?_
   refine drw ?_
   refine S.draw0 (f := 11) 9 (by kernel_rfl) (by kernel_rfl) fun w S => ?_
   refine S.hq 0 [0] [] [(75, .v (GT.val b pb))] .nil fun ac S => ?_
   refine S.hq 1 [1] [] [(76, .v (I g))] .nil fun ac S => ?_
   refine S.hq 2 [2] [] [(77, .v (GT.val (f_guestAt b g).1 q1))] .nil fun ac S => ?_
   refine S.hq 3 [3] [] [(78, .v (I (f_address (f_guestAt b g).1)))] .nil fun ac S => ?_
   refine S.hq 5 [5] [] [(80, .v (B ((f_wantOf (f_guestAt b g).1) == 4)))] .nil fun ac S => ?_
   refine S.sq 4 [] [(79, .v (I (f_addrPage (f_address (f_guestAt b g).1))))] 4 [] (.cons (Q_call fun w hw => c_impl_AddrPage w (f_address (f_guestAt b g).1) (address_in64 o5.rn)) .nil) fun ac w β S => ?_
   refine S.sq 6 [] [(81, .v (GT.val (f_faultExit (f_addrPage (f_address (f_guestAt b g).1)) ((f_wantOf (f_guestAt b g).1) == 4)) ()))] 4 [] (.cons (Q_call fun w hw => c_impl_FaultExit w (f_addrPage (f_address (f_guestAt b g).1)) (addrPage_in64 (address_in64 o5.rn)) ((f_wantOf (f_guestAt b g).1) == 4)) .nil) fun ac w β S => ?_
   refine WD.one (i := 7) (by kernel_rfl) ?_
   refine id (S.k1 82 (c_impl_Stopped w (f_guestAt b g).1 q1 (S.rd o5.rn) (f_faultExit (f_addrPage (f_address (f_guestAt b g).1)) ((f_wantOf (f_guestAt b g).1) == 4)) (faultExit_r (addrPage_in64 (address_in64 o5.rn)) ((f_wantOf (f_guestAt b g).1) == 4))) fun ac w N q64 F65 S up o66 d67 => ?_)
   refine WD.next S up (by kernel_rfl) ?_
   replace o5 := o5.up up
   clear up d67
   refine WD.one (i := 8) (by kernel_rfl) ?_
   refine id (S.k1 83 (c_impl_WithGuest w b pb (S.rd (S.arg hb)) g ({ (f_guestAt b g).1 with exit := (f_faultExit (f_addrPage (f_address (f_guestAt b g).1)) ((f_wantOf (f_guestAt b g).1) == 4)) } : TGuest) q64 (S.rd o66.rn)) fun ac w N q69 F70 S up o71 d72 => ?_)
   refine WD.next S up (by kernel_rfl) ?_
   replace o5 := o5.up up
   clear up d72
   refine S.sl 9 [] [] 4 [(1, GT.cells (f_withGuest b g ({ (f_guestAt b g).1 with exit := (f_faultExit (f_addrPage (f_address (f_guestAt b g).1)) ((f_wantOf (f_guestAt b g).1) == 4)) } : TGuest)) q69)] .nil fun ac w β S => ?_
   refine S.sl 10 [] [(5, .v (B true))] 4 [] .nil fun ac w β S => ?_
   refine WD.done (by kernel_rfl) ?_ _
   refine S.ex fun S => ?_
   refine S.gr 2 .nil [GT.val (f_withGuest b g ({ (f_guestAt b g).1 with exit := (f_faultExit (f_addrPage (f_address (f_guestAt b g).1)) ((f_wantOf (f_guestAt b g).1) == 4)) } : TGuest)) q69, B true] fun ac w β S => ?_
   exact ret2_of (p' := ()) S (show (f_bareStep b g).1 = (f_withGuest b g ({ (f_guestAt b g).1 with exit := (f_faultExit (f_addrPage (f_address (f_guestAt b g).1)) ((f_wantOf (f_guestAt b g).1) == 4)) } : TGuest)) from k0_impl_BareStep) (show (f_bareStep b g).2 = true from k1_impl_BareStep) rfl rfl o71 trivial
  have h75 := not_f h62
  refine S.gd 7 .nil ((f_wantOf (f_guestAt b g).1) == 4) (fun ac w β h76 g77 S => ?_) (fun ac w β h76 g77 S => ?_)
  ·refine S.go 2 .nil fun ac w β S => ?_
   refine drw ?_
   refine S.draw0 (f := 10) 9 (by kernel_rfl) (by kernel_rfl) fun w S => ?_
   refine S.hq 0 [0] [] [(86, .p 0 0)] .nil fun ac S => ?_
   refine S.hq 1 [1] [] [(87, .v (slv b.mem.length pb.mem.1))] .nil fun ac S => ?_
   refine S.hq 2 [2] [] [(88, .v (I (f_walkInner (f_guestAt b g).1.live (f_addrPage (f_address (f_guestAt b g).1)) (f_needOf ((f_wantOf (f_guestAt b g).1) == 4))).1))] .nil fun ac S => ?_
   refine S.hq 3 [3] [] [(89, .v (I (f_address (f_guestAt b g).1)))] .nil fun ac S => ?_
   refine S.hq 5 [5] [] [(91, .p 2 1)] .nil fun ac S => ?_
   refine S.hq 6 [6] [] [(92, .v (I (f_guestAt b g).1.acc))] .nil fun ac S => ?_
   refine S.sq 4 [] [(90, .v (I (f_addrCell (f_address (f_guestAt b g).1))))] 4 [] (.cons (Q_call fun w hw => c_impl_AddrCell w (f_address (f_guestAt b g).1) (address_in64 o5.rn)) .nil) fun ac w β S => ?_
   refine WD.one (i := 7) (by kernel_rfl) ?_
   refine id (S.k1 93 (c_impl_WithCell w b.mem pb.mem (S.rd (RBare.mem (d := b) (S.arg hb))) (f_walkInner (f_guestAt b g).1.live (f_addrPage (f_address (f_guestAt b g).1)) (f_needOf ((f_wantOf (f_guestAt b g).1) == 4))).1 (f_addrCell (f_address (f_guestAt b g).1)) (f_guestAt b g).1.acc (RGuest.acc (d := (f_guestAt b g).1) o5.rn)) fun ac w N q78 F79 S up o80 d81 => ?_)
   refine WD.next S up (by kernel_rfl) ?_
   replace o5 := o5.up up
   clear up d81
   refine S.hq 8 [8] [] [(94, .p 0 0)] .nil fun ac S => ?_
   refine S.sl 9 [] [] 4 [(0, [slv (f_withCell b.mem (f_walkInner (f_guestAt b g).1.live (f_addrPage (f_address (f_guestAt b g).1)) (f_needOf ((f_wantOf (f_guestAt b g).1) == 4))).1 (f_addrCell (f_address (f_guestAt b g).1)) (f_guestAt b g).1.acc).length q78.1, slv b.guests.length pb.guests.1, slv b.outs.length pb.outs.1, I b.pend])] .nil fun ac w β S => ?_
   refine WD.done (by kernel_rfl) ?_ _
   refine S.ex fun S => ?_
   refine S.go 2 .nil fun ac w β S => ?_
   refine drw ?_
   refine S.draw0 (f := 7) 5 (by kernel_rfl) (by kernel_rfl) fun w S => ?_
   refine S.hq 0 [0] [] [(95, .v (GT.val (⟨(f_withCell b.mem (f_walkInner (f_guestAt b g).1.live (f_addrPage (f_address (f_guestAt b g).1)) (f_needOf ((f_wantOf (f_guestAt b g).1) == 4))).1 (f_addrCell (f_address (f_guestAt b g).1)) (f_guestAt b g).1.acc), b.guests, b.outs, b.pend⟩ : TBare) (⟨q78, pb.guests, pb.outs⟩ : PBare)))] .nil fun ac S => ?_
   refine S.hq 1 [1] [] [(96, .v (I g))] .nil fun ac S => ?_
   refine S.hq 2 [2] [] [(97, .v (GT.val (f_guestAt b g).1 q1))] .nil fun ac S => ?_
   refine WD.one (i := 3) (by kernel_rfl) ?_
   refine id (S.k1 98 (c_impl_Stored w (f_guestAt b g).1 q1 (S.rd o5.rn)) fun ac w N q83 F84 S up o85 d86 => ?_)
   refine WD.next S up (by kernel_rfl) ?_
   replace o5 := o5.up up
   replace o80 := o80.up up
   clear up d86
   refine WD.one (i := 4) (by kernel_rfl) ?_
   refine id (S.k1 99 (c_impl_WithGuest w (⟨(f_withCell b.mem (f_walkInner (f_guestAt b g).1.live (f_addrPage (f_address (f_guestAt b g).1)) (f_needOf ((f_wantOf (f_guestAt b g).1) == 4))).1 (f_addrCell (f_address (f_guestAt b g).1)) (f_guestAt b g).1.acc), b.guests, b.outs, b.pend⟩ : TBare) (⟨q78, pb.guests, pb.outs⟩ : PBare) (S.rd (show GT.rd KK _ _ (⟨(f_withCell b.mem (f_walkInner (f_guestAt b g).1.live (f_addrPage (f_address (f_guestAt b g).1)) (f_needOf ((f_wantOf (f_guestAt b g).1) == 4))).1 (f_addrCell (f_address (f_guestAt b g).1)) (f_guestAt b g).1.acc), b.guests, b.outs, b.pend⟩ : TBare) (⟨q78, pb.guests, pb.outs⟩ : PBare) from ⟨o80.rn, (RBare.guests (p := pb) (d := b) (S.arg hb)), (RBare.outs (p := pb) (d := b) (S.arg hb)), (RBare.pend (d := b) (S.arg hb))⟩)) g (f_moved (f_guestAt b g).1) q83 (S.rd o85.rn)) fun ac w N q89 F90 S up o91 d92 => ?_)
   refine WD.next S up (by kernel_rfl) ?_
   replace o5 := o5.up up
   clear up d92
   refine S.sl 5 [] [] 4 [(1, GT.cells (f_withGuest (⟨(f_withCell b.mem (f_walkInner (f_guestAt b g).1.live (f_addrPage (f_address (f_guestAt b g).1)) (f_needOf ((f_wantOf (f_guestAt b g).1) == 4))).1 (f_addrCell (f_address (f_guestAt b g).1)) (f_guestAt b g).1.acc), b.guests, b.outs, b.pend⟩ : TBare) g (f_moved (f_guestAt b g).1)) q89)] .nil fun ac w β S => ?_
   refine S.sl 6 [] [(5, .v (B true))] 4 [] .nil fun ac w β S => ?_
   refine WD.done (by kernel_rfl) ?_ _
   refine S.ex fun S => ?_
   refine S.gr 2 .nil [GT.val (f_withGuest (⟨(f_withCell b.mem (f_walkInner (f_guestAt b g).1.live (f_addrPage (f_address (f_guestAt b g).1)) (f_needOf ((f_wantOf (f_guestAt b g).1) == 4))).1 (f_addrCell (f_address (f_guestAt b g).1)) (f_guestAt b g).1.acc), b.guests, b.outs, b.pend⟩ : TBare) g (f_moved (f_guestAt b g).1)) q89, B true] fun ac w β S => ?_
   exact ret2_of (p' := ()) S (show (f_bareStep b g).1 = (f_withGuest (⟨(f_withCell b.mem (f_walkInner (f_guestAt b g).1.live (f_addrPage (f_address (f_guestAt b g).1)) (f_needOf ((f_wantOf (f_guestAt b g).1) == 4))).1 (f_addrCell (f_address (f_guestAt b g).1)) (f_guestAt b g).1.acc), b.guests, b.outs, b.pend⟩ : TBare) g (f_moved (f_guestAt b g).1)) from k0_impl_BareStep) (show (f_bareStep b g).2 = true from k1_impl_BareStep) rfl rfl o91 trivial
  refine S.go 5 .nil fun ac w β S => ?_
  refine drw ?_
  refine S.draw0 (f := 13) 11 (by kernel_rfl) (by kernel_rfl) fun w S => ?_
  refine S.hq 0 [0] [] [(100, .v (GT.val b pb))] .nil fun ac S => ?_
  refine S.hq 1 [1] [] [(101, .v (I g))] .nil fun ac S => ?_
  refine S.hq 2 [2] [] [(102, .v (GT.val (f_guestAt b g).1 q1))] .nil fun ac S => ?_
  refine S.hq 3 [3] [] [(103, .p 0 0)] .nil fun ac S => ?_
  refine S.hq 4 [4] [] [(104, .v (slv b.mem.length pb.mem.1))] .nil fun ac S => ?_
  refine S.hq 5 [5] [] [(105, .v (I (f_walkInner (f_guestAt b g).1.live (f_addrPage (f_address (f_guestAt b g).1)) (f_needOf ((f_wantOf (f_guestAt b g).1) == 4))).1))] .nil fun ac S => ?_
  refine S.hq 6 [6] [] [(106, .v (I (f_address (f_guestAt b g).1)))] .nil fun ac S => ?_
  refine S.sq 7 [] [(107, .v (I (f_addrCell (f_address (f_guestAt b g).1))))] 4 [] (.cons (Q_call fun w hw => c_impl_AddrCell w (f_address (f_guestAt b g).1) (address_in64 o5.rn)) .nil) fun ac w β S => ?_
  refine S.sq 8 [] [(108, .v (I (f_cellAt b.mem (f_walkInner (f_guestAt b g).1.live (f_addrPage (f_address (f_guestAt b g).1)) (f_needOf ((f_wantOf (f_guestAt b g).1) == 4))).1 (f_addrCell (f_address (f_guestAt b g).1)))))] 4 [] (.cons (Q_call fun w hw => c_impl_CellAt w b.mem pb.mem (rd_of (RBare.mem (d := b) (S.arg hb)) hw) (f_walkInner (f_guestAt b g).1.live (f_addrPage (f_address (f_guestAt b g).1)) (f_needOf ((f_wantOf (f_guestAt b g).1) == 4))).1 (f_addrCell (f_address (f_guestAt b g).1))) .nil) fun ac w β S => ?_
  refine WD.one (i := 9) (by kernel_rfl) ?_
  refine id (S.k1 109 (c_impl_Loaded w (f_guestAt b g).1 q1 (S.rd o5.rn) (f_cellAt b.mem (f_walkInner (f_guestAt b g).1.live (f_addrPage (f_address (f_guestAt b g).1)) (f_needOf ((f_wantOf (f_guestAt b g).1) == 4))).1 (f_addrCell (f_address (f_guestAt b g).1))) (cellAt_in64 (RBare.mem (d := b) (S.arg hb)) (f_walkInner (f_guestAt b g).1.live (f_addrPage (f_address (f_guestAt b g).1)) (f_needOf ((f_wantOf (f_guestAt b g).1) == 4))).1 (f_addrCell (f_address (f_guestAt b g).1)))) fun ac w N q96 F97 S up o98 d99 => ?_)
  refine WD.next S up (by kernel_rfl) ?_
  replace o5 := o5.up up
  clear up d99
  refine WD.one (i := 10) (by kernel_rfl) ?_
  refine id (S.k1 110 (c_impl_WithGuest w b pb (S.rd (S.arg hb)) g (f_loaded (f_guestAt b g).1 (f_cellAt b.mem (f_walkInner (f_guestAt b g).1.live (f_addrPage (f_address (f_guestAt b g).1)) (f_needOf ((f_wantOf (f_guestAt b g).1) == 4))).1 (f_addrCell (f_address (f_guestAt b g).1)))) q96 (S.rd o98.rn)) fun ac w N q101 F102 S up o103 d104 => ?_)
  refine WD.next S up (by kernel_rfl) ?_
  replace o5 := o5.up up
  clear up d104
  refine S.sl 11 [] [] 4 [(1, GT.cells (f_withGuest b g (f_loaded (f_guestAt b g).1 (f_cellAt b.mem (f_walkInner (f_guestAt b g).1.live (f_addrPage (f_address (f_guestAt b g).1)) (f_needOf ((f_wantOf (f_guestAt b g).1) == 4))).1 (f_addrCell (f_address (f_guestAt b g).1))))) q101)] .nil fun ac w β S => ?_
  refine S.sl 12 [] [(5, .v (B true))] 4 [] .nil fun ac w β S => ?_
  refine WD.done (by kernel_rfl) ?_ _
  refine S.ex fun S => ?_
  refine S.gr 2 .nil [GT.val (f_withGuest b g (f_loaded (f_guestAt b g).1 (f_cellAt b.mem (f_walkInner (f_guestAt b g).1.live (f_addrPage (f_address (f_guestAt b g).1)) (f_needOf ((f_wantOf (f_guestAt b g).1) == 4))).1 (f_addrCell (f_address (f_guestAt b g).1))))) q101, B true] fun ac w β S => ?_
  exact ret2_of (p' := ()) S (show (f_bareStep b g).1 = (f_withGuest b g (f_loaded (f_guestAt b g).1 (f_cellAt b.mem (f_walkInner (f_guestAt b g).1.live (f_addrPage (f_address (f_guestAt b g).1)) (f_needOf ((f_wantOf (f_guestAt b g).1) == 4))).1 (f_addrCell (f_address (f_guestAt b g).1))))) from k0_impl_BareStep) (show (f_bareStep b g).2 = true from k1_impl_BareStep) rfl rfl o103 trivial
 refine S.gd 6 .nil ((f_wantOf (f_guestAt b g).1) == 4) (fun ac w β h107 g108 S => ?_) (fun ac w β h107 g108 S => ?_)
 ·refine S.gb 20 (.cons (Q_call fun w hw => c_impl_AddrPage w (f_address (f_guestAt b g).1) (address_in64 o5.rn)) (.cons (Q_call fun w hw => c_impl_NeedOf w ((f_wantOf (f_guestAt b g).1) == 4)) (.cons (Q_call fun w hw => c_impl_WalkInner w (f_guestAt b g).1.live q1.live (rd_of (RGuest.live (d := (f_guestAt b g).1) o5.rn) hw) (f_addrPage (f_address (f_guestAt b g).1)) (f_needOf ((f_wantOf (f_guestAt b g).1) == 4))) .nil))) (!(f_walkInner (f_guestAt b g).1.live (f_addrPage (f_address (f_guestAt b g).1)) (f_needOf ((f_wantOf (f_guestAt b g).1) == 4))).2) (fun ac w β h109 S => ?_) (fun ac w β h109 S => ?_)
  ·have h110 := not_t h109
   refine S.go 2 .nil fun ac w β S => ?_
   refine drw ?_
   refine S.draw0 (f := 11) 9 (by kernel_rfl) (by kernel_rfl) fun w S => ?_
   refine S.hq 0 [0] [] [(75, .v (GT.val b pb))] .nil fun ac S => ?_
   refine S.hq 1 [1] [] [(76, .v (I g))] .nil fun ac S => ?_
   refine S.hq 2 [2] [] [(77, .v (GT.val (f_guestAt b g).1 q1))] .nil fun ac S => ?_
   refine S.hq 3 [3] [] [(78, .v (I (f_address (f_guestAt b g).1)))] .nil fun ac S => ?_
   refine S.hq 5 [5] [] [(80, .v (B ((f_wantOf (f_guestAt b g).1) == 4)))] .nil fun ac S => ?_
   refine S.sq 4 [] [(79, .v (I (f_addrPage (f_address (f_guestAt b g).1))))] 4 [] (.cons (Q_call fun w hw => c_impl_AddrPage w (f_address (f_guestAt b g).1) (address_in64 o5.rn)) .nil) fun ac w β S => ?_
   refine S.sq 6 [] [(81, .v (GT.val (f_faultExit (f_addrPage (f_address (f_guestAt b g).1)) ((f_wantOf (f_guestAt b g).1) == 4)) ()))] 4 [] (.cons (Q_call fun w hw => c_impl_FaultExit w (f_addrPage (f_address (f_guestAt b g).1)) (addrPage_in64 (address_in64 o5.rn)) ((f_wantOf (f_guestAt b g).1) == 4)) .nil) fun ac w β S => ?_
   refine WD.one (i := 7) (by kernel_rfl) ?_
   refine id (S.k1 82 (c_impl_Stopped w (f_guestAt b g).1 q1 (S.rd o5.rn) (f_faultExit (f_addrPage (f_address (f_guestAt b g).1)) ((f_wantOf (f_guestAt b g).1) == 4)) (faultExit_r (addrPage_in64 (address_in64 o5.rn)) ((f_wantOf (f_guestAt b g).1) == 4))) fun ac w N q111 F112 S up o113 d114 => ?_)
   refine WD.next S up (by kernel_rfl) ?_
   replace o5 := o5.up up
   clear up d114
   refine WD.one (i := 8) (by kernel_rfl) ?_
   refine id (S.k1 83 (c_impl_WithGuest w b pb (S.rd (S.arg hb)) g ({ (f_guestAt b g).1 with exit := (f_faultExit (f_addrPage (f_address (f_guestAt b g).1)) ((f_wantOf (f_guestAt b g).1) == 4)) } : TGuest) q111 (S.rd o113.rn)) fun ac w N q116 F117 S up o118 d119 => ?_)
   refine WD.next S up (by kernel_rfl) ?_
   replace o5 := o5.up up
   clear up d119
   refine S.sl 9 [] [] 4 [(1, GT.cells (f_withGuest b g ({ (f_guestAt b g).1 with exit := (f_faultExit (f_addrPage (f_address (f_guestAt b g).1)) ((f_wantOf (f_guestAt b g).1) == 4)) } : TGuest)) q116)] .nil fun ac w β S => ?_
   refine S.sl 10 [] [(5, .v (B true))] 4 [] .nil fun ac w β S => ?_
   refine WD.done (by kernel_rfl) ?_ _
   refine S.ex fun S => ?_
   refine S.gr 2 .nil [GT.val (f_withGuest b g ({ (f_guestAt b g).1 with exit := (f_faultExit (f_addrPage (f_address (f_guestAt b g).1)) ((f_wantOf (f_guestAt b g).1) == 4)) } : TGuest)) q116, B true] fun ac w β S => ?_
   exact ret2_of (p' := ()) S (show (f_bareStep b g).1 = (f_withGuest b g ({ (f_guestAt b g).1 with exit := (f_faultExit (f_addrPage (f_address (f_guestAt b g).1)) ((f_wantOf (f_guestAt b g).1) == 4)) } : TGuest)) from k0_impl_BareStep) (show (f_bareStep b g).2 = true from k1_impl_BareStep) rfl rfl o118 trivial
  have h122 := not_f h109
  refine S.go 7 .nil fun ac w β S => ?_
  refine S.lt 84 h107 fun S => ?_
  refine S.go 2 .nil fun ac w β S => ?_
  refine drw ?_
  refine S.draw0 (f := 10) 9 (by kernel_rfl) (by kernel_rfl) fun w S => ?_
  refine S.hq 0 [0] [] [(86, .p 0 0)] .nil fun ac S => ?_
  refine S.hq 1 [1] [] [(87, .v (slv b.mem.length pb.mem.1))] .nil fun ac S => ?_
  refine S.hq 2 [2] [] [(88, .v (I (f_walkInner (f_guestAt b g).1.live (f_addrPage (f_address (f_guestAt b g).1)) (f_needOf ((f_wantOf (f_guestAt b g).1) == 4))).1))] .nil fun ac S => ?_
  refine S.hq 3 [3] [] [(89, .v (I (f_address (f_guestAt b g).1)))] .nil fun ac S => ?_
  refine S.hq 5 [5] [] [(91, .p 2 1)] .nil fun ac S => ?_
  refine S.hq 6 [6] [] [(92, .v (I (f_guestAt b g).1.acc))] .nil fun ac S => ?_
  refine S.sq 4 [] [(90, .v (I (f_addrCell (f_address (f_guestAt b g).1))))] 4 [] (.cons (Q_call fun w hw => c_impl_AddrCell w (f_address (f_guestAt b g).1) (address_in64 o5.rn)) .nil) fun ac w β S => ?_
  refine WD.one (i := 7) (by kernel_rfl) ?_
  refine id (S.k1 93 (c_impl_WithCell w b.mem pb.mem (S.rd (RBare.mem (d := b) (S.arg hb))) (f_walkInner (f_guestAt b g).1.live (f_addrPage (f_address (f_guestAt b g).1)) (f_needOf ((f_wantOf (f_guestAt b g).1) == 4))).1 (f_addrCell (f_address (f_guestAt b g).1)) (f_guestAt b g).1.acc (RGuest.acc (d := (f_guestAt b g).1) o5.rn)) fun ac w N q123 F124 S up o125 d126 => ?_)
  refine WD.next S up (by kernel_rfl) ?_
  replace o5 := o5.up up
  clear up d126
  refine S.hq 8 [8] [] [(94, .p 0 0)] .nil fun ac S => ?_
  refine S.sl 9 [] [] 4 [(0, [slv (f_withCell b.mem (f_walkInner (f_guestAt b g).1.live (f_addrPage (f_address (f_guestAt b g).1)) (f_needOf ((f_wantOf (f_guestAt b g).1) == 4))).1 (f_addrCell (f_address (f_guestAt b g).1)) (f_guestAt b g).1.acc).length q123.1, slv b.guests.length pb.guests.1, slv b.outs.length pb.outs.1, I b.pend])] .nil fun ac w β S => ?_
  refine WD.done (by kernel_rfl) ?_ _
  refine S.ex fun S => ?_
  refine S.go 2 .nil fun ac w β S => ?_
  refine drw ?_
  refine S.draw0 (f := 7) 5 (by kernel_rfl) (by kernel_rfl) fun w S => ?_
  refine S.hq 0 [0] [] [(95, .v (GT.val (⟨(f_withCell b.mem (f_walkInner (f_guestAt b g).1.live (f_addrPage (f_address (f_guestAt b g).1)) (f_needOf ((f_wantOf (f_guestAt b g).1) == 4))).1 (f_addrCell (f_address (f_guestAt b g).1)) (f_guestAt b g).1.acc), b.guests, b.outs, b.pend⟩ : TBare) (⟨q123, pb.guests, pb.outs⟩ : PBare)))] .nil fun ac S => ?_
  refine S.hq 1 [1] [] [(96, .v (I g))] .nil fun ac S => ?_
  refine S.hq 2 [2] [] [(97, .v (GT.val (f_guestAt b g).1 q1))] .nil fun ac S => ?_
  refine WD.one (i := 3) (by kernel_rfl) ?_
  refine id (S.k1 98 (c_impl_Stored w (f_guestAt b g).1 q1 (S.rd o5.rn)) fun ac w N q128 F129 S up o130 d131 => ?_)
  refine WD.next S up (by kernel_rfl) ?_
  replace o5 := o5.up up
  replace o125 := o125.up up
  clear up d131
  refine WD.one (i := 4) (by kernel_rfl) ?_
  refine id (S.k1 99 (c_impl_WithGuest w (⟨(f_withCell b.mem (f_walkInner (f_guestAt b g).1.live (f_addrPage (f_address (f_guestAt b g).1)) (f_needOf ((f_wantOf (f_guestAt b g).1) == 4))).1 (f_addrCell (f_address (f_guestAt b g).1)) (f_guestAt b g).1.acc), b.guests, b.outs, b.pend⟩ : TBare) (⟨q123, pb.guests, pb.outs⟩ : PBare) (S.rd (show GT.rd KK _ _ (⟨(f_withCell b.mem (f_walkInner (f_guestAt b g).1.live (f_addrPage (f_address (f_guestAt b g).1)) (f_needOf ((f_wantOf (f_guestAt b g).1) == 4))).1 (f_addrCell (f_address (f_guestAt b g).1)) (f_guestAt b g).1.acc), b.guests, b.outs, b.pend⟩ : TBare) (⟨q123, pb.guests, pb.outs⟩ : PBare) from ⟨o125.rn, (RBare.guests (p := pb) (d := b) (S.arg hb)), (RBare.outs (p := pb) (d := b) (S.arg hb)), (RBare.pend (d := b) (S.arg hb))⟩)) g (f_moved (f_guestAt b g).1) q128 (S.rd o130.rn)) fun ac w N q134 F135 S up o136 d137 => ?_)
  refine WD.next S up (by kernel_rfl) ?_
  replace o5 := o5.up up
  clear up d137
  refine S.sl 5 [] [] 4 [(1, GT.cells (f_withGuest (⟨(f_withCell b.mem (f_walkInner (f_guestAt b g).1.live (f_addrPage (f_address (f_guestAt b g).1)) (f_needOf ((f_wantOf (f_guestAt b g).1) == 4))).1 (f_addrCell (f_address (f_guestAt b g).1)) (f_guestAt b g).1.acc), b.guests, b.outs, b.pend⟩ : TBare) g (f_moved (f_guestAt b g).1)) q134)] .nil fun ac w β S => ?_
  refine S.sl 6 [] [(5, .v (B true))] 4 [] .nil fun ac w β S => ?_
  refine WD.done (by kernel_rfl) ?_ _
  refine S.ex fun S => ?_
  refine S.gr 2 .nil [GT.val (f_withGuest (⟨(f_withCell b.mem (f_walkInner (f_guestAt b g).1.live (f_addrPage (f_address (f_guestAt b g).1)) (f_needOf ((f_wantOf (f_guestAt b g).1) == 4))).1 (f_addrCell (f_address (f_guestAt b g).1)) (f_guestAt b g).1.acc), b.guests, b.outs, b.pend⟩ : TBare) g (f_moved (f_guestAt b g).1)) q134, B true] fun ac w β S => ?_
  exact ret2_of (p' := ()) S (show (f_bareStep b g).1 = (f_withGuest (⟨(f_withCell b.mem (f_walkInner (f_guestAt b g).1.live (f_addrPage (f_address (f_guestAt b g).1)) (f_needOf ((f_wantOf (f_guestAt b g).1) == 4))).1 (f_addrCell (f_address (f_guestAt b g).1)) (f_guestAt b g).1.acc), b.guests, b.outs, b.pend⟩ : TBare) g (f_moved (f_guestAt b g).1)) from k0_impl_BareStep) (show (f_bareStep b g).2 = true from k1_impl_BareStep) rfl rfl o136 trivial
 refine S.gd 7 .nil ((f_wantOf (f_guestAt b g).1) == 6) (fun ac w β h141 g142 S => ?_) (fun ac w β h141 g142 S => ?_)
 ·refine S.go 2 .nil fun ac w β S => ?_
  refine drw ?_
  refine S.draw0 (f := 10) 8 (by kernel_rfl) (by kernel_rfl) fun w S => ?_
  refine S.hq 0 [0] [] [(113, .v (GT.val b pb))] .nil fun ac S => ?_
  refine S.hq 1 [1] [] [(114, .v (I g))] .nil fun ac S => ?_
  refine S.hq 2 [2] [] [(115, .v (GT.val (f_guestAt b g).1 q1))] .nil fun ac S => ?_
  refine S.hq 3 [3] [] [(116, .p 3 1)] .nil fun ac S => ?_
  refine S.hq 4 [4] [] [(117, .v (I (f_insAt (f_guestAt b g).1.prog (f_guestAt b g).1.pc).x))] .nil fun ac S => ?_
  refine S.sq 5 [] [(118, .v (GT.val (f_callExit (f_insAt (f_guestAt b g).1.prog (f_guestAt b g).1.pc).x) ()))] 4 [] (.cons (Q_call fun w hw => c_impl_CallExit w (f_insAt (f_guestAt b g).1.prog (f_guestAt b g).1.pc).x (RIns.x (d := (f_insAt (f_guestAt b g).1.prog (f_guestAt b g).1.pc)) (insAt_r (RGuest.prog (d := (f_guestAt b g).1) o5.rn) (f_guestAt b g).1.pc))) .nil) fun ac w β S => ?_
  refine WD.one (i := 6) (by kernel_rfl) ?_
  refine id (S.k1 119 (c_impl_Stopped w (f_guestAt b g).1 q1 (S.rd o5.rn) (f_callExit (f_insAt (f_guestAt b g).1.prog (f_guestAt b g).1.pc).x) (callExit_r (RIns.x (d := (f_insAt (f_guestAt b g).1.prog (f_guestAt b g).1.pc)) (insAt_r (RGuest.prog (d := (f_guestAt b g).1) o5.rn) (f_guestAt b g).1.pc)))) fun ac w N q143 F144 S up o145 d146 => ?_)
  refine WD.next S up (by kernel_rfl) ?_
  replace o5 := o5.up up
  clear up d146
  refine WD.one (i := 7) (by kernel_rfl) ?_
  refine id (S.k1 120 (c_impl_WithGuest w b pb (S.rd (S.arg hb)) g ({ (f_guestAt b g).1 with exit := (f_callExit (f_insAt (f_guestAt b g).1.prog (f_guestAt b g).1.pc).x) } : TGuest) q143 (S.rd o145.rn)) fun ac w N q148 F149 S up o150 d151 => ?_)
  refine WD.next S up (by kernel_rfl) ?_
  replace o5 := o5.up up
  clear up d151
  refine S.sl 8 [] [] 4 [(1, GT.cells (f_withGuest b g ({ (f_guestAt b g).1 with exit := (f_callExit (f_insAt (f_guestAt b g).1.prog (f_guestAt b g).1.pc).x) } : TGuest)) q148)] .nil fun ac w β S => ?_
  refine S.sl 9 [] [(5, .v (B true))] 4 [] .nil fun ac w β S => ?_
  refine WD.done (by kernel_rfl) ?_ _
  refine S.ex fun S => ?_
  refine S.gr 2 .nil [GT.val (f_withGuest b g ({ (f_guestAt b g).1 with exit := (f_callExit (f_insAt (f_guestAt b g).1.prog (f_guestAt b g).1.pc).x) } : TGuest)) q148, B true] fun ac w β S => ?_
  exact ret2_of (p' := ()) S (show (f_bareStep b g).1 = (f_withGuest b g ({ (f_guestAt b g).1 with exit := (f_callExit (f_insAt (f_guestAt b g).1.prog (f_guestAt b g).1.pc).x) } : TGuest)) from k0_impl_BareStep) (show (f_bareStep b g).2 = true from k1_impl_BareStep) rfl rfl o150 trivial
 refine S.gb 9 (.cons (Q_call fun w hw => c_impl_trapOf w (f_wantOf (f_guestAt b g).1)) (.cons (Q_call fun w hw => c_impl_HasTrap w (f_guestAt b g).1.ctl.traps (f_trapOf (f_wantOf (f_guestAt b g).1))) .nil)) (f_hasTrap (f_guestAt b g).1.ctl.traps (f_trapOf (f_wantOf (f_guestAt b g).1))) (fun ac w β h154 S => ?_) (fun ac w β h154 S => ?_)
 ·refine S.go 2 .nil fun ac w β S => ?_
  refine drw ?_
  refine S.draw0 (f := 8) 6 (by kernel_rfl) (by kernel_rfl) fun w S => ?_
  refine S.hq 0 [0] [] [(128, .v (GT.val b pb))] .nil fun ac S => ?_
  refine S.hq 1 [1] [] [(129, .v (I g))] .nil fun ac S => ?_
  refine S.hq 2 [2] [] [(130, .v (GT.val (f_guestAt b g).1 q1))] .nil fun ac S => ?_
  refine S.hq 3 [3] [] [(131, .v (I (f_wantOf (f_guestAt b g).1)))] .nil fun ac S => ?_
  refine WD.one (i := 4) (by kernel_rfl) ?_
  refine id (S.k1 132 (c_impl_trapped w (f_guestAt b g).1 q1 (S.rd o5.rn) (f_wantOf (f_guestAt b g).1)) fun ac w N q155 F156 S up o157 d158 => ?_)
  refine WD.next S up (by kernel_rfl) ?_
  replace o5 := o5.up up
  clear up d158
  refine WD.one (i := 5) (by kernel_rfl) ?_
  refine id (S.k1 133 (c_impl_WithGuest w b pb (S.rd (S.arg hb)) g (f_trapped (f_guestAt b g).1 (f_wantOf (f_guestAt b g).1)) q155 (S.rd o157.rn)) fun ac w N q160 F161 S up o162 d163 => ?_)
  refine WD.next S up (by kernel_rfl) ?_
  replace o5 := o5.up up
  clear up d163
  refine S.sl 6 [] [] 4 [(1, GT.cells (f_withGuest b g (f_trapped (f_guestAt b g).1 (f_wantOf (f_guestAt b g).1))) q160)] .nil fun ac w β S => ?_
  refine S.sl 7 [] [(5, .v (B true))] 4 [] .nil fun ac w β S => ?_
  refine WD.done (by kernel_rfl) ?_ _
  refine S.ex fun S => ?_
  refine S.gr 2 .nil [GT.val (f_withGuest b g (f_trapped (f_guestAt b g).1 (f_wantOf (f_guestAt b g).1))) q160, B true] fun ac w β S => ?_
  exact ret2_of (p' := ()) S (show (f_bareStep b g).1 = (f_withGuest b g (f_trapped (f_guestAt b g).1 (f_wantOf (f_guestAt b g).1))) from k0_impl_BareStep) (show (f_bareStep b g).2 = true from k1_impl_BareStep) rfl rfl o162 trivial
 refine S.gd 8 .nil ((f_wantOf (f_guestAt b g).1) == 5) (fun ac w β h166 g167 S => ?_) (fun ac w β h166 g167 S => ?_)
 ·refine S.go 2 .nil fun ac w β S => ?_
  refine drw ?_
  refine S.draw0 (f := 10) 8 (by kernel_rfl) (by kernel_rfl) fun w S => ?_
  refine S.hq 0 [0] [] [(137, .v (GT.val b pb))] .nil fun ac S => ?_
  refine S.hq 1 [1] [] [(138, .p 3 1)] .nil fun ac S => ?_
  refine S.hq 2 [2] [] [(139, .v (I (f_insAt (f_guestAt b g).1.prog (f_guestAt b g).1.pc).x))] .nil fun ac S => ?_
  refine S.hq 4 [4] [] [(141, .v (I g))] .nil fun ac S => ?_
  refine S.hq 5 [5] [] [(142, .v (GT.val (f_guestAt b g).1 q1))] .nil fun ac S => ?_
  refine WD.one (i := 3) (by kernel_rfl) ?_
  refine id (S.k1 140 (c_impl_PutOut w b pb (S.rd (S.arg hb)) (f_insAt (f_guestAt b g).1.prog (f_guestAt b g).1.pc).x (RIns.x (d := (f_insAt (f_guestAt b g).1.prog (f_guestAt b g).1.pc)) (insAt_r (RGuest.prog (d := (f_guestAt b g).1) o5.rn) (f_guestAt b g).1.pc))) fun ac w N q168 F169 S up o170 d171 => ?_)
  refine WD.next S up (by kernel_rfl) ?_
  replace o5 := o5.up up
  clear up d171
  refine WD.one (i := 6) (by kernel_rfl) ?_
  refine id (S.k1 143 (c_impl_Moved w (f_guestAt b g).1 q1 (S.rd o5.rn)) fun ac w N q173 F174 S up o175 d176 => ?_)
  refine WD.next S up (by kernel_rfl) ?_
  replace o5 := o5.up up
  replace o170 := o170.up up
  clear up d176
  refine WD.one (i := 7) (by kernel_rfl) ?_
  refine id (S.k1 144 (c_impl_WithGuest w (f_putOut b (f_insAt (f_guestAt b g).1.prog (f_guestAt b g).1.pc).x) q168 (S.rd o170.rn) g (f_moved (f_guestAt b g).1) q173 (S.rd o175.rn)) fun ac w N q179 F180 S up o181 d182 => ?_)
  refine WD.next S up (by kernel_rfl) ?_
  replace o5 := o5.up up
  clear up d182
  refine S.sl 8 [] [] 4 [(1, GT.cells (f_withGuest (f_putOut b (f_insAt (f_guestAt b g).1.prog (f_guestAt b g).1.pc).x) g (f_moved (f_guestAt b g).1)) q179)] .nil fun ac w β S => ?_
  refine S.sl 9 [] [(5, .v (B true))] 4 [] .nil fun ac w β S => ?_
  refine WD.done (by kernel_rfl) ?_ _
  refine S.ex fun S => ?_
  refine S.gr 2 .nil [GT.val (f_withGuest (f_putOut b (f_insAt (f_guestAt b g).1.prog (f_guestAt b g).1.pc).x) g (f_moved (f_guestAt b g).1)) q179, B true] fun ac w β S => ?_
  exact ret2_of (p' := ()) S (show (f_bareStep b g).1 = (f_withGuest (f_putOut b (f_insAt (f_guestAt b g).1.prog (f_guestAt b g).1.pc).x) g (f_moved (f_guestAt b g).1)) from k0_impl_BareStep) (show (f_bareStep b g).2 = true from k1_impl_BareStep) rfl rfl o181 trivial
 refine S.go 5 .nil fun ac w β S => ?_
 refine drw ?_
 refine S.draw0 (f := 7) 5 (by kernel_rfl) (by kernel_rfl) fun w S => ?_
 refine S.hq 0 [0] [] [(145, .v (GT.val b pb))] .nil fun ac S => ?_
 refine S.hq 1 [1] [] [(146, .v (I g))] .nil fun ac S => ?_
 refine S.hq 2 [2] [] [(147, .v (GT.val (f_guestAt b g).1 q1))] .nil fun ac S => ?_
 refine WD.one (i := 3) (by kernel_rfl) ?_
 refine id (S.k1 148 (c_impl_Held w (f_guestAt b g).1 q1 (S.rd o5.rn)) fun ac w N q186 F187 S up o188 d189 => ?_)
 refine WD.next S up (by kernel_rfl) ?_
 clear up d189
 refine WD.one (i := 4) (by kernel_rfl) ?_
 refine id (S.k1 149 (c_impl_WithGuest w b pb (S.rd (S.arg hb)) g (f_held (f_guestAt b g).1) q186 (S.rd o188.rn)) fun ac w N q191 F192 S up o193 d194 => ?_)
 refine WD.next S up (by kernel_rfl) ?_
 clear up d194
 refine S.sl 5 [] [] 4 [(1, GT.cells (f_withGuest b g (f_held (f_guestAt b g).1)) q191)] .nil fun ac w β S => ?_
 refine S.sl 6 [] [(5, .v (B true))] 4 [] .nil fun ac w β S => ?_
 refine WD.done (by kernel_rfl) ?_ _
 refine S.ex fun S => ?_
 refine S.gr 2 .nil [GT.val (f_withGuest b g (f_held (f_guestAt b g).1)) q191, B true] fun ac w β S => ?_
 exact ret2_of (p' := ()) S (show (f_bareStep b g).1 = (f_withGuest b g (f_held (f_guestAt b g).1)) from k0_impl_BareStep) (show (f_bareStep b g).2 = true from k1_impl_BareStep) rfl rfl o193 trivial

theorem k0_impl_HostStep {p : Prop} (h : p := by clear S; subst hT1; (first | (rw [hs_no1 (by assumption)]; done) | (rw [hs_no2 (by assumption)]; done) | (rw [hs_no3 (by assumption) (by assumption)]; done) | (rw [hs_no4 (by assumption) (by assumption)]; done) | (rw [hs_leave (by assumption) (by assumption) (by assumption) (by omega)]; done) | (rw [hs_bare (by assumption) (by assumption) (by assumption) (by omega)]; done) | (rw [hs_yes (by assumption) (by assumption) (by assumption) (by assumption)]; first | rfl | (simp only [hostTo34 (show f_wantOf (el (f_monAt h m).1.guests g.toNat) = 3 ∨ f_wantOf (el (f_monAt h m).1.guests g.toNat) = 4 by omega), f_touch, f_lk, f_setG]; simp_all; done)))) : p := h
theorem k1_impl_HostStep {p : Prop} (h : p := by clear S; (first | (rw [hs_no1 (by assumption)]; done) | (rw [hs_no2 (by assumption)]; done) | (rw [hs_no3 (by assumption) (by assumption)]; done) | (rw [hs_no4 (by assumption) (by assumption)]; done) | (rw [hs_leave (by assumption) (by assumption) (by assumption) (by omega)]; done) | (rw [hs_bare (by assumption) (by assumption) (by assumption) (by omega)]; done) | (rw [hs_yes (by assumption) (by assumption) (by assumption) (by assumption)]; first | rfl | (simp only [hostTo34 (show f_wantOf (el (f_monAt h m).1.guests g.toNat) = 3 ∨ f_wantOf (el (f_monAt h m).1.guests g.toNat) = 4 by omega), f_touch, f_lk, f_setG]; simp_all; done)))) : p := h
theorem k2_impl_HostStep {p : Prop} (h : p := by clear S; subst hT1; (first | (rw [hs_no1 (by assumption)]; done) | (rw [hs_no2 (by assumption)]; done) | (rw [hs_no3 (by assumption) (by assumption)]; done) | (rw [hs_no4 (by assumption) (by assumption)]; done) | (rw [hs_yes (by assumption) (by assumption) (by assumption) (by assumption)]; done))) : p := h
theorem k3_impl_HostStep {p : Prop} (h : p := by clear S; (first | (rw [hs_no1 (by assumption)]; done) | (rw [hs_no2 (by assumption)]; done) | (rw [hs_no3 (by assumption) (by assumption)]; done) | (rw [hs_no4 (by assumption) (by assumption)]; done) | (rw [hs_yes (by assumption) (by assumption) (by assumption) (by assumption)]; done))) : p := h
theorem c_impl_HostStep (w0 : World) (h : THost) (ph : PHost) (hh : RD w0 h ph) (m : Int) (g : Int) : Calls Tryz.prog 28 [GT.val h ph, I m, I g].toArray w0 (Ret2 NoB w0 ((f_hostStep h m g).1 : THost) ((f_hostStep h m g).2 : Bool)) := by
 refine Calls.run NoB Tryz.func28 ?_
 intro ac β S
 have hleh_mem : h.mem.length ≤ 4194304 := LRd.le (RHost.mem (d := h) hh)
 have hleh_mons : h.mons.length ≤ 4194304 := LRd.le (RHost.mons (d := h) hh)
 have hleh_buf : h.buf.length ≤ 4194304 := LRd.le (RHost.buf (d := h) hh)
 have hleh_iobuf : h.iobuf.length ≤ 4194304 := LRd.le (RHost.iobuf (d := h) hh)
 refine S.go 10 .nil fun ac w β S => S.K1 (r := h) (d := 21) (c_impl_copyHost w h ph (S.rd (S.arg hh))) fun ac w N q1 F2 S up o3 d4 => ?_
 clear up d4
 obtain ⟨F5, F8, F11, F14, o6, o9, o12, o15, _, _, _, _, d17, d18, d19, d20, d21, d22⟩ := sp_Host o3
 refine S.go 8 .nil fun ac w β S => S.K2 (r := (f_monAt h m).1) (r' := (f_monAt h m).2) (d := 25) (c_impl_MonAt w h ph (S.rd (S.arg hh)) m) fun ac w N q23 q24 F25 F26 S up o27 o28 d29 d30 d31 => ?_
 replace o6 := o6.up up
 replace o9 := o9.up up
 replace o12 := o12.up up
 replace o15 := o15.up up
 clear up d29
 clear d30
 refine S.gb 15 (.cons (Q_call fun w hw => c_impl_HostOk w h ph (rd_of (S.arg hh) hw)) .nil) (!(f_hostOk h)) (fun ac w β h40 S => ?_) (fun ac w β h40 S => ?_)
 ·have h41 := not_t h40
  refine S.gr 31 .nil [GT.val h q1, B false] fun ac w β S => ?_
  have o42 := ow_Host (x := h) (p := q1) o6 o9 o12 o15 d17 d18 d19 d20 d21 d22 
  exact ret2_of (p' := ()) S (show (f_hostStep h m g).1 = h from k1_impl_HostStep) (show (f_hostStep h m g).2 = false from k3_impl_HostStep) rfl rfl o42 trivial
 have h43 := not_f h40
 have g44 := hostOk_t h43
 refine S.gb 4 .nil (!(f_monAt h m).2) (fun ac w β h45 S => ?_) (fun ac w β h45 S => ?_)
 ·have h46 := not_t h45
  refine S.gr 27 .nil [GT.val h q1, B false] fun ac w β S => ?_
  have o47 := ow_Host (x := h) (p := q1) o6 o9 o12 o15 d17 d18 d19 d20 d21 d22 
  exact ret2_of (p' := ()) S (show (f_hostStep h m g).1 = h from k1_impl_HostStep) (show (f_hostStep h m g).2 = false from k3_impl_HostStep) rfl rfl o47 trivial
 have h48 := not_f h45
 have g49 := monAt_tt h48
 refine S.gb 8 (.cons (Q_call fun w hw => c_impl_has w g ((f_monAt h m).1.guests.length : Int) (by omega)) .nil) (!(f_within g 0 (((f_monAt h m).1.guests.length : Int) - 1))) (fun ac w β h50 S => ?_) (fun ac w β h50 S => ?_)
 ·have h51 := not_t h50
  have g52 := within_f h51
  refine S.gr 19 .nil [GT.val h q1, B false] fun ac w β S => ?_
  have o53 := ow_Host (x := h) (p := q1) o6 o9 o12 o15 d17 d18 d19 d20 d21 d22 
  exact ret2_of (p' := ()) S (show (f_hostStep h m g).1 = h from k1_impl_HostStep) (show (f_hostStep h m g).2 = false from k3_impl_HostStep) rfl rfl o53 trivial
 have h54 := not_f h50
 have g55 := within_t h54
 have b56 := wantOf_bd (el (f_monAt h m).1.guests g.toNat)
 refine S.gd 10 (.cons (qt (RMon.guests (d := (f_monAt h m).1) o27.rn) g Tryz.underlying25) (.cons (qs (RMon.guests (d := (f_monAt h m).1) o27.rn) 51 g.toNat) (.cons (Q_call fun w hw => c_impl_WantOf w (el (f_monAt h m).1.guests g.toNat) (q23.guests.2 g.toNat) (rd_of (LRd.el (RMon.guests (d := (f_monAt h m).1) o27.rn) g.toNat (by omega)) hw)) .nil))) ((f_wantOf (el (f_monAt h m).1.guests g.toNat)) == 0) (fun ac w β h57 g58 S => ?_) (fun ac w β h57 g58 S => ?_)
 ·refine S.gr 9 .nil [GT.val h q1, B false] fun ac w β S => ?_
  have o59 := ow_Host (x := h) (p := q1) o6 o9 o12 o15 d17 d18 d19 d20 d21 d22 
  exact ret2_of (p' := ()) S (show (f_hostStep h m g).1 = h from k1_impl_HostStep) (show (f_hostStep h m g).2 = false from k3_impl_HostStep) rfl rfl o59 trivial
 have b60 := wantOf_bd (el (f_monAt h m).1.guests g.toNat)
 refine S.gd 42 (.cons (qt (RMon.guests (d := (f_monAt h m).1) o27.rn) g Tryz.underlying25) (.cons (qs (RMon.guests (d := (f_monAt h m).1) o27.rn) 51 g.toNat) (.cons (Q_call fun w hw => c_impl_WantOf w (el (f_monAt h m).1.guests g.toNat) (q23.guests.2 g.toNat) (rd_of (LRd.el (RMon.guests (d := (f_monAt h m).1) o27.rn) g.toNat (by omega)) hw)) (.cons (Q_call fun w hw => c_impl_Address w (el (f_monAt h m).1.guests g.toNat) (q23.guests.2 g.toNat) (rd_of (LRd.el (RMon.guests (d := (f_monAt h m).1) o27.rn) g.toNat (by omega)) hw)) .nil)))) ((f_wantOf (el (f_monAt h m).1.guests g.toNat)) == 3) (fun ac w β h61 g62 S => ?_) (fun ac w β h61 g62 S => ?_)
 ·refine S.go 12 .nil fun ac w β S => ?_
  refine drw ?_
  let σ63 : Sy := ⟨[(1, .v (I m)), (2, .v (I g)), (3, .p 0 0), (6, .p 1 0), (11, .p 4 0), (13, .v (I (f_address (el (f_monAt h m).1.guests g.toNat)))), (14, .v (B ((f_wantOf (el (f_monAt h m).1.guests g.toNat)) == 4)))], [GT.cells h ph, Zc THost, [slv h.mem.length q1.mem.1, slv h.mons.length q1.mons.1, slv h.buf.length q1.buf.1, slv h.iobuf.length q1.iobuf.1], GT.cells (f_monAt h m).1 q23, GT.cells (el (f_monAt h m).1.guests g.toNat) (q23.guests.2 g.toNat)]⟩
  obtain ⟨u0, N0, β0, S, o6, o9, o12, o15, o27⟩ : ∃ u0 N0 β0, St Tryz.prog Tryz.f28.ntmps w0 NoB u0 N0 β0 σ63 ac w ∧ Ow w0 NoB u0 N0 F5 h.mem q1.mem ∧ Ow w0 NoB u0 N0 F8 h.mons q1.mons ∧ Ow w0 NoB u0 N0 F11 h.buf q1.buf ∧ Ow w0 NoB u0 N0 F14 h.iobuf q1.iobuf ∧ Ow w0 NoB u0 N0 F25 (f_monAt h m).1 q23 := ⟨_, _, _, S.z, o6, o9, o12, o15, o27⟩
  obtain ⟨Y1, hT1⟩ : ∃ z, z = f_lookup h m g (f_addrPage (f_address (el (f_monAt h m).1.guests g.toNat))) (f_needOf ((f_wantOf (el (f_monAt h m).1.guests g.toNat)) == 4)) false := ⟨_, rfl⟩
  have l230 := lookup_mons (congrArg Prod.fst hT1) (hs_ok (by assumption) (by assumption) (by assumption))
  try dsimp only at l230
  obtain ⟨Y1, hT1⟩ : ∃ z, z = f_lookup h m g (f_addrPage (f_address (el (f_monAt h m).1.guests g.toNat))) (f_needOf ((f_wantOf (el (f_monAt h m).1.guests g.toNat)) == 4)) false := ⟨_, rfl⟩
  have l261 := lookup_mons (congrArg Prod.fst hT1) (hs_ok (by assumption) (by assumption) (by assumption))
  try dsimp only at l261
  refine wp_region_cut (fun ac w => ∃ q143 F144 q146 F147 q137 F138 q140 F141 u N β, St Tryz.prog Tryz.f28.ntmps w0 NoB u N β (σ63.dl [3] [(15, .p 5 0), (16, .v (I Y1.2.1)), (17, .v (B Y1.2.2))] 6 [(5, [slv Y1.1.mem.length q137.1, slv Y1.1.mons.length q140.1, slv Y1.1.buf.length q143.1, slv Y1.1.iobuf.length q146.1])]) ac w ∧ Ow w0 NoB u N F5 h.mem q1.mem ∧ Ow w0 NoB u N F8 h.mons q1.mons ∧ Ow w0 NoB u N F11 h.buf q1.buf ∧ Ow w0 NoB u N F14 h.iobuf q1.iobuf ∧ Ow w0 NoB u N F25 (f_monAt h m).1 q23 ∧ Ow w0 NoB u N F144 Y1.1.buf q143 ∧ Ow w0 NoB u N F147 Y1.1.iobuf q146 ∧ Ow w0 NoB u N F138 Y1.1.mem q137 ∧ Ow w0 NoB u N F141 Y1.1.mons q140 ∧ Disj F5 F144 ∧ Disj F5 F147 ∧ Disj F5 F138 ∧ Disj F5 F141 ∧ Disj F8 F144 ∧ Disj F8 F147 ∧ Disj F8 F138 ∧ Disj F8 F141 ∧ Disj F11 F144 ∧ Disj F11 F147 ∧ Disj F11 F138 ∧ Disj F11 F141 ∧ Disj F14 F144 ∧ Disj F14 F147 ∧ Disj F14 F138 ∧ Disj F14 F141 ∧ Disj F25 F144 ∧ Disj F25 F147 ∧ Disj F25 F138 ∧ Disj F25 F141 ∧ Disj F144 F147 ∧ Disj F144 F138 ∧ Disj F144 F141 ∧ Disj F147 F138 ∧ Disj F147 F141 ∧ Disj F138 F141) ?_ ?_
  ·refine S.draw0 (f := 16) 13 (by kernel_rfl) (by kernel_rfl) fun w S => ?_
   refine S.hq 0 [0] [] [(69, .v (GT.val h ph))] .nil fun ac S => ?_
   refine S.hq 1 [1] [] [(70, .v (I m))] .nil fun ac S => ?_
   refine S.hq 2 [2] [] [(71, .v (I g))] .nil fun ac S => ?_
   refine S.hq 3 [3] [] [(72, .v (I (f_address (el (f_monAt h m).1.guests g.toNat))))] .nil fun ac S => ?_
   refine S.hq 5 [5] [] [(74, .v (B ((f_wantOf (el (f_monAt h m).1.guests g.toNat)) == 4)))] .nil fun ac S => ?_
   refine WD.nameW fun W hW => ?_
   refine WD.castW (l' := mkL 16 [0, 1, 2, 3, 5]) (by kernel_rfl) ?_
   have hK148 ac w q143 F144 q146 F147 q137 F138 q140 F141 u N β (S : St Tryz.prog Tryz.f28.ntmps w0 NoB u N β (σ63.dl [3] [(15, .p 5 0), (16, .v (I Y1.2.1)), (17, .v (B Y1.2.2))] 6 [(5, [slv Y1.1.mem.length q137.1, slv Y1.1.mons.length q140.1, slv Y1.1.buf.length q143.1, slv Y1.1.iobuf.length q146.1])]) ac w) (o6 : Ow w0 NoB u N F5 h.mem q1.mem) (o9 : Ow w0 NoB u N F8 h.mons q1.mons) (o12 : Ow w0 NoB u N F11 h.buf q1.buf) (o15 : Ow w0 NoB u N F14 h.iobuf q1.iobuf) (o27 : Ow w0 NoB u N F25 (f_monAt h m).1 q23) (o142 : Ow w0 NoB u N F144 Y1.1.buf q143) (o145 : Ow w0 NoB u N F147 Y1.1.iobuf q146) (o136 : Ow w0 NoB u N F138 Y1.1.mem q137) (o139 : Ow w0 NoB u N F141 Y1.1.mons q140) (d149 : Disj F5 F144) (d150 : Disj F5 F147) (d151 : Disj F5 F138) (d152 : Disj F5 F141) (d153 : Disj F8 F144) (d154 : Disj F8 F147) (d155 : Disj F8 F138) (d156 : Disj F8 F141) (d157 : Disj F11 F144) (d158 : Disj F11 F147) (d159 : Disj F11 F138) (d160 : Disj F11 F141) (d161 : Disj F14 F144) (d162 : Disj F14 F147) (d163 : Disj F14 F138) (d164 : Disj F14 F141) (d165 : Disj F25 F144) (d166 : Disj F25 F147) (d167 : Disj F25 F138) (d168 : Disj F25 F141) (d169 : Disj F144 F147) (d170 : Disj F144 F138) (d171 : Disj F144 F141) (d172 : Disj F147 F138) (d173 : Disj F147 F141) (d174 : Disj F138 F141) : W 0 (mkL 16 [0, 1, 2, 3, 4, 5, 6, 7, 8, 9, 10, 11, 12, 13, 14, 15]) ac w := by
    exact od hW ⟨rfl, q143, F144, q146, F147, q137, F138, q140, F141, _, _, _, S.z, o6, o9, o12, o15, o27, o142, o145, o136, o139, d149, d150, d151, d152, d153, d154, d155, d156, d157, d158, d159, d160, d161, d162, d163, d164, d165, d166, d167, d168, d169, d170, d171, d172, d173, d174⟩
   have hK175 ac w q101 F102 q104 F105 q95 F96 q98 F99 u N β (S : St Tryz.prog Tryz.f28.ntmps w0 NoB u N β (σ63.dl [3] [(15, .p 5 0), (77, .v (GT.val Y1.1 (⟨q95, q98, q101, q104⟩ : PHost))), (78, .v (I Y1.2.1)), (79, .v (B Y1.2.2))] 6 [(5, Zc THost)]) ac w) (o6 : Ow w0 NoB u N F5 h.mem q1.mem) (o9 : Ow w0 NoB u N F8 h.mons q1.mons) (o12 : Ow w0 NoB u N F11 h.buf q1.buf) (o15 : Ow w0 NoB u N F14 h.iobuf q1.iobuf) (o27 : Ow w0 NoB u N F25 (f_monAt h m).1 q23) (o100 : Ow w0 NoB u N F102 Y1.1.buf q101) (o103 : Ow w0 NoB u N F105 Y1.1.iobuf q104) (o94 : Ow w0 NoB u N F96 Y1.1.mem q95) (o97 : Ow w0 NoB u N F99 Y1.1.mons q98) (d176 : Disj F5 F102) (d177 : Disj F5 F105) (d178 : Disj F5 F96) (d179 : Disj F5 F99) (d180 : Disj F8 F102) (d181 : Disj F8 F105) (d182 : Disj F8 F96) (d183 : Disj F8 F99) (d184 : Disj F11 F102) (d185 : Disj F11 F105) (d186 : Disj F11 F96) (d187 : Disj F11 F99) (d188 : Disj F14 F102) (d189 : Disj F14 F105) (d190 : Disj F14 F96) (d191 : Disj F14 F99) (d192 : Disj F25 F102) (d193 : Disj F25 F105) (d194 : Disj F25 F96) (d195 : Disj F25 F99) (d196 : Disj F102 F105) (d197 : Disj F102 F96) (d198 : Disj F102 F99) (d199 : Disj F105 F96) (d200 : Disj F105 F99) (d201 : Disj F96 F99) (hNN : NN N0 u0 N u) (hBB : BB σ63.bx.length β0 β) : W 3 (mkL 16 [0, 1, 2, 3, 4, 5, 6, 7, 8, 9, 10, 11, 12]) ac w := by
    exact ox1 hW 13 (S.wl hW [14, 15] .nil fun _ _ _ S => hK148 _ _ q101 F102 q104 F105 q95 F96 q98 F99 _ _ _ S o6 o9 o12 o15 o27 o100 o103 o94 o97 d176 d177 d178 d179 d180 d181 d182 d183 d184 d185 d186 d187 d188 d189 d190 d191 d192 d193 d194 d195 d196 d197 d198 d199 d200 d201)
   have hK202 ac w q101 F102 q104 F105 q95 F96 q98 F99 u N β (S : St Tryz.prog Tryz.f28.ntmps w0 NoB u N β (σ63.dl [3] [(77, .v (GT.val Y1.1 (⟨q95, q98, q101, q104⟩ : PHost))), (78, .v (I Y1.2.1)), (79, .v (B Y1.2.2))] 5 []) ac w) (o6 : Ow w0 NoB u N F5 h.mem q1.mem) (o9 : Ow w0 NoB u N F8 h.mons q1.mons) (o12 : Ow w0 NoB u N F11 h.buf q1.buf) (o15 : Ow w0 NoB u N F14 h.iobuf q1.iobuf) (o27 : Ow w0 NoB u N F25 (f_monAt h m).1 q23) (o100 : Ow w0 NoB u N F102 Y1.1.buf q101) (o103 : Ow w0 NoB u N F105 Y1.1.iobuf q104) (o94 : Ow w0 NoB u N F96 Y1.1.mem q95) (o97 : Ow w0 NoB u N F99 Y1.1.mons q98) (d203 : Disj F5 F102) (d204 : Disj F5 F105) (d205 : Disj F5 F96) (d206 : Disj F5 F99) (d207 : Disj F8 F102) (d208 : Disj F8 F105) (d209 : Disj F8 F96) (d210 : Disj F8 F99) (d211 : Disj F11 F102) (d212 : Disj F11 F105) (d213 : Disj F11 F96) (d214 : Disj F11 F99) (d215 : Disj F14 F102) (d216 : Disj F14 F105) (d217 : Disj F14 F96) (d218 : Disj F14 F99) (d219 : Disj F25 F102) (d220 : Disj F25 F105) (d221 : Disj F25 F96) (d222 : Disj F25 F99) (d223 : Disj F102 F105) (d224 : Disj F102 F96) (d225 : Disj F102 F99) (d226 : Disj F105 F96) (d227 : Disj F105 F99) (d228 : Disj F96 F99) (hNN : NN N0 u0 N u) (hBB : BB σ63.bx.length β0 β) : W 4 (mkL 16 [0, 1, 2, 3, 4, 5, 6, 7, 8, 9, 10, 11]) ac w := by
    exact ox1 hW 12 (S.wq hW hNN hBB [] .nil fun _ _ _ S hB => hK175 _ _ q101 F102 q104 F105 q95 F96 q98 F99 _ _ _ S o6 o9 o12 o15 o27 o100 o103 o94 o97 d203 d204 d205 d206 d207 d208 d209 d210 d211 d212 d213 d214 d215 d216 d217 d218 d219 d220 d221 d222 d223 d224 d225 d226 d227 d228 hNN hB)
   have hK229 ac w u N β (S : St Tryz.prog Tryz.f28.ntmps w0 NoB u N β (σ63.dl [3] [(15, .p 5 0), (69, .v (GT.val h ph)), (70, .v (I m)), (71, .v (I g)), (73, .v (I (f_addrPage (f_address (el (f_monAt h m).1.guests g.toNat))))), (75, .v (I (f_needOf ((f_wantOf (el (f_monAt h m).1.guests g.toNat)) == 4))))] 6 [(5, Zc THost)]) ac w) (o6 : Ow w0 NoB u N F5 h.mem q1.mem) (o9 : Ow w0 NoB u N F8 h.mons q1.mons) (o12 : Ow w0 NoB u N F11 h.buf q1.buf) (o15 : Ow w0 NoB u N F14 h.iobuf q1.iobuf) (o27 : Ow w0 NoB u N F25 (f_monAt h m).1 q23) (hNN : NN N0 u0 N u) (hBB : BB σ63.bx.length β0 β) : W 8 (mkL 16 [0, 1, 2, 3, 4, 5, 6, 12]) ac w := by
    refine ox1 hW 7 ?_
    refine id (S.call3 (r := Y1.1) (r' := Y1.2.1) (r'' := Y1.2.2) (d := 76) (by rw [hT1]; exact c_impl_Lookup w h ph (S.rd (S.arg hh)) m g (f_addrPage (f_address (el (f_monAt h m).1.guests g.toNat))) (addrPage_in64 (address_in64 (LRd.el (RMon.guests (d := (f_monAt h m).1) o27.rn) g.toNat (by omega)))) (f_needOf ((f_wantOf (el (f_monAt h m).1.guests g.toNat)) == 4))) (by kernel_rfl) rfl fun ac w N q231 F232 S up o233 d234 i235 => ?_)
    have hb236 := fun b h => (⟨(up b (hNN b h).1).1, (up b (hNN b h).1).2.trans (hNN b h).2⟩ : _ ∧ _)
    refine WD.sc S hb236 hBB fun hC => ?_
    have d237 := Disj.w d234 o6.sub
    have d238 := Disj.w d234 o9.sub
    have d239 := Disj.w d234 o12.sub
    have d240 := Disj.w d234 o15.sub
    have d241 := Disj.w d234 o27.sub
    replace o6 := o6.up up
    replace o9 := o9.up up
    replace o12 := o12.up up
    replace o15 := o15.up up
    replace o27 := o27.up up
    clear up d234
    obtain ⟨F242, F245, F248, F251, o243, o246, o249, o252, s244, s247, s250, s253, d254, d255, d256, d257, d258, d259⟩ := sp_Host o233
    exact S.wh hW [8, 9, 10, 11] hC fun _ S => hK175 _ _ q231.buf F248 q231.iobuf F251 q231.mem F242 q231.mons F245 _ _ _ S o6 o9 o12 o15 o27 o249 o252 o243 o246 (Disj.symm (Disj.part (Disj.symm d237) s250)) (Disj.symm (Disj.part (Disj.symm d237) s253)) (Disj.symm (Disj.part (Disj.symm d237) s244)) (Disj.symm (Disj.part (Disj.symm d237) s247)) (Disj.symm (Disj.part (Disj.symm d238) s250)) (Disj.symm (Disj.part (Disj.symm d238) s253)) (Disj.symm (Disj.part (Disj.symm d238) s244)) (Disj.symm (Disj.part (Disj.symm d238) s247)) (Disj.symm (Disj.part (Disj.symm d239) s250)) (Disj.symm (Disj.part (Disj.symm d239) s253)) (Disj.symm (Disj.part (Disj.symm d239) s244)) (Disj.symm (Disj.part (Disj.symm d239) s247)) (Disj.symm (Disj.part (Disj.symm d240) s250)) (Disj.symm (Disj.part (Disj.symm d240) s253)) (Disj.symm (Disj.part (Disj.symm d240) s244)) (Disj.symm (Disj.part (Disj.symm d240) s247)) (Disj.symm (Disj.part (Disj.symm d241) s250)) (Disj.symm (Disj.part (Disj.symm d241) s253)) (Disj.symm (Disj.part (Disj.symm d241) s244)) (Disj.symm (Disj.part (Disj.symm d241) s247)) d259 (Disj.symm d255) (Disj.symm d257) (Disj.symm d256) (Disj.symm d258) d254 hb236 hBB
   have hK260 ac w u N β (S : St Tryz.prog Tryz.f28.ntmps w0 NoB u N β (σ63.dl [3] [(69, .v (GT.val h ph)), (70, .v (I m)), (71, .v (I g)), (73, .v (I (f_addrPage (f_address (el (f_monAt h m).1.guests g.toNat))))), (75, .v (I (f_needOf ((f_wantOf (el (f_monAt h m).1.guests g.toNat)) == 4))))] 5 []) ac w) (o6 : Ow w0 NoB u N F5 h.mem q1.mem) (o9 : Ow w0 NoB u N F8 h.mons q1.mons) (o12 : Ow w0 NoB u N F11 h.buf q1.buf) (o15 : Ow w0 NoB u N F14 h.iobuf q1.iobuf) (o27 : Ow w0 NoB u N F25 (f_monAt h m).1 q23) (hNN : NN N0 u0 N u) (hBB : BB σ63.bx.length β0 β) : W 9 (mkL 16 [0, 1, 2, 3, 4, 5, 6]) ac w := by
    refine ox2 hW 7 12 ?_ (S.wq hW hNN hBB [] .nil fun _ _ _ S hB => hK229 _ _ _ _ _ S o6 o9 o12 o15 o27 hNN hB)
    refine id (S.call3 (r := Y1.1) (r' := Y1.2.1) (r'' := Y1.2.2) (d := 76) (by rw [hT1]; exact c_impl_Lookup w h ph (S.rd (S.arg hh)) m g (f_addrPage (f_address (el (f_monAt h m).1.guests g.toNat))) (addrPage_in64 (address_in64 (LRd.el (RMon.guests (d := (f_monAt h m).1) o27.rn) g.toNat (by omega)))) (f_needOf ((f_wantOf (el (f_monAt h m).1.guests g.toNat)) == 4))) (by kernel_rfl) rfl fun ac w N q262 F263 S up o264 d265 i266 => ?_)
    have hb267 := fun b h => (⟨(up b (hNN b h).1).1, (up b (hNN b h).1).2.trans (hNN b h).2⟩ : _ ∧ _)
    refine WD.sc S hb267 hBB fun hC => ?_
    have d268 := Disj.w d265 o6.sub
    have d269 := Disj.w d265 o9.sub
    have d270 := Disj.w d265 o12.sub
    have d271 := Disj.w d265 o15.sub
    have d272 := Disj.w d265 o27.sub
    replace o6 := o6.up up
    replace o9 := o9.up up
    replace o12 := o12.up up
    replace o15 := o15.up up
    replace o27 := o27.up up
    clear up d265
    obtain ⟨F273, F276, F279, F282, o274, o277, o280, o283, s275, s278, s281, s284, d285, d286, d287, d288, d289, d290⟩ := sp_Host o264
    exact S.wh hW [8, 9, 10, 11] hC fun _ S => hK202 _ _ q262.buf F279 q262.iobuf F282 q262.mem F273 q262.mons F276 _ _ _ S o6 o9 o12 o15 o27 o280 o283 o274 o277 (Disj.symm (Disj.part (Disj.symm d268) s281)) (Disj.symm (Disj.part (Disj.symm d268) s284)) (Disj.symm (Disj.part (Disj.symm d268) s275)) (Disj.symm (Disj.part (Disj.symm d268) s278)) (Disj.symm (Disj.part (Disj.symm d269) s281)) (Disj.symm (Disj.part (Disj.symm d269) s284)) (Disj.symm (Disj.part (Disj.symm d269) s275)) (Disj.symm (Disj.part (Disj.symm d269) s278)) (Disj.symm (Disj.part (Disj.symm d270) s281)) (Disj.symm (Disj.part (Disj.symm d270) s284)) (Disj.symm (Disj.part (Disj.symm d270) s275)) (Disj.symm (Disj.part (Disj.symm d270) s278)) (Disj.symm (Disj.part (Disj.symm d271) s281)) (Disj.symm (Disj.part (Disj.symm d271) s284)) (Disj.symm (Disj.part (Disj.symm d271) s275)) (Disj.symm (Disj.part (Disj.symm d271) s278)) (Disj.symm (Disj.part (Disj.symm d272) s281)) (Disj.symm (Disj.part (Disj.symm d272) s284)) (Disj.symm (Disj.part (Disj.symm d272) s275)) (Disj.symm (Disj.part (Disj.symm d272) s278)) d290 (Disj.symm d286) (Disj.symm d288) (Disj.symm d287) (Disj.symm d289) d285 hb267 hBB
   have hK291 ac w u N β (S : St Tryz.prog Tryz.f28.ntmps w0 NoB u N β (σ63.dl [3] [(15, .p 5 0), (69, .v (GT.val h ph)), (70, .v (I m)), (71, .v (I g)), (73, .v (I (f_addrPage (f_address (el (f_monAt h m).1.guests g.toNat))))), (74, .v (B ((f_wantOf (el (f_monAt h m).1.guests g.toNat)) == 4)))] 6 [(5, Zc THost)]) ac w) (o6 : Ow w0 NoB u N F5 h.mem q1.mem) (o9 : Ow w0 NoB u N F8 h.mons q1.mons) (o12 : Ow w0 NoB u N F11 h.buf q1.buf) (o15 : Ow w0 NoB u N F14 h.iobuf q1.iobuf) (o27 : Ow w0 NoB u N F25 (f_monAt h m).1 q23) (hNN : NN N0 u0 N u) (hBB : BB σ63.bx.length β0 β) : W 9 (mkL 16 [0, 1, 2, 3, 4, 5, 12]) ac w := by
    exact ox1 hW 6 (S.wq hW hNN hBB [] (.cons (Q_call fun w hw => c_impl_NeedOf w ((f_wantOf (el (f_monAt h m).1.guests g.toNat)) == 4)) .nil) fun _ _ _ S hB => hK229 _ _ _ _ _ S o6 o9 o12 o15 o27 hNN hB)
   have hK292 ac w u N β (S : St Tryz.prog Tryz.f28.ntmps w0 NoB u N β (σ63.dl [3] [(69, .v (GT.val h ph)), (70, .v (I m)), (71, .v (I g)), (73, .v (I (f_addrPage (f_address (el (f_monAt h m).1.guests g.toNat))))), (74, .v (B ((f_wantOf (el (f_monAt h m).1.guests g.toNat)) == 4)))] 5 []) ac w) (o6 : Ow w0 NoB u N F5 h.mem q1.mem) (o9 : Ow w0 NoB u N F8 h.mons q1.mons) (o12 : Ow w0 NoB u N F11 h.buf q1.buf) (o15 : Ow w0 NoB u N F14 h.iobuf q1.iobuf) (o27 : Ow w0 NoB u N F25 (f_monAt h m).1 q23) (hNN : NN N0 u0 N u) (hBB : BB σ63.bx.length β0 β) : W 10 (mkL 16 [0, 1, 2, 3, 4, 5]) ac w := by
    exact ox2 hW 6 12 (S.wq hW hNN hBB [] (.cons (Q_call fun w hw => c_impl_NeedOf w ((f_wantOf (el (f_monAt h m).1.guests g.toNat)) == 4)) .nil) fun _ _ _ S hB => hK260 _ _ _ _ _ S o6 o9 o12 o15 o27 hNN hB) (S.wq hW hNN hBB [] .nil fun _ _ _ S hB => hK291 _ _ _ _ _ S o6 o9 o12 o15 o27 hNN hB)
   have hK293 ac w u N β (S : St Tryz.prog Tryz.f28.ntmps w0 NoB u N β (σ63.dl [3] [(15, .p 5 0), (69, .v (GT.val h ph)), (70, .v (I m)), (71, .v (I g)), (72, .v (I (f_address (el (f_monAt h m).1.guests g.toNat)))), (74, .v (B ((f_wantOf (el (f_monAt h m).1.guests g.toNat)) == 4)))] 6 [(5, Zc THost)]) ac w) (o6 : Ow w0 NoB u N F5 h.mem q1.mem) (o9 : Ow w0 NoB u N F8 h.mons q1.mons) (o12 : Ow w0 NoB u N F11 h.buf q1.buf) (o15 : Ow w0 NoB u N F14 h.iobuf q1.iobuf) (o27 : Ow w0 NoB u N F25 (f_monAt h m).1 q23) (hNN : NN N0 u0 N u) (hBB : BB σ63.bx.length β0 β) : W 10 (mkL 16 [0, 1, 2, 3, 5, 12]) ac w := by
    exact ox1 hW 4 (S.wq hW hNN hBB [] (.cons (Q_call fun w hw => c_impl_AddrPage w (f_address (el (f_monAt h m).1.guests g.toNat)) (address_in64 (LRd.el (RMon.guests (d := (f_monAt h m).1) o27.rn) g.toNat (by omega)))) .nil) fun _ _ _ S hB => hK291 _ _ _ _ _ S o6 o9 o12 o15 o27 hNN hB)
   have hNN : NN N0 u0 N0 u0 := fun b h => ⟨h, rfl⟩
   have hBB : BB σ63.bx.length β0 β0 := fun _ _ => rfl
   exact ox2 hW 4 12 (S.wq hW hNN hBB [] (.cons (Q_call fun w hw => c_impl_AddrPage w (f_address (el (f_monAt h m).1.guests g.toNat)) (address_in64 (LRd.el (RMon.guests (d := (f_monAt h m).1) o27.rn) g.toNat (by omega)))) .nil) fun _ _ _ S hB => hK292 _ _ _ _ _ S o6 o9 o12 o15 o27 hNN hB) (S.wq hW hNN hBB [] .nil fun _ _ _ S hB => hK293 _ _ _ _ _ S o6 o9 o12 o15 o27 hNN hB)
  clear S o6 o9 o12 o15 o27
  rintro ac w ⟨q143, F144, q146, F147, q137, F138, q140, F141, u, N, β, S, o6, o9, o12, o15, o27, o142, o145, o136, o139, d294, d295, d296, d297, d298, d299, d300, d301, d302, d303, d304, d305, d306, d307, d308, d309, d310, d311, d312, d313, d314, d315, d316, d317, d318, d319⟩
  refine S.ex fun S => ?_
  refine S.gb 10 .nil (!Y1.2.2) (fun ac w β h320 S => ?_) (fun ac w β h320 S => ?_)
  ·have h321 := not_t h320
   refine S.go 1 .nil fun ac w β S => ?_
   refine drw ?_
   refine S.draw0 (f := 7) 6 (by kernel_rfl) (by kernel_rfl) fun w S => ?_
   refine S.hq 0 [0] [] [(91, .v (GT.val (el (f_monAt h m).1.guests g.toNat) (q23.guests.2 g.toNat)))] .nil fun ac S => ?_
   refine S.hq 1 [1] [] [(92, .v (I (f_address (el (f_monAt h m).1.guests g.toNat))))] .nil fun ac S => ?_
   refine S.hq 3 [3] [] [(94, .v (B ((f_wantOf (el (f_monAt h m).1.guests g.toNat)) == 4)))] .nil fun ac S => ?_
   refine S.sq 2 [] [(93, .v (I (f_addrPage (f_address (el (f_monAt h m).1.guests g.toNat)))))] 6 [] (.cons (Q_call fun w hw => c_impl_AddrPage w (f_address (el (f_monAt h m).1.guests g.toNat)) (address_in64 (LRd.el (RMon.guests (d := (f_monAt h m).1) o27.rn) g.toNat (by omega)))) .nil) fun ac w β S => ?_
   refine S.sq 4 [] [(95, .v (GT.val (f_faultExit (f_addrPage (f_address (el (f_monAt h m).1.guests g.toNat))) ((f_wantOf (el (f_monAt h m).1.guests g.toNat)) == 4)) ()))] 6 [] (.cons (Q_call fun w hw => c_impl_FaultExit w (f_addrPage (f_address (el (f_monAt h m).1.guests g.toNat))) (addrPage_in64 (address_in64 (LRd.el (RMon.guests (d := (f_monAt h m).1) o27.rn) g.toNat (by omega)))) ((f_wantOf (el (f_monAt h m).1.guests g.toNat)) == 4)) .nil) fun ac w β S => ?_
   refine WD.one (i := 5) (by kernel_rfl) ?_
   refine id (S.k1 96 (c_impl_Stopped w (el (f_monAt h m).1.guests g.toNat) (q23.guests.2 g.toNat) (S.rd (LRd.el (RMon.guests (d := (f_monAt h m).1) o27.rn) g.toNat (by omega))) (f_faultExit (f_addrPage (f_address (el (f_monAt h m).1.guests g.toNat))) ((f_wantOf (el (f_monAt h m).1.guests g.toNat)) == 4)) (faultExit_r (addrPage_in64 (address_in64 (LRd.el (RMon.guests (d := (f_monAt h m).1) o27.rn) g.toNat (by omega)))) ((f_wantOf (el (f_monAt h m).1.guests g.toNat)) == 4))) fun ac w N q322 F323 S up o324 d325 => ?_)
   refine WD.next S up (by kernel_rfl) ?_
   have d331 := Disj.w d325 o136.sub
   have d332 := Disj.w d325 o139.sub
   have d333 := Disj.w d325 o142.sub
   have d334 := Disj.w d325 o145.sub
   replace o6 := o6.up up
   replace o9 := o9.up up
   replace o12 := o12.up up
   replace o15 := o15.up up
   replace o27 := o27.up up
   replace o136 := o136.up up
   replace o139 := o139.up up
   replace o142 := o142.up up
   replace o145 := o145.up up
   clear up d325
   refine S.sl 6 [] [] 6 [(4, GT.cells ({ (el (f_monAt h m).1.guests g.toNat) with exit := (f_faultExit (f_addrPage (f_address (el (f_monAt h m).1.guests g.toNat))) ((f_wantOf (el (f_monAt h m).1.guests g.toNat)) == 4)) } : TGuest) q322)] .nil fun ac w β S => ?_
   refine WD.done (by kernel_rfl) ?_ _
   refine S.ex fun S => ?_
   refine S.go 3 .nil fun ac w β S => ?_
   refine drw ?_
   refine S.draw0 (f := 10) 9 (by kernel_rfl) (by kernel_rfl) fun w S => ?_
   refine S.hq 0 [0] [] [(110, .p 5 1)] .nil fun ac S => ?_
   refine S.hq 1 [1] [] [(111, .v (slv Y1.1.mons.length q140.1))] .nil fun ac S => ?_
   refine S.hq 2 [2] [] [(112, .v (I m))] .nil fun ac S => ?_
   refine S.hq 3 [3] [] [(113, .v (pt q140.1.b (q140.1.off + m.toNat * 9)))] (.cons (qt o139.rn m Tryz.underlying57) .nil) fun ac S => ?_
   refine S.hq 4 [4] [] [(114, .v (pt q140.1.b (q140.1.off + m.toNat * 9 + 3)))] .nil fun ac S => ?_
   refine S.hq 5 [5] [] [(115, .v (slv (el Y1.1.mons m.toNat).guests.length (q140.2 m.toNat).guests.1))] (.cons (qc o139.rn 25 m.toNat 3 (slv (el Y1.1.mons m.toNat).guests.length (q140.2 m.toNat).guests.1)) .nil) fun ac S => ?_
   refine S.hq 6 [6] [] [(116, .v (I g))] .nil fun ac S => ?_
   refine S.hq 7 [7] [] [(117, .v (GT.val ({ (el (f_monAt h m).1.guests g.toNat) with exit := (f_faultExit (f_addrPage (f_address (el (f_monAt h m).1.guests g.toNat))) ((f_wantOf (el (f_monAt h m).1.guests g.toNat)) == 4)) } : TGuest) q322))] .nil fun ac S => ?_
   refine S.hq 8 [8] [] [(118, .v (pt (q140.2 m.toNat).guests.1.b ((q140.2 m.toNat).guests.1.off + g.toNat * 15)))] (.cons (qt (RMon.guests (d := (el Y1.1.mons m.toNat)) (LRd.el o139.rn m.toNat (by omega))) g Tryz.underlying25) .nil) fun ac S => ?_
   refine WD.one (i := 9) (by kernel_rfl) ?_
   obtain ⟨F335, o336, s337, b338⟩ := foc2_Mon_guests o139 (k := m.toNat) (show m.toNat < Y1.1.mons.length by omega)
   have l339 := LRd.le o336.rn
   have n340 := o336.sub
   refine id (S.sV (α := TGuest) o336 (t := 51) (k := g.toNat) (off := (q140.2 m.toNat).guests.1.off + g.toNat * 15) o324 (Disj.symm (Disj.symm (Disj.part d332 s337))) fun w N F342 q343 S up o341 d344 s345 n346 => ?_)
   refine WD.last (by kernel_rfl) ?_
   have d352 := d344 _ (Disj.symm (Disj.part (Disj.symm d319) s337)) d331 o136.sub
   have d353 := d344 _ (Disj.symm (Disj.part (Disj.symm d316) s337)) d333 o142.sub
   have d354 := d344 _ (Disj.symm (Disj.part (Disj.symm d318) s337)) d334 o145.sub
   replace o6 := o6.upF (Disj.symm (Disj.part (Disj.symm d297) s337)) up
   replace o9 := o9.upF (Disj.symm (Disj.part (Disj.symm d301) s337)) up
   replace o12 := o12.upF (Disj.symm (Disj.part (Disj.symm d305) s337)) up
   replace o15 := o15.upF (Disj.symm (Disj.part (Disj.symm d309) s337)) up
   replace o27 := o27.upF (Disj.symm (Disj.part (Disj.symm d313) s337)) up
   replace o136 := o136.upF (Disj.symm (Disj.part (Disj.symm d319) s337)) up
   replace o142 := o142.upF (Disj.symm (Disj.part (Disj.symm d316) s337)) up
   replace o145 := o145.upF (Disj.symm (Disj.part (Disj.symm d318) s337)) up
   clear d344 o336
   obtain ⟨p355, o356, c357⟩ := b338 _ _ _ _ _ F323 up o341 s345 d332 (by show [slv _ _] = [slv _ _]; rw [List.length_set]) (fun b h => n346 b (n340 b h))
   clear up o341 n346
   have l358 : (Y1.1.mons.set m.toNat ({ el Y1.1.mons m.toNat with guests := ((el Y1.1.mons m.toNat).guests.set g.toNat ({ (el (f_monAt h m).1.guests g.toNat) with exit := (f_faultExit (f_addrPage (f_address (el (f_monAt h m).1.guests g.toNat))) ((f_wantOf (el (f_monAt h m).1.guests g.toNat)) == 4)) } : TGuest)) })).length = Y1.1.mons.length := List.length_set
   replace S := S.z (σ' := ⟨[(6, .p 1 0), (15, .p 5 0), (117, .v (GT.val ({ (el (f_monAt h m).1.guests g.toNat) with exit := (f_faultExit (f_addrPage (f_address (el (f_monAt h m).1.guests g.toNat))) ((f_wantOf (el (f_monAt h m).1.guests g.toNat)) == 4)) } : TGuest) q322)), (118, .v (pt (q140.2 m.toNat).guests.1.b ((q140.2 m.toNat).guests.1.off + g.toNat * 15)))], [GT.cells h ph, Zc THost, [slv h.mem.length q1.mem.1, slv h.mons.length q1.mons.1, slv h.buf.length q1.buf.1, slv h.iobuf.length q1.iobuf.1], GT.cells (f_monAt h m).1 q23, GT.cells ({ (el (f_monAt h m).1.guests g.toNat) with exit := (f_faultExit (f_addrPage (f_address (el (f_monAt h m).1.guests g.toNat))) ((f_wantOf (el (f_monAt h m).1.guests g.toNat)) == 4)) } : TGuest) q322, [slv Y1.1.mem.length q137.1, slv Y1.1.mons.length q140.1, slv Y1.1.buf.length q143.1, slv Y1.1.iobuf.length q146.1]]⟩)
   replace S := S.cast (σ' := ⟨[(6, .p 1 0), (15, .p 5 0), (117, .v (GT.val ({ (el (f_monAt h m).1.guests g.toNat) with exit := (f_faultExit (f_addrPage (f_address (el (f_monAt h m).1.guests g.toNat))) ((f_wantOf (el (f_monAt h m).1.guests g.toNat)) == 4)) } : TGuest) q322)), (118, .v (pt (q140.2 m.toNat).guests.1.b ((q140.2 m.toNat).guests.1.off + g.toNat * 15)))], [GT.cells h ph, Zc THost, [slv h.mem.length q1.mem.1, slv h.mons.length q1.mons.1, slv h.buf.length q1.buf.1, slv h.iobuf.length q1.iobuf.1], GT.cells (f_monAt h m).1 q23, GT.cells ({ (el (f_monAt h m).1.guests g.toNat) with exit := (f_faultExit (f_addrPage (f_address (el (f_monAt h m).1.guests g.toNat))) ((f_wantOf (el (f_monAt h m).1.guests g.toNat)) == 4)) } : TGuest) q322, [slv Y1.1.mem.length q137.1, slv (Y1.1.mons.set m.toNat ({ el Y1.1.mons m.toNat with guests := ((el Y1.1.mons m.toNat).guests.set g.toNat ({ (el (f_monAt h m).1.guests g.toNat) with exit := (f_faultExit (f_addrPage (f_address (el (f_monAt h m).1.guests g.toNat))) ((f_wantOf (el (f_monAt h m).1.guests g.toNat)) == 4)) } : TGuest)) })).length q140.1, slv Y1.1.buf.length q143.1, slv Y1.1.iobuf.length q146.1]]⟩) (by rw [show (Y1.1.mons.set m.toNat ({ el Y1.1.mons m.toNat with guests := ((el Y1.1.mons m.toNat).guests.set g.toNat ({ (el (f_monAt h m).1.guests g.toNat) with exit := (f_faultExit (f_addrPage (f_address (el (f_monAt h m).1.guests g.toNat))) ((f_wantOf (el (f_monAt h m).1.guests g.toNat)) == 4)) } : TGuest)) })).length = Y1.1.mons.length by omega])
   refine WD.done (by kernel_rfl) ?_ _
   refine S.ex fun S => ?_
   refine S.gr 9 .nil [GT.val (⟨Y1.1.mem, (Y1.1.mons.set m.toNat ({ el Y1.1.mons m.toNat with guests := ((el Y1.1.mons m.toNat).guests.set g.toNat ({ (el (f_monAt h m).1.guests g.toNat) with exit := (f_faultExit (f_addrPage (f_address (el (f_monAt h m).1.guests g.toNat))) ((f_wantOf (el (f_monAt h m).1.guests g.toNat)) == 4)) } : TGuest)) })), Y1.1.buf, Y1.1.iobuf⟩ : THost) (⟨q137, (q140.1, p355), q143, q146⟩ : PHost), B true] fun ac w β S => ?_
   have o359 := ow_Host (x := (⟨Y1.1.mem, (Y1.1.mons.set m.toNat ({ el Y1.1.mons m.toNat with guests := ((el Y1.1.mons m.toNat).guests.set g.toNat ({ (el (f_monAt h m).1.guests g.toNat) with exit := (f_faultExit (f_addrPage (f_address (el (f_monAt h m).1.guests g.toNat))) ((f_wantOf (el (f_monAt h m).1.guests g.toNat)) == 4)) } : TGuest)) })), Y1.1.buf, Y1.1.iobuf⟩ : THost)) (p := (⟨q137, (q140.1, p355), q143, q146⟩ : PHost)) o136 o356 o142 o145 (Disj.symm (Disj.or (Disj.symm d319) (Disj.symm d352))) (Disj.symm d315) (Disj.symm d317) (Disj.symm (Disj.symm (Disj.or (Disj.symm d316) (Disj.symm d353)))) (Disj.symm (Disj.symm (Disj.or (Disj.symm d318) (Disj.symm d354)))) d314 
   exact ret2_of (p' := ()) S (show (f_hostStep h m g).1 = (⟨Y1.1.mem, (Y1.1.mons.set m.toNat ({ el Y1.1.mons m.toNat with guests := ((el Y1.1.mons m.toNat).guests.set g.toNat ({ (el (f_monAt h m).1.guests g.toNat) with exit := (f_faultExit (f_addrPage (f_address (el (f_monAt h m).1.guests g.toNat))) ((f_wantOf (el (f_monAt h m).1.guests g.toNat)) == 4)) } : TGuest)) })), Y1.1.buf, Y1.1.iobuf⟩ : THost) from k0_impl_HostStep) (show (f_hostStep h m g).2 = true from k2_impl_HostStep) rfl rfl o359 trivial
  have h360 := not_f h320
  refine S.gd 7 .nil ((f_wantOf (el (f_monAt h m).1.guests g.toNat)) == 4) (fun ac w β h361 g362 S => ?_) (fun ac w β h361 g362 S => ?_)
  ·refine S.go 2 .nil fun ac w β S => ?_
   refine drw ?_
   refine S.draw0 (f := 10) 9 (by kernel_rfl) (by kernel_rfl) fun w S => ?_
   refine S.hq 0 [0] [] [(99, .p 5 0)] .nil fun ac S => ?_
   refine S.hq 1 [1] [] [(100, .v (slv Y1.1.mem.length q137.1))] .nil fun ac S => ?_
   refine S.hq 2 [2] [] [(101, .v (I Y1.2.1))] .nil fun ac S => ?_
   refine S.hq 3 [3] [] [(102, .v (I (f_address (el (f_monAt h m).1.guests g.toNat))))] .nil fun ac S => ?_
   refine S.hq 5 [5] [] [(104, .p 4 1)] .nil fun ac S => ?_
   refine S.hq 6 [6] [] [(105, .v (I (el (f_monAt h m).1.guests g.toNat).acc))] .nil fun ac S => ?_
   refine S.sq 4 [] [(103, .v (I (f_addrCell (f_address (el (f_monAt h m).1.guests g.toNat)))))] 6 [] (.cons (Q_call fun w hw => c_impl_AddrCell w (f_address (el (f_monAt h m).1.guests g.toNat)) (address_in64 (LRd.el (RMon.guests (d := (f_monAt h m).1) o27.rn) g.toNat (by omega)))) .nil) fun ac w β S => ?_
   refine WD.one (i := 7) (by kernel_rfl) ?_
   refine id (S.k1 106 (c_impl_WithCell w Y1.1.mem q137 (S.rd o136.rn) Y1.2.1 (f_addrCell (f_address (el (f_monAt h m).1.guests g.toNat))) (el (f_monAt h m).1.guests g.toNat).acc (RGuest.acc (d := (el (f_monAt h m).1.guests g.toNat)) (LRd.el (RMon.guests (d := (f_monAt h m).1) o27.rn) g.toNat (by omega)))) fun ac w N q363 F364 S up o365 d366 => ?_)
   refine WD.next S up (by kernel_rfl) ?_
   have d373 := Disj.w d366 o139.sub
   have d374 := Disj.w d366 o142.sub
   have d375 := Disj.w d366 o145.sub
   replace o6 := o6.up up
   replace o9 := o9.up up
   replace o12 := o12.up up
   replace o15 := o15.up up
   replace o27 := o27.up up
   replace o136 := o136.up up
   replace o139 := o139.up up
   replace o142 := o142.up up
   replace o145 := o145.up up
   clear up d366
   refine S.hq 8 [8] [] [(107, .p 5 0)] .nil fun ac S => ?_
   refine S.sl 9 [] [] 6 [(5, [slv (f_withCell Y1.1.mem Y1.2.1 (f_addrCell (f_address (el (f_monAt h m).1.guests g.toNat))) (el (f_monAt h m).1.guests g.toNat).acc).length q363.1, slv Y1.1.mons.length q140.1, slv Y1.1.buf.length q143.1, slv Y1.1.iobuf.length q146.1])] .nil fun ac w β S => ?_
   refine WD.done (by kernel_rfl) ?_ _
   refine S.ex fun S => ?_
   refine S.go 3 .nil fun ac w β S => S.K1 (r := f_moved (el (f_monAt h m).1.guests g.toNat)) (d := 109) (c_impl_Stored w (el (f_monAt h m).1.guests g.toNat) (q23.guests.2 g.toNat) (S.rd (LRd.el (RMon.guests (d := (f_monAt h m).1) o27.rn) g.toNat (by omega)))) fun ac w N q376 F377 S up o378 d379 => ?_
   have d385 := Disj.w d379 o139.sub
   have d386 := Disj.w d379 o142.sub
   have d387 := Disj.w d379 o145.sub
   have d388 := Disj.w d379 o365.sub
   replace o6 := o6.up up
   replace o9 := o9.up up
   replace o12 := o12.up up
   replace o15 := o15.up up
   replace o27 := o27.up up
   replace o139 := o139.up up
   replace o142 := o142.up up
   replace o145 := o145.up up
   replace o365 := o365.up up
   clear up d379
   refine S.go 5 .nil fun ac w β S => ?_
   refine drw ?_
   refine S.draw0 (f := 10) 9 (by kernel_rfl) (by kernel_rfl) fun w S => ?_
   refine S.hq 0 [0] [] [(110, .p 5 1)] .nil fun ac S => ?_
   refine S.hq 1 [1] [] [(111, .v (slv Y1.1.mons.length q140.1))] .nil fun ac S => ?_
   refine S.hq 2 [2] [] [(112, .v (I m))] .nil fun ac S => ?_
   refine S.hq 3 [3] [] [(113, .v (pt q140.1.b (q140.1.off + m.toNat * 9)))] (.cons (qt o139.rn m Tryz.underlying57) .nil) fun ac S => ?_
   refine S.hq 4 [4] [] [(114, .v (pt q140.1.b (q140.1.off + m.toNat * 9 + 3)))] .nil fun ac S => ?_
   refine S.hq 5 [5] [] [(115, .v (slv (el Y1.1.mons m.toNat).guests.length (q140.2 m.toNat).guests.1))] (.cons (qc o139.rn 25 m.toNat 3 (slv (el Y1.1.mons m.toNat).guests.length (q140.2 m.toNat).guests.1)) .nil) fun ac S => ?_
   refine S.hq 6 [6] [] [(116, .v (I g))] .nil fun ac S => ?_
   refine S.hq 7 [7] [] [(117, .v (GT.val (f_moved (el (f_monAt h m).1.guests g.toNat)) q376))] .nil fun ac S => ?_
   refine S.hq 8 [8] [] [(118, .v (pt (q140.2 m.toNat).guests.1.b ((q140.2 m.toNat).guests.1.off + g.toNat * 15)))] (.cons (qt (RMon.guests (d := (el Y1.1.mons m.toNat)) (LRd.el o139.rn m.toNat (by omega))) g Tryz.underlying25) .nil) fun ac S => ?_
   refine WD.one (i := 9) (by kernel_rfl) ?_
   obtain ⟨F389, o390, s391, b392⟩ := foc2_Mon_guests o139 (k := m.toNat) (show m.toNat < Y1.1.mons.length by omega)
   have l393 := LRd.le o390.rn
   have n394 := o390.sub
   refine id (S.sV (α := TGuest) o390 (t := 51) (k := g.toNat) (off := (q140.2 m.toNat).guests.1.off + g.toNat * 15) o378 (Disj.symm (Disj.symm (Disj.part d385 s391))) fun w N F396 q397 S up o395 d398 s399 n400 => ?_)
   refine WD.last (by kernel_rfl) ?_
   have d406 := d398 _ (Disj.symm (Disj.part (Disj.symm d316) s391)) d386 o142.sub
   have d407 := d398 _ (Disj.symm (Disj.part (Disj.symm d318) s391)) d387 o145.sub
   have d408 := d398 _ (Disj.symm (Disj.part d373 s391)) d388 o365.sub
   replace o6 := o6.upF (Disj.symm (Disj.part (Disj.symm d297) s391)) up
   replace o9 := o9.upF (Disj.symm (Disj.part (Disj.symm d301) s391)) up
   replace o12 := o12.upF (Disj.symm (Disj.part (Disj.symm d305) s391)) up
   replace o15 := o15.upF (Disj.symm (Disj.part (Disj.symm d309) s391)) up
   replace o27 := o27.upF (Disj.symm (Disj.part (Disj.symm d313) s391)) up
   replace o142 := o142.upF (Disj.symm (Disj.part (Disj.symm d316) s391)) up
   replace o145 := o145.upF (Disj.symm (Disj.part (Disj.symm d318) s391)) up
   replace o365 := o365.upF (Disj.symm (Disj.part d373 s391)) up
   clear d398 o390
   obtain ⟨p409, o410, c411⟩ := b392 _ _ _ _ _ F377 up o395 s399 d385 (by show [slv _ _] = [slv _ _]; rw [List.length_set]) (fun b h => n400 b (n394 b h))
   clear up o395 n400
   have l412 : (Y1.1.mons.set m.toNat ({ el Y1.1.mons m.toNat with guests := ((el Y1.1.mons m.toNat).guests.set g.toNat (f_moved (el (f_monAt h m).1.guests g.toNat))) })).length = Y1.1.mons.length := List.length_set
   replace S := S.z (σ' := ⟨[(6, .p 1 0), (15, .p 5 0), (117, .v (GT.val (f_moved (el (f_monAt h m).1.guests g.toNat)) q376)), (118, .v (pt (q140.2 m.toNat).guests.1.b ((q140.2 m.toNat).guests.1.off + g.toNat * 15)))], [GT.cells h ph, Zc THost, [slv h.mem.length q1.mem.1, slv h.mons.length q1.mons.1, slv h.buf.length q1.buf.1, slv h.iobuf.length q1.iobuf.1], GT.cells (f_monAt h m).1 q23, GT.cells (f_moved (el (f_monAt h m).1.guests g.toNat)) q376, [slv (f_withCell Y1.1.mem Y1.2.1 (f_addrCell (f_address (el (f_monAt h m).1.guests g.toNat))) (el (f_monAt h m).1.guests g.toNat).acc).length q363.1, slv Y1.1.mons.length q140.1, slv Y1.1.buf.length q143.1, slv Y1.1.iobuf.length q146.1]]⟩)
   replace S := S.cast (σ' := ⟨[(6, .p 1 0), (15, .p 5 0), (117, .v (GT.val (f_moved (el (f_monAt h m).1.guests g.toNat)) q376)), (118, .v (pt (q140.2 m.toNat).guests.1.b ((q140.2 m.toNat).guests.1.off + g.toNat * 15)))], [GT.cells h ph, Zc THost, [slv h.mem.length q1.mem.1, slv h.mons.length q1.mons.1, slv h.buf.length q1.buf.1, slv h.iobuf.length q1.iobuf.1], GT.cells (f_monAt h m).1 q23, GT.cells (f_moved (el (f_monAt h m).1.guests g.toNat)) q376, [slv (f_withCell Y1.1.mem Y1.2.1 (f_addrCell (f_address (el (f_monAt h m).1.guests g.toNat))) (el (f_monAt h m).1.guests g.toNat).acc).length q363.1, slv (Y1.1.mons.set m.toNat ({ el Y1.1.mons m.toNat with guests := ((el Y1.1.mons m.toNat).guests.set g.toNat (f_moved (el (f_monAt h m).1.guests g.toNat))) })).length q140.1, slv Y1.1.buf.length q143.1, slv Y1.1.iobuf.length q146.1]]⟩) (by rw [show (Y1.1.mons.set m.toNat ({ el Y1.1.mons m.toNat with guests := ((el Y1.1.mons m.toNat).guests.set g.toNat (f_moved (el (f_monAt h m).1.guests g.toNat))) })).length = Y1.1.mons.length by omega])
   refine WD.done (by kernel_rfl) ?_ _
   refine S.ex fun S => ?_
   refine S.gr 9 .nil [GT.val (⟨(f_withCell Y1.1.mem Y1.2.1 (f_addrCell (f_address (el (f_monAt h m).1.guests g.toNat))) (el (f_monAt h m).1.guests g.toNat).acc), (Y1.1.mons.set m.toNat ({ el Y1.1.mons m.toNat with guests := ((el Y1.1.mons m.toNat).guests.set g.toNat (f_moved (el (f_monAt h m).1.guests g.toNat))) })), Y1.1.buf, Y1.1.iobuf⟩ : THost) (⟨q363, (q140.1, p409), q143, q146⟩ : PHost), B true] fun ac w β S => ?_
   have o413 := ow_Host (x := (⟨(f_withCell Y1.1.mem Y1.2.1 (f_addrCell (f_address (el (f_monAt h m).1.guests g.toNat))) (el (f_monAt h m).1.guests g.toNat).acc), (Y1.1.mons.set m.toNat ({ el Y1.1.mons m.toNat with guests := ((el Y1.1.mons m.toNat).guests.set g.toNat (f_moved (el (f_monAt h m).1.guests g.toNat))) })), Y1.1.buf, Y1.1.iobuf⟩ : THost)) (p := (⟨q363, (q140.1, p409), q143, q146⟩ : PHost)) o365 o410 o142 o145 (Disj.symm (Disj.or d373 (Disj.symm d408))) (Disj.symm d374) (Disj.symm d375) (Disj.symm (Disj.symm (Disj.or (Disj.symm d316) (Disj.symm d406)))) (Disj.symm (Disj.symm (Disj.or (Disj.symm d318) (Disj.symm d407)))) d314 
   exact ret2_of (p' := ()) S (show (f_hostStep h m g).1 = (⟨(f_withCell Y1.1.mem Y1.2.1 (f_addrCell (f_address (el (f_monAt h m).1.guests g.toNat))) (el (f_monAt h m).1.guests g.toNat).acc), (Y1.1.mons.set m.toNat ({ el Y1.1.mons m.toNat with guests := ((el Y1.1.mons m.toNat).guests.set g.toNat (f_moved (el (f_monAt h m).1.guests g.toNat))) })), Y1.1.buf, Y1.1.iobuf⟩ : THost) from k0_impl_HostStep) (show (f_hostStep h m g).2 = true from k2_impl_HostStep) rfl rfl o413 trivial
  refine S.go 1 .nil fun ac w β S => ?_
  refine drw ?_
  refine S.draw0 (f := 9) 8 (by kernel_rfl) (by kernel_rfl) fun w S => ?_
  refine S.hq 0 [0] [] [(80, .v (GT.val (el (f_monAt h m).1.guests g.toNat) (q23.guests.2 g.toNat)))] .nil fun ac S => ?_
  refine S.hq 1 [1] [] [(81, .p 5 0)] .nil fun ac S => ?_
  refine S.hq 2 [2] [] [(82, .v (slv Y1.1.mem.length q137.1))] .nil fun ac S => ?_
  refine S.hq 3 [3] [] [(83, .v (I Y1.2.1))] .nil fun ac S => ?_
  refine S.hq 4 [4] [] [(84, .v (I (f_address (el (f_monAt h m).1.guests g.toNat))))] .nil fun ac S => ?_
  refine S.sq 5 [] [(85, .v (I (f_addrCell (f_address (el (f_monAt h m).1.guests g.toNat)))))] 6 [] (.cons (Q_call fun w hw => c_impl_AddrCell w (f_address (el (f_monAt h m).1.guests g.toNat)) (address_in64 (LRd.el (RMon.guests (d := (f_monAt h m).1) o27.rn) g.toNat (by omega)))) .nil) fun ac w β S => ?_
  refine S.sq 6 [] [(86, .v (I (f_cellAt Y1.1.mem Y1.2.1 (f_addrCell (f_address (el (f_monAt h m).1.guests g.toNat))))))] 6 [] (.cons (Q_call fun w hw => c_impl_CellAt w Y1.1.mem q137 (rd_of o136.rn hw) Y1.2.1 (f_addrCell (f_address (el (f_monAt h m).1.guests g.toNat)))) .nil) fun ac w β S => ?_
  refine WD.one (i := 7) (by kernel_rfl) ?_
  refine id (S.k1 87 (c_impl_Loaded w (el (f_monAt h m).1.guests g.toNat) (q23.guests.2 g.toNat) (S.rd (LRd.el (RMon.guests (d := (f_monAt h m).1) o27.rn) g.toNat (by omega))) (f_cellAt Y1.1.mem Y1.2.1 (f_addrCell (f_address (el (f_monAt h m).1.guests g.toNat)))) (cellAt_in64 o136.rn Y1.2.1 (f_addrCell (f_address (el (f_monAt h m).1.guests g.toNat))))) fun ac w N q414 F415 S up o416 d417 => ?_)
  refine WD.next S up (by kernel_rfl) ?_
  have d423 := Disj.w d417 o136.sub
  have d424 := Disj.w d417 o139.sub
  have d425 := Disj.w d417 o142.sub
  have d426 := Disj.w d417 o145.sub
  replace o6 := o6.up up
  replace o9 := o9.up up
  replace o12 := o12.up up
  replace o15 := o15.up up
  replace o27 := o27.up up
  replace o136 := o136.up up
  replace o139 := o139.up up
  replace o142 := o142.up up
  replace o145 := o145.up up
  clear up d417
  refine S.sl 8 [] [] 6 [(4, GT.cells (f_loaded (el (f_monAt h m).1.guests g.toNat) (f_cellAt Y1.1.mem Y1.2.1 (f_addrCell (f_address (el (f_monAt h m).1.guests g.toNat))))) q414)] .nil fun ac w β S => ?_
  refine WD.done (by kernel_rfl) ?_ _
  refine S.ex fun S => ?_
  refine S.go 3 .nil fun ac w β S => ?_
  refine drw ?_
  refine S.draw0 (f := 10) 9 (by kernel_rfl) (by kernel_rfl) fun w S => ?_
  refine S.hq 0 [0] [] [(110, .p 5 1)] .nil fun ac S => ?_
  refine S.hq 1 [1] [] [(111, .v (slv Y1.1.mons.length q140.1))] .nil fun ac S => ?_
  refine S.hq 2 [2] [] [(112, .v (I m))] .nil fun ac S => ?_
  refine S.hq 3 [3] [] [(113, .v (pt q140.1.b (q140.1.off + m.toNat * 9)))] (.cons (qt o139.rn m Tryz.underlying57) .nil) fun ac S => ?_
  refine S.hq 4 [4] [] [(114, .v (pt q140.1.b (q140.1.off + m.toNat * 9 + 3)))] .nil fun ac S => ?_
  refine S.hq 5 [5] [] [(115, .v (slv (el Y1.1.mons m.toNat).guests.length (q140.2 m.toNat).guests.1))] (.cons (qc o139.rn 25 m.toNat 3 (slv (el Y1.1.mons m.toNat).guests.length (q140.2 m.toNat).guests.1)) .nil) fun ac S => ?_
  refine S.hq 6 [6] [] [(116, .v (I g))] .nil fun ac S => ?_
  refine S.hq 7 [7] [] [(117, .v (GT.val (f_loaded (el (f_monAt h m).1.guests g.toNat) (f_cellAt Y1.1.mem Y1.2.1 (f_addrCell (f_address (el (f_monAt h m).1.guests g.toNat))))) q414))] .nil fun ac S => ?_
  refine S.hq 8 [8] [] [(118, .v (pt (q140.2 m.toNat).guests.1.b ((q140.2 m.toNat).guests.1.off + g.toNat * 15)))] (.cons (qt (RMon.guests (d := (el Y1.1.mons m.toNat)) (LRd.el o139.rn m.toNat (by omega))) g Tryz.underlying25) .nil) fun ac S => ?_
  refine WD.one (i := 9) (by kernel_rfl) ?_
  obtain ⟨F427, o428, s429, b430⟩ := foc2_Mon_guests o139 (k := m.toNat) (show m.toNat < Y1.1.mons.length by omega)
  have l431 := LRd.le o428.rn
  have n432 := o428.sub
  refine id (S.sV (α := TGuest) o428 (t := 51) (k := g.toNat) (off := (q140.2 m.toNat).guests.1.off + g.toNat * 15) o416 (Disj.symm (Disj.symm (Disj.part d424 s429))) fun w N F434 q435 S up o433 d436 s437 n438 => ?_)
  refine WD.last (by kernel_rfl) ?_
  have d444 := d436 _ (Disj.symm (Disj.part (Disj.symm d319) s429)) d423 o136.sub
  have d445 := d436 _ (Disj.symm (Disj.part (Disj.symm d316) s429)) d425 o142.sub
  have d446 := d436 _ (Disj.symm (Disj.part (Disj.symm d318) s429)) d426 o145.sub
  replace o6 := o6.upF (Disj.symm (Disj.part (Disj.symm d297) s429)) up
  replace o9 := o9.upF (Disj.symm (Disj.part (Disj.symm d301) s429)) up
  replace o12 := o12.upF (Disj.symm (Disj.part (Disj.symm d305) s429)) up
  replace o15 := o15.upF (Disj.symm (Disj.part (Disj.symm d309) s429)) up
  replace o27 := o27.upF (Disj.symm (Disj.part (Disj.symm d313) s429)) up
  replace o136 := o136.upF (Disj.symm (Disj.part (Disj.symm d319) s429)) up
  replace o142 := o142.upF (Disj.symm (Disj.part (Disj.symm d316) s429)) up
  replace o145 := o145.upF (Disj.symm (Disj.part (Disj.symm d318) s429)) up
  clear d436 o428
  obtain ⟨p447, o448, c449⟩ := b430 _ _ _ _ _ F415 up o433 s437 d424 (by show [slv _ _] = [slv _ _]; rw [List.length_set]) (fun b h => n438 b (n432 b h))
  clear up o433 n438
  have l450 : (Y1.1.mons.set m.toNat ({ el Y1.1.mons m.toNat with guests := ((el Y1.1.mons m.toNat).guests.set g.toNat (f_loaded (el (f_monAt h m).1.guests g.toNat) (f_cellAt Y1.1.mem Y1.2.1 (f_addrCell (f_address (el (f_monAt h m).1.guests g.toNat)))))) })).length = Y1.1.mons.length := List.length_set
  replace S := S.z (σ' := ⟨[(6, .p 1 0), (15, .p 5 0), (117, .v (GT.val (f_loaded (el (f_monAt h m).1.guests g.toNat) (f_cellAt Y1.1.mem Y1.2.1 (f_addrCell (f_address (el (f_monAt h m).1.guests g.toNat))))) q414)), (118, .v (pt (q140.2 m.toNat).guests.1.b ((q140.2 m.toNat).guests.1.off + g.toNat * 15)))], [GT.cells h ph, Zc THost, [slv h.mem.length q1.mem.1, slv h.mons.length q1.mons.1, slv h.buf.length q1.buf.1, slv h.iobuf.length q1.iobuf.1], GT.cells (f_monAt h m).1 q23, GT.cells (f_loaded (el (f_monAt h m).1.guests g.toNat) (f_cellAt Y1.1.mem Y1.2.1 (f_addrCell (f_address (el (f_monAt h m).1.guests g.toNat))))) q414, [slv Y1.1.mem.length q137.1, slv Y1.1.mons.length q140.1, slv Y1.1.buf.length q143.1, slv Y1.1.iobuf.length q146.1]]⟩)
  replace S := S.cast (σ' := ⟨[(6, .p 1 0), (15, .p 5 0), (117, .v (GT.val (f_loaded (el (f_monAt h m).1.guests g.toNat) (f_cellAt Y1.1.mem Y1.2.1 (f_addrCell (f_address (el (f_monAt h m).1.guests g.toNat))))) q414)), (118, .v (pt (q140.2 m.toNat).guests.1.b ((q140.2 m.toNat).guests.1.off + g.toNat * 15)))], [GT.cells h ph, Zc THost, [slv h.mem.length q1.mem.1, slv h.mons.length q1.mons.1, slv h.buf.length q1.buf.1, slv h.iobuf.length q1.iobuf.1], GT.cells (f_monAt h m).1 q23, GT.cells (f_loaded (el (f_monAt h m).1.guests g.toNat) (f_cellAt Y1.1.mem Y1.2.1 (f_addrCell (f_address (el (f_monAt h m).1.guests g.toNat))))) q414, [slv Y1.1.mem.length q137.1, slv (Y1.1.mons.set m.toNat ({ el Y1.1.mons m.toNat with guests := ((el Y1.1.mons m.toNat).guests.set g.toNat (f_loaded (el (f_monAt h m).1.guests g.toNat) (f_cellAt Y1.1.mem Y1.2.1 (f_addrCell (f_address (el (f_monAt h m).1.guests g.toNat)))))) })).length q140.1, slv Y1.1.buf.length q143.1, slv Y1.1.iobuf.length q146.1]]⟩) (by rw [show (Y1.1.mons.set m.toNat ({ el Y1.1.mons m.toNat with guests := ((el Y1.1.mons m.toNat).guests.set g.toNat (f_loaded (el (f_monAt h m).1.guests g.toNat) (f_cellAt Y1.1.mem Y1.2.1 (f_addrCell (f_address (el (f_monAt h m).1.guests g.toNat)))))) })).length = Y1.1.mons.length by omega])
  refine WD.done (by kernel_rfl) ?_ _
  refine S.ex fun S => ?_
  refine S.gr 9 .nil [GT.val (⟨Y1.1.mem, (Y1.1.mons.set m.toNat ({ el Y1.1.mons m.toNat with guests := ((el Y1.1.mons m.toNat).guests.set g.toNat (f_loaded (el (f_monAt h m).1.guests g.toNat) (f_cellAt Y1.1.mem Y1.2.1 (f_addrCell (f_address (el (f_monAt h m).1.guests g.toNat)))))) })), Y1.1.buf, Y1.1.iobuf⟩ : THost) (⟨q137, (q140.1, p447), q143, q146⟩ : PHost), B true] fun ac w β S => ?_
  have o451 := ow_Host (x := (⟨Y1.1.mem, (Y1.1.mons.set m.toNat ({ el Y1.1.mons m.toNat with guests := ((el Y1.1.mons m.toNat).guests.set g.toNat (f_loaded (el (f_monAt h m).1.guests g.toNat) (f_cellAt Y1.1.mem Y1.2.1 (f_addrCell (f_address (el (f_monAt h m).1.guests g.toNat)))))) })), Y1.1.buf, Y1.1.iobuf⟩ : THost)) (p := (⟨q137, (q140.1, p447), q143, q146⟩ : PHost)) o136 o448 o142 o145 (Disj.symm (Disj.or (Disj.symm d319) (Disj.symm d444))) (Disj.symm d315) (Disj.symm d317) (Disj.symm (Disj.symm (Disj.or (Disj.symm d316) (Disj.symm d445)))) (Disj.symm (Disj.symm (Disj.or (Disj.symm d318) (Disj.symm d446)))) d314 
  exact ret2_of (p' := ()) S (show (f_hostStep h m g).1 = (⟨Y1.1.mem, (Y1.1.mons.set m.toNat ({ el Y1.1.mons m.toNat with guests := ((el Y1.1.mons m.toNat).guests.set g.toNat (f_loaded (el (f_monAt h m).1.guests g.toNat) (f_cellAt Y1.1.mem Y1.2.1 (f_addrCell (f_address (el (f_monAt h m).1.guests g.toNat)))))) })), Y1.1.buf, Y1.1.iobuf⟩ : THost) from k0_impl_HostStep) (show (f_hostStep h m g).2 = true from k2_impl_HostStep) rfl rfl o451 trivial
 refine S.gd 6 .nil ((f_wantOf (el (f_monAt h m).1.guests g.toNat)) == 4) (fun ac w β h452 g453 S => ?_) (fun ac w β h452 g453 S => ?_)
 ·refine S.go 9 .nil fun ac w β S => ?_
  refine drw ?_
  let σ454 : Sy := ⟨[(1, .v (I m)), (2, .v (I g)), (3, .p 0 0), (6, .p 1 0), (11, .p 4 0), (13, .v (I (f_address (el (f_monAt h m).1.guests g.toNat)))), (14, .v (B ((f_wantOf (el (f_monAt h m).1.guests g.toNat)) == 4)))], [GT.cells h ph, Zc THost, [slv h.mem.length q1.mem.1, slv h.mons.length q1.mons.1, slv h.buf.length q1.buf.1, slv h.iobuf.length q1.iobuf.1], GT.cells (f_monAt h m).1 q23, GT.cells (el (f_monAt h m).1.guests g.toNat) (q23.guests.2 g.toNat)]⟩
  obtain ⟨u0, N0, β0, S, o6, o9, o12, o15, o27⟩ : ∃ u0 N0 β0, St Tryz.prog Tryz.f28.ntmps w0 NoB u0 N0 β0 σ454 ac w ∧ Ow w0 NoB u0 N0 F5 h.mem q1.mem ∧ Ow w0 NoB u0 N0 F8 h.mons q1.mons ∧ Ow w0 NoB u0 N0 F11 h.buf q1.buf ∧ Ow w0 NoB u0 N0 F14 h.iobuf q1.iobuf ∧ Ow w0 NoB u0 N0 F25 (f_monAt h m).1 q23 := ⟨_, _, _, S.z, o6, o9, o12, o15, o27⟩
  obtain ⟨Y1, hT1⟩ : ∃ z, z = f_lookup h m g (f_addrPage (f_address (el (f_monAt h m).1.guests g.toNat))) (f_needOf ((f_wantOf (el (f_monAt h m).1.guests g.toNat)) == 4)) false := ⟨_, rfl⟩
  have l621 := lookup_mons (congrArg Prod.fst hT1) (hs_ok (by assumption) (by assumption) (by assumption))
  try dsimp only at l621
  obtain ⟨Y1, hT1⟩ : ∃ z, z = f_lookup h m g (f_addrPage (f_address (el (f_monAt h m).1.guests g.toNat))) (f_needOf ((f_wantOf (el (f_monAt h m).1.guests g.toNat)) == 4)) false := ⟨_, rfl⟩
  have l652 := lookup_mons (congrArg Prod.fst hT1) (hs_ok (by assumption) (by assumption) (by assumption))
  try dsimp only at l652
  refine wp_region_cut (fun ac w => ∃ q534 F535 q537 F538 q528 F529 q531 F532 u N β, St Tryz.prog Tryz.f28.ntmps w0 NoB u N β (σ454.dl [3] [(15, .p 5 0), (16, .v (I Y1.2.1)), (17, .v (B Y1.2.2))] 6 [(5, [slv Y1.1.mem.length q528.1, slv Y1.1.mons.length q531.1, slv Y1.1.buf.length q534.1, slv Y1.1.iobuf.length q537.1])]) ac w ∧ Ow w0 NoB u N F5 h.mem q1.mem ∧ Ow w0 NoB u N F8 h.mons q1.mons ∧ Ow w0 NoB u N F11 h.buf q1.buf ∧ Ow w0 NoB u N F14 h.iobuf q1.iobuf ∧ Ow w0 NoB u N F25 (f_monAt h m).1 q23 ∧ Ow w0 NoB u N F535 Y1.1.buf q534 ∧ Ow w0 NoB u N F538 Y1.1.iobuf q537 ∧ Ow w0 NoB u N F529 Y1.1.mem q528 ∧ Ow w0 NoB u N F532 Y1.1.mons q531 ∧ Disj F5 F535 ∧ Disj F5 F538 ∧ Disj F5 F529 ∧ Disj F5 F532 ∧ Disj F8 F535 ∧ Disj F8 F538 ∧ Disj F8 F529 ∧ Disj F8 F532 ∧ Disj F11 F535 ∧ Disj F11 F538 ∧ Disj F11 F529 ∧ Disj F11 F532 ∧ Disj F14 F535 ∧ Disj F14 F538 ∧ Disj F14 F529 ∧ Disj F14 F532 ∧ Disj F25 F535 ∧ Disj F25 F538 ∧ Disj F25 F529 ∧ Disj F25 F532 ∧ Disj F535 F538 ∧ Disj F535 F529 ∧ Disj F535 F532 ∧ Disj F538 F529 ∧ Disj F538 F532 ∧ Disj F529 F532) ?_ ?_
  ·refine S.draw0 (f := 16) 13 (by kernel_rfl) (by kernel_rfl) fun w S => ?_
   refine S.hq 0 [0] [] [(69, .v (GT.val h ph))] .nil fun ac S => ?_
   refine S.hq 1 [1] [] [(70, .v (I m))] .nil fun ac S => ?_
   refine S.hq 2 [2] [] [(71, .v (I g))] .nil fun ac S => ?_
   refine S.hq 3 [3] [] [(72, .v (I (f_address (el (f_monAt h m).1.guests g.toNat))))] .nil fun ac S => ?_
   refine S.hq 5 [5] [] [(74, .v (B ((f_wantOf (el (f_monAt h m).1.guests g.toNat)) == 4)))] .nil fun ac S => ?_
   refine WD.nameW fun W hW => ?_
   refine WD.castW (l' := mkL 16 [0, 1, 2, 3, 5]) (by kernel_rfl) ?_
   have hK539 ac w q534 F535 q537 F538 q528 F529 q531 F532 u N β (S : St Tryz.prog Tryz.f28.ntmps w0 NoB u N β (σ454.dl [3] [(15, .p 5 0), (16, .v (I Y1.2.1)), (17, .v (B Y1.2.2))] 6 [(5, [slv Y1.1.mem.length q528.1, slv Y1.1.mons.length q531.1, slv Y1.1.buf.length q534.1, slv Y1.1.iobuf.length q537.1])]) ac w) (o6 : Ow w0 NoB u N F5 h.mem q1.mem) (o9 : Ow w0 NoB u N F8 h.mons q1.mons) (o12 : Ow w0 NoB u N F11 h.buf q1.buf) (o15 : Ow w0 NoB u N F14 h.iobuf q1.iobuf) (o27 : Ow w0 NoB u N F25 (f_monAt h m).1 q23) (o533 : Ow w0 NoB u N F535 Y1.1.buf q534) (o536 : Ow w0 NoB u N F538 Y1.1.iobuf q537) (o527 : Ow w0 NoB u N F529 Y1.1.mem q528) (o530 : Ow w0 NoB u N F532 Y1.1.mons q531) (d540 : Disj F5 F535) (d541 : Disj F5 F538) (d542 : Disj F5 F529) (d543 : Disj F5 F532) (d544 : Disj F8 F535) (d545 : Disj F8 F538) (d546 : Disj F8 F529) (d547 : Disj F8 F532) (d548 : Disj F11 F535) (d549 : Disj F11 F538) (d550 : Disj F11 F529) (d551 : Disj F11 F532) (d552 : Disj F14 F535) (d553 : Disj F14 F538) (d554 : Disj F14 F529) (d555 : Disj F14 F532) (d556 : Disj F25 F535) (d557 : Disj F25 F538) (d558 : Disj F25 F529) (d559 : Disj F25 F532) (d560 : Disj F535 F538) (d561 : Disj F535 F529) (d562 : Disj F535 F532) (d563 : Disj F538 F529) (d564 : Disj F538 F532) (d565 : Disj F529 F532) : W 0 (mkL 16 [0, 1, 2, 3, 4, 5, 6, 7, 8, 9, 10, 11, 12, 13, 14, 15]) ac w := by
    exact od hW ⟨rfl, q534, F535, q537, F538, q528, F529, q531, F532, _, _, _, S.z, o6, o9, o12, o15, o27, o533, o536, o527, o530, d540, d541, d542, d543, d544, d545, d546, d547, d548, d549, d550, d551, d552, d553, d554, d555, d556, d557, d558, d559, d560, d561, d562, d563, d564, d565⟩
   have hK566 ac w q492 F493 q495 F496 q486 F487 q489 F490 u N β (S : St Tryz.prog Tryz.f28.ntmps w0 NoB u N β (σ454.dl [3] [(15, .p 5 0), (77, .v (GT.val Y1.1 (⟨q486, q489, q492, q495⟩ : PHost))), (78, .v (I Y1.2.1)), (79, .v (B Y1.2.2))] 6 [(5, Zc THost)]) ac w) (o6 : Ow w0 NoB u N F5 h.mem q1.mem) (o9 : Ow w0 NoB u N F8 h.mons q1.mons) (o12 : Ow w0 NoB u N F11 h.buf q1.buf) (o15 : Ow w0 NoB u N F14 h.iobuf q1.iobuf) (o27 : Ow w0 NoB u N F25 (f_monAt h m).1 q23) (o491 : Ow w0 NoB u N F493 Y1.1.buf q492) (o494 : Ow w0 NoB u N F496 Y1.1.iobuf q495) (o485 : Ow w0 NoB u N F487 Y1.1.mem q486) (o488 : Ow w0 NoB u N F490 Y1.1.mons q489) (d567 : Disj F5 F493) (d568 : Disj F5 F496) (d569 : Disj F5 F487) (d570 : Disj F5 F490) (d571 : Disj F8 F493) (d572 : Disj F8 F496) (d573 : Disj F8 F487) (d574 : Disj F8 F490) (d575 : Disj F11 F493) (d576 : Disj F11 F496) (d577 : Disj F11 F487) (d578 : Disj F11 F490) (d579 : Disj F14 F493) (d580 : Disj F14 F496) (d581 : Disj F14 F487) (d582 : Disj F14 F490) (d583 : Disj F25 F493) (d584 : Disj F25 F496) (d585 : Disj F25 F487) (d586 : Disj F25 F490) (d587 : Disj F493 F496) (d588 : Disj F493 F487) (d589 : Disj F493 F490) (d590 : Disj F496 F487) (d591 : Disj F496 F490) (d592 : Disj F487 F490) (hNN : NN N0 u0 N u) (hBB : BB σ454.bx.length β0 β) : W 3 (mkL 16 [0, 1, 2, 3, 4, 5, 6, 7, 8, 9, 10, 11, 12]) ac w := by
    exact ox1 hW 13 (S.wl hW [14, 15] .nil fun _ _ _ S => hK539 _ _ q492 F493 q495 F496 q486 F487 q489 F490 _ _ _ S o6 o9 o12 o15 o27 o491 o494 o485 o488 d567 d568 d569 d570 d571 d572 d573 d574 d575 d576 d577 d578 d579 d580 d581 d582 d583 d584 d585 d586 d587 d588 d589 d590 d591 d592)
   have hK593 ac w q492 F493 q495 F496 q486 F487 q489 F490 u N β (S : St Tryz.prog Tryz.f28.ntmps w0 NoB u N β (σ454.dl [3] [(77, .v (GT.val Y1.1 (⟨q486, q489, q492, q495⟩ : PHost))), (78, .v (I Y1.2.1)), (79, .v (B Y1.2.2))] 5 []) ac w) (o6 : Ow w0 NoB u N F5 h.mem q1.mem) (o9 : Ow w0 NoB u N F8 h.mons q1.mons) (o12 : Ow w0 NoB u N F11 h.buf q1.buf) (o15 : Ow w0 NoB u N F14 h.iobuf q1.iobuf) (o27 : Ow w0 NoB u N F25 (f_monAt h m).1 q23) (o491 : Ow w0 NoB u N F493 Y1.1.buf q492) (o494 : Ow w0 NoB u N F496 Y1.1.iobuf q495) (o485 : Ow w0 NoB u N F487 Y1.1.mem q486) (o488 : Ow w0 NoB u N F490 Y1.1.mons q489) (d594 : Disj F5 F493) (d595 : Disj F5 F496) (d596 : Disj F5 F487) (d597 : Disj F5 F490) (d598 : Disj F8 F493) (d599 : Disj F8 F496) (d600 : Disj F8 F487) (d601 : Disj F8 F490) (d602 : Disj F11 F493) (d603 : Disj F11 F496) (d604 : Disj F11 F487) (d605 : Disj F11 F490) (d606 : Disj F14 F493) (d607 : Disj F14 F496) (d608 : Disj F14 F487) (d609 : Disj F14 F490) (d610 : Disj F25 F493) (d611 : Disj F25 F496) (d612 : Disj F25 F487) (d613 : Disj F25 F490) (d614 : Disj F493 F496) (d615 : Disj F493 F487) (d616 : Disj F493 F490) (d617 : Disj F496 F487) (d618 : Disj F496 F490) (d619 : Disj F487 F490) (hNN : NN N0 u0 N u) (hBB : BB σ454.bx.length β0 β) : W 4 (mkL 16 [0, 1, 2, 3, 4, 5, 6, 7, 8, 9, 10, 11]) ac w := by
    exact ox1 hW 12 (S.wq hW hNN hBB [] .nil fun _ _ _ S hB => hK566 _ _ q492 F493 q495 F496 q486 F487 q489 F490 _ _ _ S o6 o9 o12 o15 o27 o491 o494 o485 o488 d594 d595 d596 d597 d598 d599 d600 d601 d602 d603 d604 d605 d606 d607 d608 d609 d610 d611 d612 d613 d614 d615 d616 d617 d618 d619 hNN hB)
   have hK620 ac w u N β (S : St Tryz.prog Tryz.f28.ntmps w0 NoB u N β (σ454.dl [3] [(15, .p 5 0), (69, .v (GT.val h ph)), (70, .v (I m)), (71, .v (I g)), (73, .v (I (f_addrPage (f_address (el (f_monAt h m).1.guests g.toNat))))), (75, .v (I (f_needOf ((f_wantOf (el (f_monAt h m).1.guests g.toNat)) == 4))))] 6 [(5, Zc THost)]) ac w) (o6 : Ow w0 NoB u N F5 h.mem q1.mem) (o9 : Ow w0 NoB u N F8 h.mons q1.mons) (o12 : Ow w0 NoB u N F11 h.buf q1.buf) (o15 : Ow w0 NoB u N F14 h.iobuf q1.iobuf) (o27 : Ow w0 NoB u N F25 (f_monAt h m).1 q23) (hNN : NN N0 u0 N u) (hBB : BB σ454.bx.length β0 β) : W 8 (mkL 16 [0, 1, 2, 3, 4, 5, 6, 12]) ac w := by
    refine ox1 hW 7 ?_
    refine id (S.call3 (r := Y1.1) (r' := Y1.2.1) (r'' := Y1.2.2) (d := 76) (by rw [hT1]; exact c_impl_Lookup w h ph (S.rd (S.arg hh)) m g (f_addrPage (f_address (el (f_monAt h m).1.guests g.toNat))) (addrPage_in64 (address_in64 (LRd.el (RMon.guests (d := (f_monAt h m).1) o27.rn) g.toNat (by omega)))) (f_needOf ((f_wantOf (el (f_monAt h m).1.guests g.toNat)) == 4))) (by kernel_rfl) rfl fun ac w N q622 F623 S up o624 d625 i626 => ?_)
    have hb627 := fun b h => (⟨(up b (hNN b h).1).1, (up b (hNN b h).1).2.trans (hNN b h).2⟩ : _ ∧ _)
    refine WD.sc S hb627 hBB fun hC => ?_
    have d628 := Disj.w d625 o6.sub
    have d629 := Disj.w d625 o9.sub
    have d630 := Disj.w d625 o12.sub
    have d631 := Disj.w d625 o15.sub
    have d632 := Disj.w d625 o27.sub
    replace o6 := o6.up up
    replace o9 := o9.up up
    replace o12 := o12.up up
    replace o15 := o15.up up
    replace o27 := o27.up up
    clear up d625
    obtain ⟨F633, F636, F639, F642, o634, o637, o640, o643, s635, s638, s641, s644, d645, d646, d647, d648, d649, d650⟩ := sp_Host o624
    exact S.wh hW [8, 9, 10, 11] hC fun _ S => hK566 _ _ q622.buf F639 q622.iobuf F642 q622.mem F633 q622.mons F636 _ _ _ S o6 o9 o12 o15 o27 o640 o643 o634 o637 (Disj.symm (Disj.part (Disj.symm d628) s641)) (Disj.symm (Disj.part (Disj.symm d628) s644)) (Disj.symm (Disj.part (Disj.symm d628) s635)) (Disj.symm (Disj.part (Disj.symm d628) s638)) (Disj.symm (Disj.part (Disj.symm d629) s641)) (Disj.symm (Disj.part (Disj.symm d629) s644)) (Disj.symm (Disj.part (Disj.symm d629) s635)) (Disj.symm (Disj.part (Disj.symm d629) s638)) (Disj.symm (Disj.part (Disj.symm d630) s641)) (Disj.symm (Disj.part (Disj.symm d630) s644)) (Disj.symm (Disj.part (Disj.symm d630) s635)) (Disj.symm (Disj.part (Disj.symm d630) s638)) (Disj.symm (Disj.part (Disj.symm d631) s641)) (Disj.symm (Disj.part (Disj.symm d631) s644)) (Disj.symm (Disj.part (Disj.symm d631) s635)) (Disj.symm (Disj.part (Disj.symm d631) s638)) (Disj.symm (Disj.part (Disj.symm d632) s641)) (Disj.symm (Disj.part (Disj.symm d632) s644)) (Disj.symm (Disj.part (Disj.symm d632) s635)) (Disj.symm (Disj.part (Disj.symm d632) s638)) d650 (Disj.symm d646) (Disj.symm d648) (Disj.symm d647) (Disj.symm d649) d645 hb627 hBB
   have hK651 ac w u N β (S : St Tryz.prog Tryz.f28.ntmps w0 NoB u N β (σ454.dl [3] [(69, .v (GT.val h ph)), (70, .v (I m)), (71, .v (I g)), (73, .v (I (f_addrPage (f_address (el (f_monAt h m).1.guests g.toNat))))), (75, .v (I (f_needOf ((f_wantOf (el (f_monAt h m).1.guests g.toNat)) == 4))))] 5 []) ac w) (o6 : Ow w0 NoB u N F5 h.mem q1.mem) (o9 : Ow w0 NoB u N F8 h.mons q1.mons) (o12 : Ow w0 NoB u N F11 h.buf q1.buf) (o15 : Ow w0 NoB u N F14 h.iobuf q1.iobuf) (o27 : Ow w0 NoB u N F25 (f_monAt h m).1 q23) (hNN : NN N0 u0 N u) (hBB : BB σ454.bx.length β0 β) : W 9 (mkL 16 [0, 1, 2, 3, 4, 5, 6]) ac w := by
    refine ox2 hW 7 12 ?_ (S.wq hW hNN hBB [] .nil fun _ _ _ S hB => hK620 _ _ _ _ _ S o6 o9 o12 o15 o27 hNN hB)
    refine id (S.call3 (r := Y1.1) (r' := Y1.2.1) (r'' := Y1.2.2) (d := 76) (by rw [hT1]; exact c_impl_Lookup w h ph (S.rd (S.arg hh)) m g (f_addrPage (f_address (el (f_monAt h m).1.guests g.toNat))) (addrPage_in64 (address_in64 (LRd.el (RMon.guests (d := (f_monAt h m).1) o27.rn) g.toNat (by omega)))) (f_needOf ((f_wantOf (el (f_monAt h m).1.guests g.toNat)) == 4))) (by kernel_rfl) rfl fun ac w N q653 F654 S up o655 d656 i657 => ?_)
    have hb658 := fun b h => (⟨(up b (hNN b h).1).1, (up b (hNN b h).1).2.trans (hNN b h).2⟩ : _ ∧ _)
    refine WD.sc S hb658 hBB fun hC => ?_
    have d659 := Disj.w d656 o6.sub
    have d660 := Disj.w d656 o9.sub
    have d661 := Disj.w d656 o12.sub
    have d662 := Disj.w d656 o15.sub
    have d663 := Disj.w d656 o27.sub
    replace o6 := o6.up up
    replace o9 := o9.up up
    replace o12 := o12.up up
    replace o15 := o15.up up
    replace o27 := o27.up up
    clear up d656
    obtain ⟨F664, F667, F670, F673, o665, o668, o671, o674, s666, s669, s672, s675, d676, d677, d678, d679, d680, d681⟩ := sp_Host o655
    exact S.wh hW [8, 9, 10, 11] hC fun _ S => hK593 _ _ q653.buf F670 q653.iobuf F673 q653.mem F664 q653.mons F667 _ _ _ S o6 o9 o12 o15 o27 o671 o674 o665 o668 (Disj.symm (Disj.part (Disj.symm d659) s672)) (Disj.symm (Disj.part (Disj.symm d659) s675)) (Disj.symm (Disj.part (Disj.symm d659) s666)) (Disj.symm (Disj.part (Disj.symm d659) s669)) (Disj.symm (Disj.part (Disj.symm d660) s672)) (Disj.symm (Disj.part (Disj.symm d660) s675)) (Disj.symm (Disj.part (Disj.symm d660) s666)) (Disj.symm (Disj.part (Disj.symm d660) s669)) (Disj.symm (Disj.part (Disj.symm d661) s672)) (Disj.symm (Disj.part (Disj.symm d661) s675)) (Disj.symm (Disj.part (Disj.symm d661) s666)) (Disj.symm (Disj.part (Disj.symm d661) s669)) (Disj.symm (Disj.part (Disj.symm d662) s672)) (Disj.symm (Disj.part (Disj.symm d662) s675)) (Disj.symm (Disj.part (Disj.symm d662) s666)) (Disj.symm (Disj.part (Disj.symm d662) s669)) (Disj.symm (Disj.part (Disj.symm d663) s672)) (Disj.symm (Disj.part (Disj.symm d663) s675)) (Disj.symm (Disj.part (Disj.symm d663) s666)) (Disj.symm (Disj.part (Disj.symm d663) s669)) d681 (Disj.symm d677) (Disj.symm d679) (Disj.symm d678) (Disj.symm d680) d676 hb658 hBB
   have hK682 ac w u N β (S : St Tryz.prog Tryz.f28.ntmps w0 NoB u N β (σ454.dl [3] [(15, .p 5 0), (69, .v (GT.val h ph)), (70, .v (I m)), (71, .v (I g)), (73, .v (I (f_addrPage (f_address (el (f_monAt h m).1.guests g.toNat))))), (74, .v (B ((f_wantOf (el (f_monAt h m).1.guests g.toNat)) == 4)))] 6 [(5, Zc THost)]) ac w) (o6 : Ow w0 NoB u N F5 h.mem q1.mem) (o9 : Ow w0 NoB u N F8 h.mons q1.mons) (o12 : Ow w0 NoB u N F11 h.buf q1.buf) (o15 : Ow w0 NoB u N F14 h.iobuf q1.iobuf) (o27 : Ow w0 NoB u N F25 (f_monAt h m).1 q23) (hNN : NN N0 u0 N u) (hBB : BB σ454.bx.length β0 β) : W 9 (mkL 16 [0, 1, 2, 3, 4, 5, 12]) ac w := by
    exact ox1 hW 6 (S.wq hW hNN hBB [] (.cons (Q_call fun w hw => c_impl_NeedOf w ((f_wantOf (el (f_monAt h m).1.guests g.toNat)) == 4)) .nil) fun _ _ _ S hB => hK620 _ _ _ _ _ S o6 o9 o12 o15 o27 hNN hB)
   have hK683 ac w u N β (S : St Tryz.prog Tryz.f28.ntmps w0 NoB u N β (σ454.dl [3] [(69, .v (GT.val h ph)), (70, .v (I m)), (71, .v (I g)), (73, .v (I (f_addrPage (f_address (el (f_monAt h m).1.guests g.toNat))))), (74, .v (B ((f_wantOf (el (f_monAt h m).1.guests g.toNat)) == 4)))] 5 []) ac w) (o6 : Ow w0 NoB u N F5 h.mem q1.mem) (o9 : Ow w0 NoB u N F8 h.mons q1.mons) (o12 : Ow w0 NoB u N F11 h.buf q1.buf) (o15 : Ow w0 NoB u N F14 h.iobuf q1.iobuf) (o27 : Ow w0 NoB u N F25 (f_monAt h m).1 q23) (hNN : NN N0 u0 N u) (hBB : BB σ454.bx.length β0 β) : W 10 (mkL 16 [0, 1, 2, 3, 4, 5]) ac w := by
    exact ox2 hW 6 12 (S.wq hW hNN hBB [] (.cons (Q_call fun w hw => c_impl_NeedOf w ((f_wantOf (el (f_monAt h m).1.guests g.toNat)) == 4)) .nil) fun _ _ _ S hB => hK651 _ _ _ _ _ S o6 o9 o12 o15 o27 hNN hB) (S.wq hW hNN hBB [] .nil fun _ _ _ S hB => hK682 _ _ _ _ _ S o6 o9 o12 o15 o27 hNN hB)
   have hK684 ac w u N β (S : St Tryz.prog Tryz.f28.ntmps w0 NoB u N β (σ454.dl [3] [(15, .p 5 0), (69, .v (GT.val h ph)), (70, .v (I m)), (71, .v (I g)), (72, .v (I (f_address (el (f_monAt h m).1.guests g.toNat)))), (74, .v (B ((f_wantOf (el (f_monAt h m).1.guests g.toNat)) == 4)))] 6 [(5, Zc THost)]) ac w) (o6 : Ow w0 NoB u N F5 h.mem q1.mem) (o9 : Ow w0 NoB u N F8 h.mons q1.mons) (o12 : Ow w0 NoB u N F11 h.buf q1.buf) (o15 : Ow w0 NoB u N F14 h.iobuf q1.iobuf) (o27 : Ow w0 NoB u N F25 (f_monAt h m).1 q23) (hNN : NN N0 u0 N u) (hBB : BB σ454.bx.length β0 β) : W 10 (mkL 16 [0, 1, 2, 3, 5, 12]) ac w := by
    exact ox1 hW 4 (S.wq hW hNN hBB [] (.cons (Q_call fun w hw => c_impl_AddrPage w (f_address (el (f_monAt h m).1.guests g.toNat)) (address_in64 (LRd.el (RMon.guests (d := (f_monAt h m).1) o27.rn) g.toNat (by omega)))) .nil) fun _ _ _ S hB => hK682 _ _ _ _ _ S o6 o9 o12 o15 o27 hNN hB)
   have hNN : NN N0 u0 N0 u0 := fun b h => ⟨h, rfl⟩
   have hBB : BB σ454.bx.length β0 β0 := fun _ _ => rfl
   exact ox2 hW 4 12 (S.wq hW hNN hBB [] (.cons (Q_call fun w hw => c_impl_AddrPage w (f_address (el (f_monAt h m).1.guests g.toNat)) (address_in64 (LRd.el (RMon.guests (d := (f_monAt h m).1) o27.rn) g.toNat (by omega)))) .nil) fun _ _ _ S hB => hK683 _ _ _ _ _ S o6 o9 o12 o15 o27 hNN hB) (S.wq hW hNN hBB [] .nil fun _ _ _ S hB => hK684 _ _ _ _ _ S o6 o9 o12 o15 o27 hNN hB)
  clear S o6 o9 o12 o15 o27
  rintro ac w ⟨q534, F535, q537, F538, q528, F529, q531, F532, u, N, β, S, o6, o9, o12, o15, o27, o533, o536, o527, o530, d685, d686, d687, d688, d689, d690, d691, d692, d693, d694, d695, d696, d697, d698, d699, d700, d701, d702, d703, d704, d705, d706, d707, d708, d709, d710⟩
  refine S.ex fun S => ?_
  refine S.gb 10 .nil (!Y1.2.2) (fun ac w β h711 S => ?_) (fun ac w β h711 S => ?_)
  ·have h712 := not_t h711
   refine S.go 1 .nil fun ac w β S => ?_
   refine drw ?_
   refine S.draw0 (f := 7) 6 (by kernel_rfl) (by kernel_rfl) fun w S => ?_
   refine S.hq 0 [0] [] [(91, .v (GT.val (el (f_monAt h m).1.guests g.toNat) (q23.guests.2 g.toNat)))] .nil fun ac S => ?_
   refine S.hq 1 [1] [] [(92, .v (I (f_address (el (f_monAt h m).1.guests g.toNat))))] .nil fun ac S => ?_
   refine S.hq 3 [3] [] [(94, .v (B ((f_wantOf (el (f_monAt h m).1.guests g.toNat)) == 4)))] .nil fun ac S => ?_
   refine S.sq 2 [] [(93, .v (I (f_addrPage (f_address (el (f_monAt h m).1.guests g.toNat)))))] 6 [] (.cons (Q_call fun w hw => c_impl_AddrPage w (f_address (el (f_monAt h m).1.guests g.toNat)) (address_in64 (LRd.el (RMon.guests (d := (f_monAt h m).1) o27.rn) g.toNat (by omega)))) .nil) fun ac w β S => ?_
   refine S.sq 4 [] [(95, .v (GT.val (f_faultExit (f_addrPage (f_address (el (f_monAt h m).1.guests g.toNat))) ((f_wantOf (el (f_monAt h m).1.guests g.toNat)) == 4)) ()))] 6 [] (.cons (Q_call fun w hw => c_impl_FaultExit w (f_addrPage (f_address (el (f_monAt h m).1.guests g.toNat))) (addrPage_in64 (address_in64 (LRd.el (RMon.guests (d := (f_monAt h m).1) o27.rn) g.toNat (by omega)))) ((f_wantOf (el (f_monAt h m).1.guests g.toNat)) == 4)) .nil) fun ac w β S => ?_
   refine WD.one (i := 5) (by kernel_rfl) ?_
   refine id (S.k1 96 (c_impl_Stopped w (el (f_monAt h m).1.guests g.toNat) (q23.guests.2 g.toNat) (S.rd (LRd.el (RMon.guests (d := (f_monAt h m).1) o27.rn) g.toNat (by omega))) (f_faultExit (f_addrPage (f_address (el (f_monAt h m).1.guests g.toNat))) ((f_wantOf (el (f_monAt h m).1.guests g.toNat)) == 4)) (faultExit_r (addrPage_in64 (address_in64 (LRd.el (RMon.guests (d := (f_monAt h m).1) o27.rn) g.toNat (by omega)))) ((f_wantOf (el (f_monAt h m).1.guests g.toNat)) == 4))) fun ac w N q713 F714 S up o715 d716 => ?_)
   refine WD.next S up (by kernel_rfl) ?_
   have d722 := Disj.w d716 o527.sub
   have d723 := Disj.w d716 o530.sub
   have d724 := Disj.w d716 o533.sub
   have d725 := Disj.w d716 o536.sub
   replace o6 := o6.up up
   replace o9 := o9.up up
   replace o12 := o12.up up
   replace o15 := o15.up up
   replace o27 := o27.up up
   replace o527 := o527.up up
   replace o530 := o530.up up
   replace o533 := o533.up up
   replace o536 := o536.up up
   clear up d716
   refine S.sl 6 [] [] 6 [(4, GT.cells ({ (el (f_monAt h m).1.guests g.toNat) with exit := (f_faultExit (f_addrPage (f_address (el (f_monAt h m).1.guests g.toNat))) ((f_wantOf (el (f_monAt h m).1.guests g.toNat)) == 4)) } : TGuest) q713)] .nil fun ac w β S => ?_
   refine WD.done (by kernel_rfl) ?_ _
   refine S.ex fun S => ?_
   refine S.go 3 .nil fun ac w β S => ?_
   refine drw ?_
   refine S.draw0 (f := 10) 9 (by kernel_rfl) (by kernel_rfl) fun w S => ?_
   refine S.hq 0 [0] [] [(110, .p 5 1)] .nil fun ac S => ?_
   refine S.hq 1 [1] [] [(111, .v (slv Y1.1.mons.length q531.1))] .nil fun ac S => ?_
   refine S.hq 2 [2] [] [(112, .v (I m))] .nil fun ac S => ?_
   refine S.hq 3 [3] [] [(113, .v (pt q531.1.b (q531.1.off + m.toNat * 9)))] (.cons (qt o530.rn m Tryz.underlying57) .nil) fun ac S => ?_
   refine S.hq 4 [4] [] [(114, .v (pt q531.1.b (q531.1.off + m.toNat * 9 + 3)))] .nil fun ac S => ?_
   refine S.hq 5 [5] [] [(115, .v (slv (el Y1.1.mons m.toNat).guests.length (q531.2 m.toNat).guests.1))] (.cons (qc o530.rn 25 m.toNat 3 (slv (el Y1.1.mons m.toNat).guests.length (q531.2 m.toNat).guests.1)) .nil) fun ac S => ?_
   refine S.hq 6 [6] [] [(116, .v (I g))] .nil fun ac S => ?_
   refine S.hq 7 [7] [] [(117, .v (GT.val ({ (el (f_monAt h m).1.guests g.toNat) with exit := (f_faultExit (f_addrPage (f_address (el (f_monAt h m).1.guests g.toNat))) ((f_wantOf (el (f_monAt h m).1.guests g.toNat)) == 4)) } : TGuest) q713))] .nil fun ac S => ?_
   refine S.hq 8 [8] [] [(118, .v (pt (q531.2 m.toNat).guests.1.b ((q531.2 m.toNat).guests.1.off + g.toNat * 15)))] (.cons (qt (RMon.guests (d := (el Y1.1.mons m.toNat)) (LRd.el o530.rn m.toNat (by omega))) g Tryz.underlying25) .nil) fun ac S => ?_
   refine WD.one (i := 9) (by kernel_rfl) ?_
   obtain ⟨F726, o727, s728, b729⟩ := foc2_Mon_guests o530 (k := m.toNat) (show m.toNat < Y1.1.mons.length by omega)
   have l730 := LRd.le o727.rn
   have n731 := o727.sub
   refine id (S.sV (α := TGuest) o727 (t := 51) (k := g.toNat) (off := (q531.2 m.toNat).guests.1.off + g.toNat * 15) o715 (Disj.symm (Disj.symm (Disj.part d723 s728))) fun w N F733 q734 S up o732 d735 s736 n737 => ?_)
   refine WD.last (by kernel_rfl) ?_
   have d743 := d735 _ (Disj.symm (Disj.part (Disj.symm d710) s728)) d722 o527.sub
   have d744 := d735 _ (Disj.symm (Disj.part (Disj.symm d707) s728)) d724 o533.sub
   have d745 := d735 _ (Disj.symm (Disj.part (Disj.symm d709) s728)) d725 o536.sub
   replace o6 := o6.upF (Disj.symm (Disj.part (Disj.symm d688) s728)) up
   replace o9 := o9.upF (Disj.symm (Disj.part (Disj.symm d692) s728)) up
   replace o12 := o12.upF (Disj.symm (Disj.part (Disj.symm d696) s728)) up
   replace o15 := o15.upF (Disj.symm (Disj.part (Disj.symm d700) s728)) up
   replace o27 := o27.upF (Disj.symm (Disj.part (Disj.symm d704) s728)) up
   replace o527 := o527.upF (Disj.symm (Disj.part (Disj.symm d710) s728)) up
   replace o533 := o533.upF (Disj.symm (Disj.part (Disj.symm d707) s728)) up
   replace o536 := o536.upF (Disj.symm (Disj.part (Disj.symm d709) s728)) up
   clear d735 o727
   obtain ⟨p746, o747, c748⟩ := b729 _ _ _ _ _ F714 up o732 s736 d723 (by show [slv _ _] = [slv _ _]; rw [List.length_set]) (fun b h => n737 b (n731 b h))
   clear up o732 n737
   have l749 : (Y1.1.mons.set m.toNat ({ el Y1.1.mons m.toNat with guests := ((el Y1.1.mons m.toNat).guests.set g.toNat ({ (el (f_monAt h m).1.guests g.toNat) with exit := (f_faultExit (f_addrPage (f_address (el (f_monAt h m).1.guests g.toNat))) ((f_wantOf (el (f_monAt h m).1.guests g.toNat)) == 4)) } : TGuest)) })).length = Y1.1.mons.length := List.length_set
   replace S := S.z (σ' := ⟨[(6, .p 1 0), (15, .p 5 0), (117, .v (GT.val ({ (el (f_monAt h m).1.guests g.toNat) with exit := (f_faultExit (f_addrPage (f_address (el (f_monAt h m).1.guests g.toNat))) ((f_wantOf (el (f_monAt h m).1.guests g.toNat)) == 4)) } : TGuest) q713)), (118, .v (pt (q531.2 m.toNat).guests.1.b ((q531.2 m.toNat).guests.1.off + g.toNat * 15)))], [GT.cells h ph, Zc THost, [slv h.mem.length q1.mem.1, slv h.mons.length q1.mons.1, slv h.buf.length q1.buf.1, slv h.iobuf.length q1.iobuf.1], GT.cells (f_monAt h m).1 q23, GT.cells ({ (el (f_monAt h m).1.guests g.toNat) with exit := (f_faultExit (f_addrPage (f_address (el (f_monAt h m).1.guests g.toNat))) ((f_wantOf (el (f_monAt h m).1.guests g.toNat)) == 4)) } : TGuest) q713, [slv Y1.1.mem.length q528.1, slv Y1.1.mons.length q531.1, slv Y1.1.buf.length q534.1, slv Y1.1.iobuf.length q537.1]]⟩)
   replace S := S.cast (σ' := ⟨[(6, .p 1 0), (15, .p 5 0), (117, .v (GT.val ({ (el (f_monAt h m).1.guests g.toNat) with exit := (f_faultExit (f_addrPage (f_address (el (f_monAt h m).1.guests g.toNat))) ((f_wantOf (el (f_monAt h m).1.guests g.toNat)) == 4)) } : TGuest) q713)), (118, .v (pt (q531.2 m.toNat).guests.1.b ((q531.2 m.toNat).guests.1.off + g.toNat * 15)))], [GT.cells h ph, Zc THost, [slv h.mem.length q1.mem.1, slv h.mons.length q1.mons.1, slv h.buf.length q1.buf.1, slv h.iobuf.length q1.iobuf.1], GT.cells (f_monAt h m).1 q23, GT.cells ({ (el (f_monAt h m).1.guests g.toNat) with exit := (f_faultExit (f_addrPage (f_address (el (f_monAt h m).1.guests g.toNat))) ((f_wantOf (el (f_monAt h m).1.guests g.toNat)) == 4)) } : TGuest) q713, [slv Y1.1.mem.length q528.1, slv (Y1.1.mons.set m.toNat ({ el Y1.1.mons m.toNat with guests := ((el Y1.1.mons m.toNat).guests.set g.toNat ({ (el (f_monAt h m).1.guests g.toNat) with exit := (f_faultExit (f_addrPage (f_address (el (f_monAt h m).1.guests g.toNat))) ((f_wantOf (el (f_monAt h m).1.guests g.toNat)) == 4)) } : TGuest)) })).length q531.1, slv Y1.1.buf.length q534.1, slv Y1.1.iobuf.length q537.1]]⟩) (by rw [show (Y1.1.mons.set m.toNat ({ el Y1.1.mons m.toNat with guests := ((el Y1.1.mons m.toNat).guests.set g.toNat ({ (el (f_monAt h m).1.guests g.toNat) with exit := (f_faultExit (f_addrPage (f_address (el (f_monAt h m).1.guests g.toNat))) ((f_wantOf (el (f_monAt h m).1.guests g.toNat)) == 4)) } : TGuest)) })).length = Y1.1.mons.length by omega])
   refine WD.done (by kernel_rfl) ?_ _
   refine S.ex fun S => ?_
   refine S.gr 9 .nil [GT.val (⟨Y1.1.mem, (Y1.1.mons.set m.toNat ({ el Y1.1.mons m.toNat with guests := ((el Y1.1.mons m.toNat).guests.set g.toNat ({ (el (f_monAt h m).1.guests g.toNat) with exit := (f_faultExit (f_addrPage (f_address (el (f_monAt h m).1.guests g.toNat))) ((f_wantOf (el (f_monAt h m).1.guests g.toNat)) == 4)) } : TGuest)) })), Y1.1.buf, Y1.1.iobuf⟩ : THost) (⟨q528, (q531.1, p746), q534, q537⟩ : PHost), B true] fun ac w β S => ?_
   have o750 := ow_Host (x := (⟨Y1.1.mem, (Y1.1.mons.set m.toNat ({ el Y1.1.mons m.toNat with guests := ((el Y1.1.mons m.toNat).guests.set g.toNat ({ (el (f_monAt h m).1.guests g.toNat) with exit := (f_faultExit (f_addrPage (f_address (el (f_monAt h m).1.guests g.toNat))) ((f_wantOf (el (f_monAt h m).1.guests g.toNat)) == 4)) } : TGuest)) })), Y1.1.buf, Y1.1.iobuf⟩ : THost)) (p := (⟨q528, (q531.1, p746), q534, q537⟩ : PHost)) o527 o747 o533 o536 (Disj.symm (Disj.or (Disj.symm d710) (Disj.symm d743))) (Disj.symm d706) (Disj.symm d708) (Disj.symm (Disj.symm (Disj.or (Disj.symm d707) (Disj.symm d744)))) (Disj.symm (Disj.symm (Disj.or (Disj.symm d709) (Disj.symm d745)))) d705 
   exact ret2_of (p' := ()) S (show (f_hostStep h m g).1 = (⟨Y1.1.mem, (Y1.1.mons.set m.toNat ({ el Y1.1.mons m.toNat with guests := ((el Y1.1.mons m.toNat).guests.set g.toNat ({ (el (f_monAt h m).1.guests g.toNat) with exit := (f_faultExit (f_addrPage (f_address (el (f_monAt h m).1.guests g.toNat))) ((f_wantOf (el (f_monAt h m).1.guests g.toNat)) == 4)) } : TGuest)) })), Y1.1.buf, Y1.1.iobuf⟩ : THost) from k0_impl_HostStep) (show (f_hostStep h m g).2 = true from k2_impl_HostStep) rfl rfl o750 trivial
  have h751 := not_f h711
  refine S.go 7 .nil fun ac w β S => ?_
  refine S.lt 97 h452 fun S => ?_
  refine S.go 2 .nil fun ac w β S => ?_
  refine drw ?_
  refine S.draw0 (f := 10) 9 (by kernel_rfl) (by kernel_rfl) fun w S => ?_
  refine S.hq 0 [0] [] [(99, .p 5 0)] .nil fun ac S => ?_
  refine S.hq 1 [1] [] [(100, .v (slv Y1.1.mem.length q528.1))] .nil fun ac S => ?_
  refine S.hq 2 [2] [] [(101, .v (I Y1.2.1))] .nil fun ac S => ?_
  refine S.hq 3 [3] [] [(102, .v (I (f_address (el (f_monAt h m).1.guests g.toNat))))] .nil fun ac S => ?_
  refine S.hq 5 [5] [] [(104, .p 4 1)] .nil fun ac S => ?_
  refine S.hq 6 [6] [] [(105, .v (I (el (f_monAt h m).1.guests g.toNat).acc))] .nil fun ac S => ?_
  refine S.sq 4 [] [(103, .v (I (f_addrCell (f_address (el (f_monAt h m).1.guests g.toNat)))))] 6 [] (.cons (Q_call fun w hw => c_impl_AddrCell w (f_address (el (f_monAt h m).1.guests g.toNat)) (address_in64 (LRd.el (RMon.guests (d := (f_monAt h m).1) o27.rn) g.toNat (by omega)))) .nil) fun ac w β S => ?_
  refine WD.one (i := 7) (by kernel_rfl) ?_
  refine id (S.k1 106 (c_impl_WithCell w Y1.1.mem q528 (S.rd o527.rn) Y1.2.1 (f_addrCell (f_address (el (f_monAt h m).1.guests g.toNat))) (el (f_monAt h m).1.guests g.toNat).acc (RGuest.acc (d := (el (f_monAt h m).1.guests g.toNat)) (LRd.el (RMon.guests (d := (f_monAt h m).1) o27.rn) g.toNat (by omega)))) fun ac w N q752 F753 S up o754 d755 => ?_)
  refine WD.next S up (by kernel_rfl) ?_
  have d762 := Disj.w d755 o530.sub
  have d763 := Disj.w d755 o533.sub
  have d764 := Disj.w d755 o536.sub
  replace o6 := o6.up up
  replace o9 := o9.up up
  replace o12 := o12.up up
  replace o15 := o15.up up
  replace o27 := o27.up up
  replace o530 := o530.up up
  replace o533 := o533.up up
  replace o536 := o536.up up
  clear up d755
  refine S.hq 8 [8] [] [(107, .p 5 0)] .nil fun ac S => ?_
  refine S.sl 9 [] [] 6 [(5, [slv (f_withCell Y1.1.mem Y1.2.1 (f_addrCell (f_address (el (f_monAt h m).1.guests g.toNat))) (el (f_monAt h m).1.guests g.toNat).acc).length q752.1, slv Y1.1.mons.length q531.1, slv Y1.1.buf.length q534.1, slv Y1.1.iobuf.length q537.1])] .nil fun ac w β S => ?_
  refine WD.done (by kernel_rfl) ?_ _
  refine S.ex fun S => ?_
  refine S.go 3 .nil fun ac w β S => S.K1 (r := f_moved (el (f_monAt h m).1.guests g.toNat)) (d := 109) (c_impl_Stored w (el (f_monAt h m).1.guests g.toNat) (q23.guests.2 g.toNat) (S.rd (LRd.el (RMon.guests (d := (f_monAt h m).1) o27.rn) g.toNat (by omega)))) fun ac w N q765 F766 S up o767 d768 => ?_
  have d774 := Disj.w d768 o530.sub
  have d775 := Disj.w d768 o533.sub
  have d776 := Disj.w d768 o536.sub
  have d777 := Disj.w d768 o754.sub
  replace o6 := o6.up up
  replace o9 := o9.up up
  replace o12 := o12.up up
  replace o15 := o15.up up
  replace o530 := o530.up up
  replace o533 := o533.up up
  replace o536 := o536.up up
  replace o754 := o754.up up
  clear up d768
  refine S.go 5 .nil fun ac w β S => ?_
  refine drw ?_
  refine S.draw0 (f := 10) 9 (by kernel_rfl) (by kernel_rfl) fun w S => ?_
  refine S.hq 0 [0] [] [(110, .p 5 1)] .nil fun ac S => ?_
  refine S.hq 1 [1] [] [(111, .v (slv Y1.1.mons.length q531.1))] .nil fun ac S => ?_
  refine S.hq 2 [2] [] [(112, .v (I m))] .nil fun ac S => ?_
  refine S.hq 3 [3] [] [(113, .v (pt q531.1.b (q531.1.off + m.toNat * 9)))] (.cons (qt o530.rn m Tryz.underlying57) .nil) fun ac S => ?_
  refine S.hq 4 [4] [] [(114, .v (pt q531.1.b (q531.1.off + m.toNat * 9 + 3)))] .nil fun ac S => ?_
  refine S.hq 5 [5] [] [(115, .v (slv (el Y1.1.mons m.toNat).guests.length (q531.2 m.toNat).guests.1))] (.cons (qc o530.rn 25 m.toNat 3 (slv (el Y1.1.mons m.toNat).guests.length (q531.2 m.toNat).guests.1)) .nil) fun ac S => ?_
  refine S.hq 6 [6] [] [(116, .v (I g))] .nil fun ac S => ?_
  refine S.hq 7 [7] [] [(117, .v (GT.val (f_moved (el (f_monAt h m).1.guests g.toNat)) q765))] .nil fun ac S => ?_
  refine S.hq 8 [8] [] [(118, .v (pt (q531.2 m.toNat).guests.1.b ((q531.2 m.toNat).guests.1.off + g.toNat * 15)))] (.cons (qt (RMon.guests (d := (el Y1.1.mons m.toNat)) (LRd.el o530.rn m.toNat (by omega))) g Tryz.underlying25) .nil) fun ac S => ?_
  refine WD.one (i := 9) (by kernel_rfl) ?_
  obtain ⟨F778, o779, s780, b781⟩ := foc2_Mon_guests o530 (k := m.toNat) (show m.toNat < Y1.1.mons.length by omega)
  have l782 := LRd.le o779.rn
  have n783 := o779.sub
  refine id (S.sV (α := TGuest) o779 (t := 51) (k := g.toNat) (off := (q531.2 m.toNat).guests.1.off + g.toNat * 15) o767 (Disj.symm (Disj.symm (Disj.part d774 s780))) fun w N F785 q786 S up o784 d787 s788 n789 => ?_)
  refine WD.last (by kernel_rfl) ?_
  have d795 := d787 _ (Disj.symm (Disj.part (Disj.symm d707) s780)) d775 o533.sub
  have d796 := d787 _ (Disj.symm (Disj.part (Disj.symm d709) s780)) d776 o536.sub
  have d797 := d787 _ (Disj.symm (Disj.part d762 s780)) d777 o754.sub
  replace o6 := o6.upF (Disj.symm (Disj.part (Disj.symm d688) s780)) up
  replace o9 := o9.upF (Disj.symm (Disj.part (Disj.symm d692) s780)) up
  replace o12 := o12.upF (Disj.symm (Disj.part (Disj.symm d696) s780)) up
  replace o15 := o15.upF (Disj.symm (Disj.part (Disj.symm d700) s780)) up
  replace o533 := o533.upF (Disj.symm (Disj.part (Disj.symm d707) s780)) up
  replace o536 := o536.upF (Disj.symm (Disj.part (Disj.symm d709) s780)) up
  replace o754 := o754.upF (Disj.symm (Disj.part d762 s780)) up
  clear d787 o779
  obtain ⟨p798, o799, c800⟩ := b781 _ _ _ _ _ F766 up o784 s788 d774 (by show [slv _ _] = [slv _ _]; rw [List.length_set]) (fun b h => n789 b (n783 b h))
  clear up o784 n789
  have l801 : (Y1.1.mons.set m.toNat ({ el Y1.1.mons m.toNat with guests := ((el Y1.1.mons m.toNat).guests.set g.toNat (f_moved (el (f_monAt h m).1.guests g.toNat))) })).length = Y1.1.mons.length := List.length_set
  replace S := S.z (σ' := ⟨[(6, .p 1 0), (15, .p 5 0), (117, .v (GT.val (f_moved (el (f_monAt h m).1.guests g.toNat)) q765)), (118, .v (pt (q531.2 m.toNat).guests.1.b ((q531.2 m.toNat).guests.1.off + g.toNat * 15)))], [GT.cells h ph, Zc THost, [slv h.mem.length q1.mem.1, slv h.mons.length q1.mons.1, slv h.buf.length q1.buf.1, slv h.iobuf.length q1.iobuf.1], GT.cells (f_monAt h m).1 q23, GT.cells (f_moved (el (f_monAt h m).1.guests g.toNat)) q765, [slv (f_withCell Y1.1.mem Y1.2.1 (f_addrCell (f_address (el (f_monAt h m).1.guests g.toNat))) (el (f_monAt h m).1.guests g.toNat).acc).length q752.1, slv Y1.1.mons.length q531.1, slv Y1.1.buf.length q534.1, slv Y1.1.iobuf.length q537.1]]⟩)
  replace S := S.cast (σ' := ⟨[(6, .p 1 0), (15, .p 5 0), (117, .v (GT.val (f_moved (el (f_monAt h m).1.guests g.toNat)) q765)), (118, .v (pt (q531.2 m.toNat).guests.1.b ((q531.2 m.toNat).guests.1.off + g.toNat * 15)))], [GT.cells h ph, Zc THost, [slv h.mem.length q1.mem.1, slv h.mons.length q1.mons.1, slv h.buf.length q1.buf.1, slv h.iobuf.length q1.iobuf.1], GT.cells (f_monAt h m).1 q23, GT.cells (f_moved (el (f_monAt h m).1.guests g.toNat)) q765, [slv (f_withCell Y1.1.mem Y1.2.1 (f_addrCell (f_address (el (f_monAt h m).1.guests g.toNat))) (el (f_monAt h m).1.guests g.toNat).acc).length q752.1, slv (Y1.1.mons.set m.toNat ({ el Y1.1.mons m.toNat with guests := ((el Y1.1.mons m.toNat).guests.set g.toNat (f_moved (el (f_monAt h m).1.guests g.toNat))) })).length q531.1, slv Y1.1.buf.length q534.1, slv Y1.1.iobuf.length q537.1]]⟩) (by rw [show (Y1.1.mons.set m.toNat ({ el Y1.1.mons m.toNat with guests := ((el Y1.1.mons m.toNat).guests.set g.toNat (f_moved (el (f_monAt h m).1.guests g.toNat))) })).length = Y1.1.mons.length by omega])
  refine WD.done (by kernel_rfl) ?_ _
  refine S.ex fun S => ?_
  refine S.gr 9 .nil [GT.val (⟨(f_withCell Y1.1.mem Y1.2.1 (f_addrCell (f_address (el (f_monAt h m).1.guests g.toNat))) (el (f_monAt h m).1.guests g.toNat).acc), (Y1.1.mons.set m.toNat ({ el Y1.1.mons m.toNat with guests := ((el Y1.1.mons m.toNat).guests.set g.toNat (f_moved (el (f_monAt h m).1.guests g.toNat))) })), Y1.1.buf, Y1.1.iobuf⟩ : THost) (⟨q752, (q531.1, p798), q534, q537⟩ : PHost), B true] fun ac w β S => ?_
  have o802 := ow_Host (x := (⟨(f_withCell Y1.1.mem Y1.2.1 (f_addrCell (f_address (el (f_monAt h m).1.guests g.toNat))) (el (f_monAt h m).1.guests g.toNat).acc), (Y1.1.mons.set m.toNat ({ el Y1.1.mons m.toNat with guests := ((el Y1.1.mons m.toNat).guests.set g.toNat (f_moved (el (f_monAt h m).1.guests g.toNat))) })), Y1.1.buf, Y1.1.iobuf⟩ : THost)) (p := (⟨q752, (q531.1, p798), q534, q537⟩ : PHost)) o754 o799 o533 o536 (Disj.symm (Disj.or d762 (Disj.symm d797))) (Disj.symm d763) (Disj.symm d764) (Disj.symm (Disj.symm (Disj.or (Disj.symm d707) (Disj.symm d795)))) (Disj.symm (Disj.symm (Disj.or (Disj.symm d709) (Disj.symm d796)))) d705 
  exact ret2_of (p' := ()) S (show (f_hostStep h m g).1 = (⟨(f_withCell Y1.1.mem Y1.2.1 (f_addrCell (f_address (el (f_monAt h m).1.guests g.toNat))) (el (f_monAt h m).1.guests g.toNat).acc), (Y1.1.mons.set m.toNat ({ el Y1.1.mons m.toNat with guests := ((el Y1.1.mons m.toNat).guests.set g.toNat (f_moved (el (f_monAt h m).1.guests g.toNat))) })), Y1.1.buf, Y1.1.iobuf⟩ : THost) from k0_impl_HostStep) (show (f_hostStep h m g).2 = true from k2_impl_HostStep) rfl rfl o802 trivial
 refine S.gd 8 .nil ((f_wantOf (el (f_monAt h m).1.guests g.toNat)) == 5) (fun ac w β h803 g804 S => ?_) (fun ac w β h803 g804 S => ?_)
 ·refine S.go 12 (.cons (qt o9.rn m Tryz.underlying57) .nil) fun ac w β S => S.KL (d := 129) o9 (c_impl_leave w h.mons q1.mons m.toNat (by omega) F8 (S.ownw o9) (fun b hb => (S.sep b (o9.sub b hb)).1) g (f_wantOf (el (f_monAt h m).1.guests g.toNat)) (by (first | omega | assumption)) (by (first | omega | assumption))) fun ac w N p805 F806 S up o807 d808 => ?_
  have d809 := d808 _ d17 o6.sub
  have d810 := d808 _ (Disj.symm d20) o12.sub
  have d811 := d808 _ (Disj.symm d21) o15.sub
  replace o6 := o6.upF d17 up
  replace o12 := o12.upF (Disj.symm d20) up
  replace o15 := o15.upF (Disj.symm d21) up
  clear up d808 o9
  have l812 : (h.mons.set m.toNat (f_trapMon (el h.mons m.toNat) g (el (el h.mons m.toNat).guests g.toNat) (f_wantOf (el (f_monAt h m).1.guests g.toNat)))).length = h.mons.length := List.length_set
  replace S := S.z (σ' := ⟨[(6, .p 1 0), (8, .p 2 0), (126, .v (pt q1.mons.1.b (q1.mons.1.off + m.toNat * 9))), (127, .v (I g)), (128, .v (I (f_wantOf (el (f_monAt h m).1.guests g.toNat))))], [GT.cells h ph, Zc THost, [slv h.mem.length q1.mem.1, slv h.mons.length q1.mons.1, slv h.buf.length q1.buf.1, slv h.iobuf.length q1.iobuf.1], GT.cells (f_monAt h m).1 q23, GT.cells (el (f_monAt h m).1.guests g.toNat) (q23.guests.2 g.toNat)]⟩)
  replace S := S.cast (σ' := ⟨[(6, .p 1 0), (8, .p 2 0), (126, .v (pt q1.mons.1.b (q1.mons.1.off + m.toNat * 9))), (127, .v (I g)), (128, .v (I (f_wantOf (el (f_monAt h m).1.guests g.toNat))))], [GT.cells h ph, Zc THost, [slv h.mem.length q1.mem.1, slv (h.mons.set m.toNat (f_trapMon (el h.mons m.toNat) g (el (el h.mons m.toNat).guests g.toNat) (f_wantOf (el (f_monAt h m).1.guests g.toNat)))).length q1.mons.1, slv h.buf.length q1.buf.1, slv h.iobuf.length q1.iobuf.1], GT.cells (f_monAt h m).1 q23, GT.cells (el (f_monAt h m).1.guests g.toNat) (q23.guests.2 g.toNat)]⟩) (by rw [show (h.mons.set m.toNat (f_trapMon (el h.mons m.toNat) g (el (el h.mons m.toNat).guests g.toNat) (f_wantOf (el (f_monAt h m).1.guests g.toNat)))).length = h.mons.length by omega])
  refine S.is fun S => ?_
  refine S.gr 10 .nil [GT.val (⟨h.mem, (h.mons.set m.toNat (f_trapMon (el h.mons m.toNat) g (el (el h.mons m.toNat).guests g.toNat) (f_wantOf (el (f_monAt h m).1.guests g.toNat)))), h.buf, h.iobuf⟩ : THost) (⟨q1.mem, ((q1.mons.1, p805) : LP TMon), q1.buf, q1.iobuf⟩ : PHost), B true] fun ac w β S => ?_
  have o813 := ow_Host (x := (⟨h.mem, (h.mons.set m.toNat (f_trapMon (el h.mons m.toNat) g (el (el h.mons m.toNat).guests g.toNat) (f_wantOf (el (f_monAt h m).1.guests g.toNat)))), h.buf, h.iobuf⟩ : THost)) (p := (⟨q1.mem, ((q1.mons.1, p805) : LP TMon), q1.buf, q1.iobuf⟩ : PHost)) o6 o807 o12 o15 d809 d18 d19 (Disj.symm d810) (Disj.symm d811) d22 
  exact ret2_of (p' := ()) S (show (f_hostStep h m g).1 = (⟨h.mem, (h.mons.set m.toNat (f_trapMon (el h.mons m.toNat) g (el (el h.mons m.toNat).guests g.toNat) (f_wantOf (el (f_monAt h m).1.guests g.toNat)))), h.buf, h.iobuf⟩ : THost) from k1_impl_HostStep) (show (f_hostStep h m g).2 = true from k3_impl_HostStep) rfl rfl o813 trivial
 refine S.gd 6 .nil ((f_wantOf (el (f_monAt h m).1.guests g.toNat)) == 7) (fun ac w β h814 g815 S => ?_) (fun ac w β h814 g815 S => ?_)
 ·refine S.go 9 (.cons (qt o9.rn m Tryz.underlying57) .nil) fun ac w β S => S.KL (d := 129) o9 (c_impl_leave w h.mons q1.mons m.toNat (by omega) F8 (S.ownw o9) (fun b hb => (S.sep b (o9.sub b hb)).1) g (f_wantOf (el (f_monAt h m).1.guests g.toNat)) (by (first | omega | assumption)) (by (first | omega | assumption))) fun ac w N p816 F817 S up o818 d819 => ?_
  have d820 := d819 _ d17 o6.sub
  have d821 := d819 _ (Disj.symm d20) o12.sub
  have d822 := d819 _ (Disj.symm d21) o15.sub
  replace o6 := o6.upF d17 up
  replace o12 := o12.upF (Disj.symm d20) up
  replace o15 := o15.upF (Disj.symm d21) up
  clear up d819 o9
  have l823 : (h.mons.set m.toNat (f_trapMon (el h.mons m.toNat) g (el (el h.mons m.toNat).guests g.toNat) (f_wantOf (el (f_monAt h m).1.guests g.toNat)))).length = h.mons.length := List.length_set
  replace S := S.z (σ' := ⟨[(6, .p 1 0), (8, .p 2 0), (126, .v (pt q1.mons.1.b (q1.mons.1.off + m.toNat * 9))), (127, .v (I g)), (128, .v (I (f_wantOf (el (f_monAt h m).1.guests g.toNat))))], [GT.cells h ph, Zc THost, [slv h.mem.length q1.mem.1, slv h.mons.length q1.mons.1, slv h.buf.length q1.buf.1, slv h.iobuf.length q1.iobuf.1], GT.cells (f_monAt h m).1 q23, GT.cells (el (f_monAt h m).1.guests g.toNat) (q23.guests.2 g.toNat)]⟩)
  replace S := S.cast (σ' := ⟨[(6, .p 1 0), (8, .p 2 0), (126, .v (pt q1.mons.1.b (q1.mons.1.off + m.toNat * 9))), (127, .v (I g)), (128, .v (I (f_wantOf (el (f_monAt h m).1.guests g.toNat))))], [GT.cells h ph, Zc THost, [slv h.mem.length q1.mem.1, slv (h.mons.set m.toNat (f_trapMon (el h.mons m.toNat) g (el (el h.mons m.toNat).guests g.toNat) (f_wantOf (el (f_monAt h m).1.guests g.toNat)))).length q1.mons.1, slv h.buf.length q1.buf.1, slv h.iobuf.length q1.iobuf.1], GT.cells (f_monAt h m).1 q23, GT.cells (el (f_monAt h m).1.guests g.toNat) (q23.guests.2 g.toNat)]⟩) (by rw [show (h.mons.set m.toNat (f_trapMon (el h.mons m.toNat) g (el (el h.mons m.toNat).guests g.toNat) (f_wantOf (el (f_monAt h m).1.guests g.toNat)))).length = h.mons.length by omega])
  refine S.is fun S => ?_
  refine S.gr 10 .nil [GT.val (⟨h.mem, (h.mons.set m.toNat (f_trapMon (el h.mons m.toNat) g (el (el h.mons m.toNat).guests g.toNat) (f_wantOf (el (f_monAt h m).1.guests g.toNat)))), h.buf, h.iobuf⟩ : THost) (⟨q1.mem, ((q1.mons.1, p816) : LP TMon), q1.buf, q1.iobuf⟩ : PHost), B true] fun ac w β S => ?_
  have o824 := ow_Host (x := (⟨h.mem, (h.mons.set m.toNat (f_trapMon (el h.mons m.toNat) g (el (el h.mons m.toNat).guests g.toNat) (f_wantOf (el (f_monAt h m).1.guests g.toNat)))), h.buf, h.iobuf⟩ : THost)) (p := (⟨q1.mem, ((q1.mons.1, p816) : LP TMon), q1.buf, q1.iobuf⟩ : PHost)) o6 o818 o12 o15 d820 d18 d19 (Disj.symm d821) (Disj.symm d822) d22 
  exact ret2_of (p' := ()) S (show (f_hostStep h m g).1 = (⟨h.mem, (h.mons.set m.toNat (f_trapMon (el h.mons m.toNat) g (el (el h.mons m.toNat).guests g.toNat) (f_wantOf (el (f_monAt h m).1.guests g.toNat)))), h.buf, h.iobuf⟩ : THost) from k1_impl_HostStep) (show (f_hostStep h m g).2 = true from k3_impl_HostStep) rfl rfl o824 trivial
 refine S.go 8 .nil fun ac w β S => S.K1 (r := f_seenAs h m) (d := 134) (c_impl_SeenAs w h ph (S.rd (S.arg hh)) m) fun ac w N q825 F826 S up o827 d828 => ?_
 replace o6 := o6.up up
 replace o9 := o9.up up
 replace o12 := o12.up up
 replace o15 := o15.up up
 clear up d828
 have i842 : In64 (f_seenAs h m).pend := RBare.pend (d := (f_seenAs h m)) o827.rn
 obtain ⟨F833, F836, F839, o834, o837, o840, _, _, _, _, _, _⟩ := sp_Bare o827
 refine S.go 1 .nil fun ac w β S => S.K2 (r := (f_bareStep (f_seenAs h m) g).1) (r' := (f_bareStep (f_seenAs h m) g).2) (d := 136) (c_impl_BareStep w (f_seenAs h m) q825 (S.rd (show GT.rd KK _ _ (f_seenAs h m) q825 from ⟨o834.rn, o837.rn, o840.rn, i842⟩)) g) fun ac w N q846 q847 F848 F849 S up o850 o851 d852 d853 d854 => ?_
 have d862 := Disj.w d852 o6.sub
 have d863 := Disj.w d852 o9.sub
 have d864 := Disj.w d852 o12.sub
 have d865 := Disj.w d852 o15.sub
 replace o6 := o6.up up
 replace o9 := o9.up up
 replace o12 := o12.up up
 replace o15 := o15.up up
 clear up d852
 clear d853
 obtain ⟨F869, F872, F875, o870, o873, o876, _, s874, _, _, _, _⟩ := sp_Bare o850
 refine S.go 17 (.cons (qt o9.rn m Tryz.underlying57) .nil) fun ac w β S => S.SE (α := TMon) o9 (t := 25) (k := m.toNat) (j := 3) (off := q1.mons.1.off + m.toNat * 9 + 3) (v := slv (f_bareStep (f_seenAs h m) g).1.guests.length q846.guests.1) (y := ({ el h.mons m.toNat with guests := (f_bareStep (f_seenAs h m) g).1.guests } : TMon)) (q := ({ q1.mons.2 m.toNat with guests := q846.guests } : PMon)) (fun G g_ gF => ⟨_, owl_Mon_guests g_ o873.own (fun b h h2 => (Disj.symm (Disj.part (Disj.symm d863) s874)) b (gF b h) h2), fun _ h => h⟩) (Disj.symm (Disj.part (Disj.symm d863) s874)) o873.sub o873.young fun w N F883 q884 S up o882 d885 s886 n887 => ?_
 have d888 := d885 _ d17 (Disj.symm (Disj.part (Disj.symm d862) s874)) o6.sub
 have d889 := d885 _ (Disj.symm d20) (Disj.symm (Disj.part (Disj.symm d864) s874)) o12.sub
 have d890 := d885 _ (Disj.symm d21) (Disj.symm (Disj.part (Disj.symm d865) s874)) o15.sub
 replace o6 := o6.upF d17 up
 replace o12 := o12.upF (Disj.symm d20) up
 replace o15 := o15.upF (Disj.symm d21) up
 clear up d885 o9 n887
 have l891 : (h.mons.set m.toNat ({ el h.mons m.toNat with guests := (f_bareStep (f_seenAs h m) g).1.guests })).length = h.mons.length := List.length_set
 replace S := S.z (σ' := ⟨[(6, .p 1 0), (8, .p 2 0), (143, .v (slv (f_bareStep (f_seenAs h m) g).1.guests.length q846.guests.1)), (145, .v (pt q1.mons.1.b (q1.mons.1.off + m.toNat * 9 + 3)))], [GT.cells h ph, Zc THost, [slv h.mem.length q1.mem.1, slv h.mons.length q1.mons.1, slv h.buf.length q1.buf.1, slv h.iobuf.length q1.iobuf.1], GT.cells (f_monAt h m).1 q23, GT.cells (el (f_monAt h m).1.guests g.toNat) (q23.guests.2 g.toNat), [slv (f_bareStep (f_seenAs h m) g).1.mem.length q846.mem.1, slv (f_bareStep (f_seenAs h m) g).1.guests.length q846.guests.1, slv (f_bareStep (f_seenAs h m) g).1.outs.length q846.outs.1, I (f_bareStep (f_seenAs h m) g).1.pend]]⟩)
 replace S := S.cast (σ' := ⟨[(6, .p 1 0), (8, .p 2 0), (143, .v (slv (f_bareStep (f_seenAs h m) g).1.guests.length q846.guests.1)), (145, .v (pt q1.mons.1.b (q1.mons.1.off + m.toNat * 9 + 3)))], [GT.cells h ph, Zc THost, [slv h.mem.length q1.mem.1, slv (h.mons.set m.toNat ({ el h.mons m.toNat with guests := (f_bareStep (f_seenAs h m) g).1.guests })).length q1.mons.1, slv h.buf.length q1.buf.1, slv h.iobuf.length q1.iobuf.1], GT.cells (f_monAt h m).1 q23, GT.cells (el (f_monAt h m).1.guests g.toNat) (q23.guests.2 g.toNat), [slv (f_bareStep (f_seenAs h m) g).1.mem.length q846.mem.1, slv (f_bareStep (f_seenAs h m) g).1.guests.length q846.guests.1, slv (f_bareStep (f_seenAs h m) g).1.outs.length q846.outs.1, I (f_bareStep (f_seenAs h m) g).1.pend]]⟩) (by rw [show (h.mons.set m.toNat ({ el h.mons m.toNat with guests := (f_bareStep (f_seenAs h m) g).1.guests })).length = h.mons.length by omega])
 refine S.is fun S => ?_
 refine S.gr 10 .nil [GT.val (⟨h.mem, (h.mons.set m.toNat ({ el h.mons m.toNat with guests := (f_bareStep (f_seenAs h m) g).1.guests })), h.buf, h.iobuf⟩ : THost) (⟨q1.mem, (q1.mons.1, q884), q1.buf, q1.iobuf⟩ : PHost), B true] fun ac w β S => ?_
 have o892 := ow_Host (x := (⟨h.mem, (h.mons.set m.toNat ({ el h.mons m.toNat with guests := (f_bareStep (f_seenAs h m) g).1.guests })), h.buf, h.iobuf⟩ : THost)) (p := (⟨q1.mem, (q1.mons.1, q884), q1.buf, q1.iobuf⟩ : PHost)) o6 o882 o12 o15 d888 d18 d19 (Disj.symm d889) (Disj.symm d890) d22 
 exact ret2_of (p' := ()) S (show (f_hostStep h m g).1 = (⟨h.mem, (h.mons.set m.toNat ({ el h.mons m.toNat with guests := (f_bareStep (f_seenAs h m) g).1.guests })), h.buf, h.iobuf⟩ : THost) from k1_impl_HostStep) (show (f_hostStep h m g).2 = true from k3_impl_HostStep) rfl rfl o892 trivial

theorem c_impl_HostAck (w0 : World) (h : THost) (ph : PHost) (hh : RD w0 h ph) (m : Int) : Calls Tryz.prog 29 [GT.val h ph, I m].toArray w0 (Ret3 NoB w0 ((f_hostAck h m).1 : THost) ((f_hostAck h m).2.1 : Int) ((f_hostAck h m).2.2 : Bool)) := by
 refine Calls.run NoB Tryz.func29 ?_
 intro ac β S
 have hleh_mem : h.mem.length ≤ 4194304 := LRd.le (RHost.mem (d := h) hh)
 have hleh_mons : h.mons.length ≤ 4194304 := LRd.le (RHost.mons (d := h) hh)
 have hleh_buf : h.buf.length ≤ 4194304 := LRd.le (RHost.buf (d := h) hh)
 have hleh_iobuf : h.iobuf.length ≤ 4194304 := LRd.le (RHost.iobuf (d := h) hh)
 refine S.go 15 .nil fun ac w β S => ?_
 refine S.Frz 2 (-1) () (show In64 (-1) from ⟨by decide, by decide⟩) fun β N b1 F2 S up o3 d4 => ?_
 clear up d4
 refine S.go 4 .nil fun ac w β S => S.K2W (r := (f_reflected h m (f_ackPair (f_seenAs h m))).1) (r' := (f_reflected h m (f_ackPair (f_seenAs h m))).2) (n' := f_ackN h m (-1)) (d := 14) o3 (c_impl_reflected_impl_HostAck_1 w F2 h ph (fun b => b < w0.heap.size) (S.oldrd hh) (fun b hb => ⟨Nat.lt_of_lt_of_le hb S.chg.size, fun hf => Nat.not_lt_of_le ((o3.young b hf).resolve_right id) hb⟩) m (-1) (cap1 b1 () : LP Int) (S.ownw o3) (fun b hb => (S.sep b (o3.sub b hb)).1)) fun ac w N q5 q6 F7 p8 S up o9 o10 d11 => ?_
 clear up d11 o3
 have i13 : In64 (f_ackN h m (-1)) := LRd.el o10.rn 0 (Nat.succ_pos 0)
 refine S.go 9 .nil fun ac w β S => ?_
 refine drw ?_
 let σ14 : Sy := ⟨[(4, .p 1 0), (7, .v (pt ((cap1 b1 () : LP Int).1).b (((cap1 b1 () : LP Int).1).off + 0 * 1))), (8, .p 2 0), (9, .v (B (f_reflected h m (f_ackPair (f_seenAs h m))).2))], [GT.cells h ph, Zc THost, GT.cells (f_reflected h m (f_ackPair (f_seenAs h m))).1 q5]⟩
 obtain ⟨u0, N0, β0, S, o9, o10⟩ : ∃ u0 N0 β0, St Tryz.prog Tryz.f29.ntmps w0 NoB u0 N0 β0 σ14 ac w ∧ Ow w0 NoB u0 N0 F7 (f_reflected h m (f_ackPair (f_seenAs h m))).1 q5 ∧ Ow w0 NoB u0 N0 F2 ([f_ackN h m (-1)]) (((cap1 b1 () : LP Int).1, p8) : LP Int) := ⟨_, _, _, S.z, o9, o10⟩
 refine wp_region_cut (fun ac w => ∃  u N β, St Tryz.prog Tryz.f29.ntmps w0 NoB u N β (σ14.dl [7, 8, 9] [(5, .v (I (f_ackN h m (-1)))), (6, .v (B (f_reflected h m (f_ackPair (f_seenAs h m))).2))] 2 [(1, GT.cells (f_reflected h m (f_ackPair (f_seenAs h m))).1 q5)]) ac w ∧ Ow w0 NoB u N F7 (f_reflected h m (f_ackPair (f_seenAs h m))).1 q5) ?_ ?_
 ·refine S.draw0 (f := 6) 3 (by kernel_rfl) (by kernel_rfl) fun w S => ?_
  refine S.hq 0 [0] [] [(17, .v (GT.val (f_reflected h m (f_ackPair (f_seenAs h m))).1 q5))] .nil fun ac S => ?_
  refine WD.nameW fun W hW => ?_
  refine WD.castW (l' := mkL 6 [0]) (by kernel_rfl) ?_
  have hK15 ac w u N β (S : St Tryz.prog Tryz.f29.ntmps w0 NoB u N β (σ14.dl [7, 8, 9] [(5, .v (I (f_ackN h m (-1)))), (6, .v (B (f_reflected h m (f_ackPair (f_seenAs h m))).2))] 3 [(1, GT.cells (f_reflected h m (f_ackPair (f_seenAs h m))).1 q5)]) ac w) (o9 : Ow w0 NoB u N F7 (f_reflected h m (f_ackPair (f_seenAs h m))).1 q5) : W 0 (mkL 6 [0, 1, 2, 3, 4, 5]) ac w := by
   exact od hW ⟨rfl, _, _, _, S.z, o9⟩
  have hK16 ac w u N β (S : St Tryz.prog Tryz.f29.ntmps w0 NoB u N β (σ14.dl [7, 8, 9] [(17, .v (GT.val (f_reflected h m (f_ackPair (f_seenAs h m))).1 q5)), (18, .v (I (f_ackN h m (-1)))), (19, .v (B (f_reflected h m (f_ackPair (f_seenAs h m))).2))] 3 []) ac w) (o9 : Ow w0 NoB u N F7 (f_reflected h m (f_ackPair (f_seenAs h m))).1 q5) (hNN : NN N0 u0 N u) (hBB : BB σ14.bx.length β0 β) : W 3 (mkL 6 [0, 1, 2]) ac w := by
   exact ox1 hW 3 (S.wl hW [4, 5] .nil fun _ _ _ S => hK15 _ _ _ _ _ S o9)
  have hK17 ac w u N β (S : St Tryz.prog Tryz.f29.ntmps w0 NoB u N β (σ14.dl [8, 9] [(19, .v (B (f_reflected h m (f_ackPair (f_seenAs h m))).2))] 3 [(1, GT.cells (f_reflected h m (f_ackPair (f_seenAs h m))).1 q5)]) ac w) (o9 : Ow w0 NoB u N F7 (f_reflected h m (f_ackPair (f_seenAs h m))).1 q5) (o10 : Ow w0 NoB u N F2 ([f_ackN h m (-1)]) (((cap1 b1 () : LP Int).1, p8) : LP Int)) : W 3 (mkL 6 [0, 2, 3]) ac w := by
   exact ox1 hW 1 (S.wl hW [4, 5] (.cons (Q_el1 o10.rn (t := 3) (k := 0) (Nat.succ_pos 0) rfl (by kernel_rfl)) .nil) fun _ _ _ S => hK15 _ _ _ _ _ S o9)
  have hK18 ac w u N β (S : St Tryz.prog Tryz.f29.ntmps w0 NoB u N β (σ14.dl [8, 9] [(17, .v (GT.val (f_reflected h m (f_ackPair (f_seenAs h m))).1 q5)), (19, .v (B (f_reflected h m (f_ackPair (f_seenAs h m))).2))] 3 []) ac w) (o9 : Ow w0 NoB u N F7 (f_reflected h m (f_ackPair (f_seenAs h m))).1 q5) (o10 : Ow w0 NoB u N F2 ([f_ackN h m (-1)]) (((cap1 b1 () : LP Int).1, p8) : LP Int)) (hNN : NN N0 u0 N u) (hBB : BB σ14.bx.length β0 β) : W 4 (mkL 6 [0, 2]) ac w := by
   exact ox2 hW 1 3 (S.wq hW hNN hBB [] (.cons (Q_el1 o10.rn (t := 3) (k := 0) (Nat.succ_pos 0) rfl (by kernel_rfl)) .nil) fun _ _ _ S hB => hK16 _ _ _ _ _ S o9 hNN hB) (S.wl hW [] .nil fun _ _ _ S => hK17 _ _ _ _ _ S o9 o10)
  rw [hW]
  exact S.wh hW [2] (fun _ => S.rcx) fun _ S => hK18 _ _ _ _ _ S o9 o10 (fun _ h => ⟨h, rfl⟩) (fun _ _ => rfl)
 clear S o9 o10
 rintro ac w ⟨u, N, β, S, o9⟩
 refine S.ex fun S => ?_
 refine S.gr 2 .nil [GT.val (f_reflected h m (f_ackPair (f_seenAs h m))).1 q5, I (f_ackN h m (-1)), B (f_reflected h m (f_ackPair (f_seenAs h m))).2] fun ac w β S => ?_
 exact ret3_of (p' := ()) (p'' := ()) S (show (f_hostAck h m).1 = (f_reflected h m (f_ackPair (f_seenAs h m))).1 by clear S; (first | rfl | (unfold f_hostAck; rfl))) (show (f_hostAck h m).2.1 = f_ackN h m (-1) by clear S; (first | rfl | (unfold f_hostAck; rfl))) (show (f_hostAck h m).2.2 = (f_reflected h m (f_ackPair (f_seenAs h m))).2 by clear S; (first | rfl | (unfold f_hostAck; rfl))) rfl rfl rfl o9 i13 trivial

theorem k0_spec_l01In {p : Prop} (h : p := by clear S; first | rfl | (simp [f_within, *]; done) | (simp [f_within, *]; omega) | (simp_all [f_within]; done) | (simp_all [f_within]; omega)) : p := h
theorem c_spec_l01In (w0 : World) (x : Int) (a : Int) (b : Int) : Calls Tryz.prog 44 [I x, I a, I b].toArray w0 (fun e w' => e = .returned (B (f_within x a b)) ∧ Chg NoB w0 w') := by
 refine Calls.run NoB Tryz.func44 ?_
 intro ac β S
 refine S.gd 11 .nil (decide (x ≥ a)) (fun ac w β h1 g2 S => ?_) (fun ac w β h1 g2 S => ?_)
 ·exact S.gf 8 .nil [B (decide (x ≤ b))] (retB k0_spec_l01In)
 exact S.gf 8 .nil [B false] (retB k0_spec_l01In)

theorem c_spec_l04Copy (w0 : World) (l : List (List Int)) (pl : LP (List Int)) (hl : RD w0 l pl) : Calls Tryz.prog 106 [slv l.length pl.1].toArray w0 (Ret1 NoB w0 (l : List (List Int))) := by
 refine Calls.run NoB Tryz.func106 ?_
 intro ac β S
 have hlel : l.length ≤ 4194304 := LRd.le hl
 refine S.go 7 .nil fun ac w β S => S.B0 (α := List Int) (d := 5) fun ac w N q1 F2 S up o3 d4 => ?_
 clear up d4
 refine S.go 10 .nil fun ac w β S => ?_
 refine lp (fun mm ac w => ∃ (k : Nat) (acc : List (List Int)) (q5 : _) (F6 : _) (u : _) (N : _) (β : _), mm = l.length - k ∧ (k ≤ l.length) ∧ (acc = l.take k) ∧ St Tryz.prog Tryz.f106.ntmps w0 NoB u N β ⟨[(0, .v (slv l.length pl.1)), (3, .v (slv acc.length q5.1)), (4, .v (I (k : Int)))], []⟩ ac w ∧ Ow w0 NoB u N F6 acc q5) _ ⟨0, ([] : List (List Int)), q1, F2, _, _, _, rfl, o0, (by simp), S.z, o3⟩ ?_
 clear S o3
 rintro f8 mm hf9 ac w ⟨k, acc, q5, F6, u, N, β, rfl, hk, hacc, S, o7⟩
 refine S.rs fun S => ?_
 have hlacc : acc.length = k := by rw [hacc]; simp; omega
 refine S.gd 9 .nil (decide ((k : Int) < (l.length : Int))) (fun ac w β h10 g11 S => ?_) (fun ac w β h10 g11 S => ?_)
 ·refine S.go 7 .nil fun ac w β S => S.B0 (α := Int) (d := 13) fun ac w N q12 F13 S up o14 d15 => ?_
  have d16 := Disj.w d15 o7.sub
  replace o7 := o7.up up
  clear up d15
  have b21 : (el l k).length ≤ 4194304 := LRd.le (LRd.el (S.arg hl) k (by omega))
  refine S.go 4 (.cons (qn (S.arg hl) k Tryz.underlying24) (.cons (qx (S.arg hl) 26 k) .nil)) fun ac w β S => S.AF0 (α := Int) o14 (LRd.el (S.arg hl) k (by omega)) (fun _ _ h => h) (by' := 8) (d := 18) (lx := 0) (ly := (el l k).length) rfl fun ac w N q17 F18 S up o19 d20 => ?_
  have d22 := d20 _ d16 o7.sub
  replace o7 := o7.upF d16 up
  clear up d20
  refine S.B1 (α := List Int) (x := (el l k)) (p := q17) o19.own o19.sub o19.young (d := 19) fun ac w N q23 F24 S up o25 d26 => ?_
  have d27 := d26 _ d22 o7.sub
  replace o7 := o7.up up
  clear up d26
  refine S.AO (α := List Int) o7 o25 d27 (by' := 24) (d := 20) (lx := acc.length) (ly := 1) rfl rfl (show _ ≤ 4194304 by simp only [List.length_append, List.length_cons, List.length_nil]; omega) fun ac w N q28 F29 S up o30 d31 => ?_
  clear up d31
  refine S.ge 9 (.cons (qp (k : Int) 1) .nil) f8 fun ac w β S => hf9.of (l.length - (k + 1)) _ _ (by omega) ⟨k + 1, (acc ++ [(el l k)]), q28, F29, _, _, _, rfl, ?_, ?_, S.z, o30⟩
  ·exact oz
  ·clear S; (first | (rw [take_el (by omega), hacc]; done) | (rw [take_el (by omega), hacc]; simp; done))
 refine S.gr 13 .nil [slv acc.length q5.1] fun ac w β S => ?_
 exact ret1_of S (show l = acc by clear S; (rw [hacc, take_all (by omega)])) rfl o7

theorem c_spec_l15Copy (w0 : World) (g : TGuest) (pg : PGuest) (hg : RD w0 g pg) : Calls Tryz.prog 158 [GT.val g pg].toArray w0 (Ret1 NoB w0 (g : TGuest)) := by
 refine Calls.run NoB Tryz.func158 ?_
 intro ac β S
 have hleg_prog : g.prog.length ≤ 4194304 := LRd.le (RGuest.prog (d := g) hg)
 have hleg_written : g.written.length ≤ 4194304 := LRd.le (RGuest.written (d := g) hg)
 have hleg_live : g.live.length ≤ 4194304 := LRd.le (RGuest.live (d := g) hg)
 have hleg_seen : g.seen.length ≤ 4194304 := LRd.le (RGuest.seen (d := g) hg)
 refine S.go 8 .nil fun ac w β S => S.B0 (α := TIns) (d := 3) fun ac w N q1 F2 S up o3 d4 => ?_
 clear up d4
 have b9 : g.prog.length ≤ 4194304 := LRd.le (RGuest.prog (d := g) (S.arg hg))
 refine S.go 2 .nil fun ac w β S => S.AF0 (α := TIns) o3 (RGuest.prog (d := g) (S.arg hg)) (fun _ _ h => h) (by' := 16) (d := 6) (lx := 0) (ly := g.prog.length) rfl fun ac w N q5 F6 S up o7 d8 => ?_
 clear up d8
 refine S.go 6 .nil fun ac w β S => S.B0 (α := TSlot) (d := 8) fun ac w N q10 F11 S up o12 d13 => ?_
 have d14 := Disj.w d13 o7.sub
 replace o7 := o7.up up
 clear up d13
 have b19 : g.written.length ≤ 4194304 := LRd.le (RGuest.written (d := g) (S.arg hg))
 refine S.go 2 .nil fun ac w β S => S.AF0 (α := TSlot) o12 (RGuest.written (d := g) (S.arg hg)) (fun _ _ h => h) (by' := 16) (d := 11) (lx := 0) (ly := g.written.length) rfl fun ac w N q15 F16 S up o17 d18 => ?_
 have d20 := d18 _ d14 o7.sub
 replace o7 := o7.upF d14 up
 clear up d18
 refine S.go 6 .nil fun ac w β S => S.B0 (α := TSlot) (d := 13) fun ac w N q21 F22 S up o23 d24 => ?_
 have d25 := Disj.w d24 o7.sub
 have d26 := Disj.w d24 o17.sub
 replace o7 := o7.up up
 replace o17 := o17.up up
 clear up d24
 have b31 : g.live.length ≤ 4194304 := LRd.le (RGuest.live (d := g) (S.arg hg))
 refine S.go 2 .nil fun ac w β S => S.AF0 (α := TSlot) o23 (RGuest.live (d := g) (S.arg hg)) (fun _ _ h => h) (by' := 16) (d := 16) (lx := 0) (ly := g.live.length) rfl fun ac w N q27 F28 S up o29 d30 => ?_
 have d32 := d30 _ d25 o7.sub
 have d33 := d30 _ d26 o17.sub
 replace o7 := o7.upF d25 up
 replace o17 := o17.upF d26 up
 clear up d30
 refine S.go 6 .nil fun ac w β S => S.B0 (α := Int) (d := 18) fun ac w N q34 F35 S up o36 d37 => ?_
 have d38 := Disj.w d37 o7.sub
 have d39 := Disj.w d37 o17.sub
 have d40 := Disj.w d37 o29.sub
 replace o7 := o7.up up
 replace o17 := o17.up up
 replace o29 := o29.up up
 clear up d37
 have b45 : g.seen.length ≤ 4194304 := LRd.le (RGuest.seen (d := g) (S.arg hg))
 refine S.go 2 .nil fun ac w β S => S.AF0 (α := Int) o36 (RGuest.seen (d := g) (S.arg hg)) (fun _ _ h => h) (by' := 8) (d := 21) (lx := 0) (ly := g.seen.length) rfl fun ac w N q41 F42 S up o43 d44 => ?_
 have d46 := d44 _ d38 o7.sub
 have d47 := d44 _ d39 o17.sub
 have d48 := d44 _ d40 o29.sub
 replace o7 := o7.upF d38 up
 replace o17 := o17.upF d39 up
 replace o29 := o29.upF d40 up
 clear up d44
 refine S.gr 11 .nil [GT.val (⟨g.prog, g.acc, g.pc, g.written, g.live, g.ctl, g.pend, g.exit, g.halted, g.seen⟩ : TGuest) (⟨q5, q15, q27, q41⟩ : PGuest)] fun ac w β S => ?_
 have o49 := ow_Guest (x := (⟨g.prog, g.acc, g.pc, g.written, g.live, g.ctl, g.pend, g.exit, g.halted, g.seen⟩ : TGuest)) (p := (⟨q5, q15, q27, q41⟩ : PGuest)) o7 o17 o29 o43 d20 d32 d46 d33 d47 d48 (RGuest.acc (d := g) (S.arg hg)) (RGuest.pc (d := g) (S.arg hg)) (RGuest.ctl (d := g) (S.arg hg)) (RGuest.pend (d := g) (S.arg hg)) (RGuest.exit (d := g) (S.arg hg))
 exact ret1_of S (show g = (⟨g.prog, g.acc, g.pc, g.written, g.live, g.ctl, g.pend, g.exit, g.halted, g.seen⟩ : TGuest) by clear S; (first | rfl | simp)) rfl o49

theorem c_spec_l17Guests (w0 : World) (l : List TGuest) (pl : LP TGuest) (hl : RD w0 l pl) : Calls Tryz.prog 107 [slv l.length pl.1].toArray w0 (Ret1 NoB w0 (l : List TGuest)) := by
 refine Calls.run NoB Tryz.func107 ?_
 intro ac β S
 have hlel : l.length ≤ 4194304 := LRd.le hl
 refine S.go 7 .nil fun ac w β S => S.B0 (α := TGuest) (d := 5) fun ac w N q1 F2 S up o3 d4 => ?_
 clear up d4
 refine S.go 10 .nil fun ac w β S => ?_
 refine lp (fun mm ac w => ∃ (k : Nat) (acc : List TGuest) (q5 : _) (F6 : _) (u : _) (N : _) (β : _), mm = l.length - k ∧ (k ≤ l.length) ∧ (acc = l.take k) ∧ St Tryz.prog Tryz.f107.ntmps w0 NoB u N β ⟨[(0, .v (slv l.length pl.1)), (3, .v (slv acc.length q5.1)), (4, .v (I (k : Int)))], []⟩ ac w ∧ Ow w0 NoB u N F6 acc q5) _ ⟨0, ([] : List TGuest), q1, F2, _, _, _, rfl, o0, (by simp), S.z, o3⟩ ?_
 clear S o3
 rintro f8 mm hf9 ac w ⟨k, acc, q5, F6, u, N, β, rfl, hk, hacc, S, o7⟩
 refine S.rs fun S => ?_
 have hlacc : acc.length = k := by rw [hacc]; simp; omega
 refine S.gd 9 .nil (decide ((k : Int) < (l.length : Int))) (fun ac w β h10 g11 S => ?_) (fun ac w β h10 g11 S => ?_)
 ·refine S.go 11 (.cons (qn (S.arg hl) k Tryz.underlying25) (.cons (qs (S.arg hl) 51 k) .nil)) fun ac w β S => S.K1 (r := (el l k)) (d := 17) (c_spec_l15Copy w (el l k) (pl.2 k) (S.rd (LRd.el (S.arg hl) k (by omega)))) fun ac w N q12 F13 S up o14 d15 => ?_
  have d16 := Disj.w d15 o7.sub
  replace o7 := o7.up up
  clear up d15
  refine S.B1 (α := TGuest) (x := (el l k)) (p := q12) o14.own o14.sub o14.young (d := 18) fun ac w N q17 F18 S up o19 d20 => ?_
  have d21 := d20 _ d16 o7.sub
  replace o7 := o7.up up
  clear up d20
  refine S.AO (α := TGuest) o7 o19 d21 (by' := 184) (d := 19) (lx := acc.length) (ly := 1) rfl rfl (show _ ≤ 4194304 by simp only [List.length_append, List.length_cons, List.length_nil]; omega) fun ac w N q22 F23 S up o24 d25 => ?_
  clear up d25
  refine S.ge 9 (.cons (qp (k : Int) 1) .nil) f8 fun ac w β S => hf9.of (l.length - (k + 1)) _ _ (by omega) ⟨k + 1, (acc ++ [(el l k)]), q22, F23, _, _, _, rfl, ?_, ?_, S.z, o24⟩
  ·exact oz
  ·clear S; (first | (rw [take_el (by omega), hacc]; done) | (rw [take_el (by omega), hacc]; simp; done))
 refine S.gr 13 .nil [slv acc.length q5.1] fun ac w β S => ?_
 exact ret1_of S (show l = acc by clear S; (rw [hacc, take_all (by omega)])) rfl o7

theorem c_spec_l07Copy (w0 : World) (k : TKept) (pk : PKept) (hk : RD w0 k pk) : Calls Tryz.prog 192 [GT.val k pk].toArray w0 (Ret1 NoB w0 (k : TKept)) := by
 refine Calls.run NoB Tryz.func192 ?_
 intro ac β S
 have hlek_known : k.known.length ≤ 4194304 := LRd.le (RKept.known (d := k) hk)
 have hlek_slots : k.slots.length ≤ 4194304 := LRd.le (RKept.slots (d := k) hk)
 refine S.go 7 .nil fun ac w β S => ?_
 refine drw ?_
 let σ1 : Sy := ⟨[(1, .p 0 0), (2, .p 1 0)], [GT.cells k pk, Zc TKept]⟩
 obtain ⟨u0, N0, β0, S⟩ : ∃ u0 N0 β0, St Tryz.prog Tryz.f192.ntmps w0 NoB u0 N0 β0 σ1 ac w := ⟨_, _, _, S.z⟩
 refine wp_region_cut (fun ac w => ∃ q69 F70 q72 F73 u N β, St Tryz.prog Tryz.f192.ntmps w0 NoB u N β (σ1.dl [1] [] 2 [(1, [slv k.known.length q69.1, slv k.slots.length q72.1])]) ac w ∧ Ow w0 NoB u N F70 k.known q69 ∧ Ow w0 NoB u N F73 k.slots q72 ∧ Disj F70 F73) ?_ ?_
 ·refine S.draw0 (f := 10) 9 (by kernel_rfl) (by kernel_rfl) fun w S => ?_
  refine S.hq 1 [1] [] [(4, .p 0 0)] .nil fun ac S => ?_
  refine S.hq 2 [2] [] [(5, .v (slv k.known.length pk.known.1))] .nil fun ac S => ?_
  refine S.hq 5 [5] [] [(8, .p 0 1)] .nil fun ac S => ?_
  refine S.hq 6 [6] [] [(9, .v (slv k.slots.length pk.slots.1))] .nil fun ac S => ?_
  refine WD.nameW fun W hW => ?_
  refine WD.castW (l' := mkL 10 [1, 2, 5, 6]) (by kernel_rfl) ?_
  have hK74 ac w q69 F70 q72 F73 u N β (S : St Tryz.prog Tryz.f192.ntmps w0 NoB u N β (σ1.dl [1] [] 2 [(1, [slv k.known.length q69.1, slv k.slots.length q72.1])]) ac w) (o68 : Ow w0 NoB u N F70 k.known q69) (o71 : Ow w0 NoB u N F73 k.slots q72) (d75 : Disj F70 F73) : W 0 (mkL 10 [0, 1, 2, 3, 4, 5, 6, 7, 8, 9]) ac w := by
   exact od hW ⟨rfl, q69, F70, q72, F73, _, _, _, S.z, o68, o71, d75⟩
  have hK76 ac w q63 F64 q66 F67 u N β (S : St Tryz.prog Tryz.f192.ntmps w0 NoB u N β (σ1.dl [1] [(11, .v (GT.val (⟨k.known, k.slots⟩ : TKept) (⟨q63, q66⟩ : PKept)))] 2 []) ac w) (o62 : Ow w0 NoB u N F64 k.known q63) (o65 : Ow w0 NoB u N F67 k.slots q66) (d77 : Disj F64 F67) (hNN : NN N0 u0 N u) (hBB : BB σ1.bx.length β0 β) : W 1 (mkL 10 [0, 1, 2, 3, 4, 5, 6, 7, 8]) ac w := by
   exact ox1 hW 9 (S.wl hW [] .nil fun _ _ _ S => hK74 _ _ q63 F64 q66 F67 _ _ _ S o62 o65 d77)
  have hK78 ac w q60 F61 q25 F26 u N β (S : St Tryz.prog Tryz.f192.ntmps w0 NoB u N β (σ1.dl [1] [(6, .v (slv k.known.length q25.1)), (10, .v (slv k.slots.length q60.1))] 2 []) ac w) (o59 : Ow w0 NoB u N F61 k.slots q60) (o24 : Ow w0 NoB u N F26 k.known q25) (d79 : Disj F61 F26) (hNN : NN N0 u0 N u) (hBB : BB σ1.bx.length β0 β) : W 2 (mkL 10 [0, 1, 2, 3, 4, 5, 6, 7]) ac w := by
   exact ox1 hW 8 (S.wq hW hNN hBB [] (.cons (Q_sem (s := Instr.build 106 [(0, slv k.known.length q25.1), (1, slv k.slots.length q60.1)].toArray) (v := .agg [slv k.known.length q25.1, slv k.slots.length q60.1].toArray) (fun w => by kernel_rfl)) .nil) fun _ _ _ S hB => hK76 _ _ q25 F26 q60 F61 _ _ _ S o24 o59 (Disj.symm d79) hNN hB)
  have hK80 ac w q25 F26 q16 F17 u N β (S : St Tryz.prog Tryz.f192.ntmps w0 NoB u N β (σ1.dl [1] [(6, .v (slv k.known.length q25.1)), (7, .v (slv 0 q16.1)), (9, .v (slv k.slots.length pk.slots.1))] 2 []) ac w) (o24 : Ow w0 NoB u N F26 k.known q25) (o15 : Ow w0 NoB u N F17 ([] : List TSlot) q16) (d81 : Disj F26 F17) (hNN : ∀ b, N0 b → N b ∧ u.heap[b]? = u0.heap[b]? ∧ ¬ F17 b) (hBB : BB σ1.bx.length β0 β) : W 3 (mkL 10 [0, 1, 2, 3, 4, 5, 6]) ac w := by
   refine ox1 hW 7 ?_
   have b86 : k.slots.length ≤ 4194304 := LRd.le (RKept.slots (d := k) (S.arg hk))
   refine id (S.appFlat0 (α := TSlot) o15 (RKept.slots (d := k) (S.arg hk)) (fun _ _ h => h) (by' := 16) (d := 10) (lx := 0) (ly := k.slots.length) rfl fun ac w N q82 F83 S up o84 d85 => ?_)
   have hb87 := fun b h => (⟨(up b (hNN b h).1 (hNN b h).2.2).1, (up b (hNN b h).1 (hNN b h).2.2).2.trans (hNN b h).2.1⟩ : _ ∧ _)
   refine WD.sc S hb87 hBB fun hC => ?_
   have d88 := d85 _ d81 o24.sub
   replace o24 := o24.upF d81 up
   clear up d85
   exact S.wh hW [] hC fun _ S => hK78 _ _ q82 F83 q25 F26 _ _ _ S o84 o24 (Disj.symm d88) hb87 hBB
  have hK89 ac w q25 F26 u N β (S : St Tryz.prog Tryz.f192.ntmps w0 NoB u N β (σ1.dl [1] [(6, .v (slv k.known.length q25.1)), (9, .v (slv k.slots.length pk.slots.1))] 2 []) ac w) (o24 : Ow w0 NoB u N F26 k.known q25) (hNN : NN N0 u0 N u) (hBB : BB σ1.bx.length β0 β) : W 4 (mkL 10 [0, 1, 2, 3, 5, 6]) ac w := by
   refine ox1 hW 4 ?_
   refine id (S.bs0 (α := TSlot) (d := 7) (by kernel_rfl) fun ac w N q90 F91 S up o92 d93 => ?_)
   have hb94 := fun b h => (⟨(up b (hNN b h).1).1, (up b (hNN b h).1).2.trans (hNN b h).2, d93 b (hNN b h).1⟩ : _ ∧ _ ∧ _)
   refine WD.sc S (fun b h => ⟨(hb94 b h).1, (hb94 b h).2.1⟩) hBB fun hC => ?_
   have d95 := Disj.w d93 o24.sub
   replace o24 := o24.up up
   clear up d93
   exact S.wh hW [] hC fun _ S => hK80 _ _ q25 F26 q90 F91 _ _ _ S o24 o92 d95 hb94 hBB
  have hK96 ac w q8 F9 q16 F17 u N β (S : St Tryz.prog Tryz.f192.ntmps w0 NoB u N β (σ1.dl [1] [(3, .v (slv 0 q8.1)), (5, .v (slv k.known.length pk.known.1)), (7, .v (slv 0 q16.1)), (9, .v (slv k.slots.length pk.slots.1))] 2 []) ac w) (o7 : Ow w0 NoB u N F9 ([] : List Bool) q8) (o15 : Ow w0 NoB u N F17 ([] : List TSlot) q16) (d97 : Disj F9 F17) (hNN : ∀ b, N0 b → N b ∧ u.heap[b]? = u0.heap[b]? ∧ ¬ F9 b ∧ ¬ F17 b) (hBB : BB σ1.bx.length β0 β) : W 4 (mkL 10 [0, 1, 2, 4, 5, 6]) ac w := by
   refine ox1 hW 3 ?_
   have b102 : k.known.length ≤ 4194304 := LRd.le (RKept.known (d := k) (S.arg hk))
   refine id (S.appFlat0 (α := Bool) o7 (RKept.known (d := k) (S.arg hk)) (fun _ _ h => h) (by' := 1) (d := 6) (lx := 0) (ly := k.known.length) rfl fun ac w N q98 F99 S up o100 d101 => ?_)
   have hb103 := fun b h => (⟨(up b (hNN b h).1 (hNN b h).2.2.1).1, (up b (hNN b h).1 (hNN b h).2.2.1).2.trans (hNN b h).2.1, (hNN b h).2.2.2⟩ : _ ∧ _ ∧ _)
   refine WD.sc S (fun b h => ⟨(hb103 b h).1, (hb103 b h).2.1⟩) hBB fun hC => ?_
   have d104 := d101 _ (Disj.symm d97) o15.sub
   replace o15 := o15.upF (Disj.symm d97) up
   clear up d101
   exact S.wh hW [] hC fun _ S => hK80 _ _ q98 F99 q16 F17 _ _ _ S o100 o15 (Disj.symm d104) hb103 hBB
  have hK105 ac w q8 F9 u N β (S : St Tryz.prog Tryz.f192.ntmps w0 NoB u N β (σ1.dl [1] [(3, .v (slv 0 q8.1)), (5, .v (slv k.known.length pk.known.1)), (9, .v (slv k.slots.length pk.slots.1))] 2 []) ac w) (o7 : Ow w0 NoB u N F9 ([] : List Bool) q8) (hNN : ∀ b, N0 b → N b ∧ u.heap[b]? = u0.heap[b]? ∧ ¬ F9 b) (hBB : BB σ1.bx.length β0 β) : W 5 (mkL 10 [0, 1, 2, 5, 6]) ac w := by
   refine ox2 hW 3 4 ?_ ?_
   ·have b110 : k.known.length ≤ 4194304 := LRd.le (RKept.known (d := k) (S.arg hk))
    refine id (S.appFlat0 (α := Bool) o7 (RKept.known (d := k) (S.arg hk)) (fun _ _ h => h) (by' := 1) (d := 6) (lx := 0) (ly := k.known.length) rfl fun ac w N q106 F107 S up o108 d109 => ?_)
    have hb111 := fun b h => (⟨(up b (hNN b h).1 (hNN b h).2.2).1, (up b (hNN b h).1 (hNN b h).2.2).2.trans (hNN b h).2.1⟩ : _ ∧ _)
    refine WD.sc S hb111 hBB fun hC => ?_
    clear up d109
    exact S.wh hW [] hC fun _ S => hK89 _ _ q106 F107 _ _ _ S o108 hb111 hBB
   ·refine id (S.bs0 (α := TSlot) (d := 7) (by kernel_rfl) fun ac w N q112 F113 S up o114 d115 => ?_)
    have hb116 := fun b h => (⟨(up b (hNN b h).1).1, (up b (hNN b h).1).2.trans (hNN b h).2.1, (hNN b h).2.2, d115 b (hNN b h).1⟩ : _ ∧ _ ∧ _ ∧ _)
    refine WD.sc S (fun b h => ⟨(hb116 b h).1, (hb116 b h).2.1⟩) hBB fun hC => ?_
    have d117 := Disj.w d115 o7.sub
    replace o7 := o7.up up
    clear up d115
    exact S.wh hW [] hC fun _ S => hK96 _ _ q8 F9 q112 F113 _ _ _ S o7 o114 d117 hb116 hBB
  have hK118 ac w q16 F17 u N β (S : St Tryz.prog Tryz.f192.ntmps w0 NoB u N β (σ1.dl [1] [(5, .v (slv k.known.length pk.known.1)), (7, .v (slv 0 q16.1)), (9, .v (slv k.slots.length pk.slots.1))] 2 []) ac w) (o15 : Ow w0 NoB u N F17 ([] : List TSlot) q16) (hNN : ∀ b, N0 b → N b ∧ u.heap[b]? = u0.heap[b]? ∧ ¬ F17 b) (hBB : BB σ1.bx.length β0 β) : W 5 (mkL 10 [1, 2, 4, 5, 6]) ac w := by
   refine ox1 hW 0 ?_
   refine id (S.bs0 (α := Bool) (d := 3) (by kernel_rfl) fun ac w N q119 F120 S up o121 d122 => ?_)
   have hb123 := fun b h => (⟨(up b (hNN b h).1).1, (up b (hNN b h).1).2.trans (hNN b h).2.1, d122 b (hNN b h).1, (hNN b h).2.2⟩ : _ ∧ _ ∧ _ ∧ _)
   refine WD.sc S (fun b h => ⟨(hb123 b h).1, (hb123 b h).2.1⟩) hBB fun hC => ?_
   have d124 := Disj.w d122 o15.sub
   replace o15 := o15.up up
   clear up d122
   exact S.wh hW [] hC fun _ S => hK96 _ _ q119 F120 q16 F17 _ _ _ S o121 o15 (Disj.symm d124) hb123 hBB
  have hNN : NN N0 u0 N0 u0 := fun b h => ⟨h, rfl⟩
  have hBB : BB σ1.bx.length β0 β0 := fun _ _ => rfl
  refine ox2 hW 0 4 ?_ ?_
  ·refine id (S.bs0 (α := Bool) (d := 3) (by kernel_rfl) fun ac w N q125 F126 S up o127 d128 => ?_)
   have hb129 := fun b h => (⟨(up b (hNN b h).1).1, (up b (hNN b h).1).2.trans (hNN b h).2, d128 b (hNN b h).1⟩ : _ ∧ _ ∧ _)
   refine WD.sc S (fun b h => ⟨(hb129 b h).1, (hb129 b h).2.1⟩) hBB fun hC => ?_
   clear up d128
   exact S.wh hW [] hC fun _ S => hK105 _ _ q125 F126 _ _ _ S o127 hb129 hBB
  ·refine id (S.bs0 (α := TSlot) (d := 7) (by kernel_rfl) fun ac w N q130 F131 S up o132 d133 => ?_)
   have hb134 := fun b h => (⟨(up b (hNN b h).1).1, (up b (hNN b h).1).2.trans (hNN b h).2, d133 b (hNN b h).1⟩ : _ ∧ _ ∧ _)
   refine WD.sc S (fun b h => ⟨(hb134 b h).1, (hb134 b h).2.1⟩) hBB fun hC => ?_
   clear up d133
   exact S.wh hW [] hC fun _ S => hK118 _ _ q130 F131 _ _ _ S o132 hb134 hBB
 clear S
 rintro ac w ⟨q69, F70, q72, F73, u, N, β, S, o68, o71, d135⟩
 refine S.ex fun S => ?_
 refine S.gr 2 .nil [GT.val (⟨k.known, k.slots⟩ : TKept) (⟨q69, q72⟩ : PKept)] fun ac w β S => ?_
 have o136 := ow_Kept (x := (⟨k.known, k.slots⟩ : TKept)) (p := (⟨q69, q72⟩ : PKept)) o68 o71 d135 
 exact ret1_of S (show k = (⟨k.known, k.slots⟩ : TKept) by clear S; (first | rfl | simp)) rfl o136

theorem c_spec_l21Mon (w0 : World) (m : TMon) (pm : PMon) (hm : RD w0 m pm) : Calls Tryz.prog 159 [GT.val m pm].toArray w0 (Ret1 NoB w0 (m : TMon)) := by
 refine Calls.run NoB Tryz.func159 ?_
 intro ac β S
 have hlem_outer : m.outer.length ≤ 4194304 := LRd.le (RMon.outer (d := m) hm)
 have hlem_out : m.out.length ≤ 4194304 := LRd.le (RMon.out (d := m) hm)
 have hlem_dirty : m.dirty.length ≤ 4194304 := LRd.le (RMon.dirty (d := m) hm)
 have hlem_guests : m.guests.length ≤ 4194304 := LRd.le (RMon.guests (d := m) hm)
 have hlem_outs : m.outs.length ≤ 4194304 := LRd.le (RMon.outs (d := m) hm)
 have hlem_tables : m.tables.length ≤ 4194304 := LRd.le (RMon.tables (d := m) hm)
 refine S.go 8 .nil fun ac w β S => S.B0 (α := TSlot) (d := 5) fun ac w N q1 F2 S up o3 d4 => ?_
 clear up d4
 have b9 : m.outer.length ≤ 4194304 := LRd.le (RMon.outer (d := m) (S.arg hm))
 refine S.go 2 .nil fun ac w β S => S.AF0 (α := TSlot) o3 (RMon.outer (d := m) (S.arg hm)) (fun _ _ h => h) (by' := 16) (d := 8) (lx := 0) (ly := m.outer.length) rfl fun ac w N q5 F6 S up o7 d8 => ?_
 clear up d8
 refine S.go 8 .nil fun ac w β S => S.K1 (r := m.out) (d := 12) (c_spec_l04Copy w m.out pm.out (S.rd (RMon.out (d := m) (S.arg hm)))) fun ac w N q10 F11 S up o12 d13 => ?_
 have d14 := Disj.w d13 o7.sub
 replace o7 := o7.up up
 clear up d13
 refine S.go 6 .nil fun ac w β S => S.B0 (α := Bool) (d := 14) fun ac w N q15 F16 S up o17 d18 => ?_
 have d19 := Disj.w d18 o7.sub
 have d20 := Disj.w d18 o12.sub
 replace o7 := o7.up up
 replace o12 := o12.up up
 clear up d18
 have b25 : m.dirty.length ≤ 4194304 := LRd.le (RMon.dirty (d := m) (S.arg hm))
 refine S.go 2 .nil fun ac w β S => S.AF0 (α := Bool) o17 (RMon.dirty (d := m) (S.arg hm)) (fun _ _ h => h) (by' := 1) (d := 17) (lx := 0) (ly := m.dirty.length) rfl fun ac w N q21 F22 S up o23 d24 => ?_
 have d26 := d24 _ d19 o7.sub
 have d27 := d24 _ d20 o12.sub
 replace o7 := o7.upF d19 up
 replace o12 := o12.upF d20 up
 clear up d24
 refine S.go 8 .nil fun ac w β S => S.K1 (r := m.guests) (d := 21) (c_spec_l17Guests w m.guests pm.guests (S.rd (RMon.guests (d := m) (S.arg hm)))) fun ac w N q28 F29 S up o30 d31 => ?_
 have d32 := Disj.w d31 o7.sub
 have d33 := Disj.w d31 o12.sub
 have d34 := Disj.w d31 o23.sub
 replace o7 := o7.up up
 replace o12 := o12.up up
 replace o23 := o23.up up
 clear up d31
 refine S.go 6 .nil fun ac w β S => S.B0 (α := Int) (d := 23) fun ac w N q35 F36 S up o37 d38 => ?_
 have d39 := Disj.w d38 o7.sub
 have d40 := Disj.w d38 o12.sub
 have d41 := Disj.w d38 o23.sub
 have d42 := Disj.w d38 o30.sub
 replace o7 := o7.up up
 replace o12 := o12.up up
 replace o23 := o23.up up
 replace o30 := o30.up up
 clear up d38
 have b47 : m.outs.length ≤ 4194304 := LRd.le (RMon.outs (d := m) (S.arg hm))
 refine S.go 2 .nil fun ac w β S => S.AF0 (α := Int) o37 (RMon.outs (d := m) (S.arg hm)) (fun _ _ h => h) (by' := 8) (d := 26) (lx := 0) (ly := m.outs.length) rfl fun ac w N q43 F44 S up o45 d46 => ?_
 have d48 := d46 _ d39 o7.sub
 have d49 := d46 _ d40 o12.sub
 have d50 := d46 _ d41 o23.sub
 have d51 := d46 _ d42 o30.sub
 replace o7 := o7.upF d39 up
 replace o12 := o12.upF d40 up
 replace o23 := o23.upF d41 up
 replace o30 := o30.upF d42 up
 clear up d46
 refine S.go 6 .nil fun ac w β S => S.B0 (α := TKept) (d := 28) fun ac w N q52 F53 S up o54 d55 => ?_
 have d56 := Disj.w d55 o7.sub
 have d57 := Disj.w d55 o12.sub
 have d58 := Disj.w d55 o23.sub
 have d59 := Disj.w d55 o30.sub
 have d60 := Disj.w d55 o45.sub
 replace o7 := o7.up up
 replace o12 := o12.up up
 replace o23 := o23.up up
 replace o30 := o30.up up
 replace o45 := o45.up up
 clear up d55
 refine S.go 10 .nil fun ac w β S => ?_
 refine lp (fun mm ac w => ∃ (k : Nat) (acc : List TKept) (q61 : _) (F62 : _) (u : _) (N : _) (β : _), mm = m.tables.length - k ∧ (k ≤ m.tables.length) ∧ (acc = m.tables.take k) ∧ St Tryz.prog Tryz.f159.ntmps w0 NoB u N β ⟨[(1, .p 0 0), (2, .p 1 0), (3, .v (slv acc.length q61.1)), (4, .v (I (k : Int)))], [[slv m.outer.length q5.1, slv m.out.length q10.1, slv m.dirty.length q21.1, slv m.guests.length q28.1, slv m.outs.length q43.1, I m.pend, I m.traps, slv m.tables.length pm.tables.1, I m.owned], Zc TMon]⟩ ac w ∧ Ow w0 NoB u N F62 acc q61 ∧ Ow w0 NoB u N F6 m.outer q5 ∧ Ow w0 NoB u N F11 m.out q10 ∧ Ow w0 NoB u N F22 m.dirty q21 ∧ Ow w0 NoB u N F29 m.guests q28 ∧ Ow w0 NoB u N F44 m.outs q43 ∧ Disj F62 F6 ∧ Disj F62 F11 ∧ Disj F62 F22 ∧ Disj F62 F29 ∧ Disj F62 F44) _ ⟨0, ([] : List TKept), q52, F53, _, _, _, rfl, o0, (by simp), S.z, o54, o7, o12, o23, o30, o45, (Disj.symm d56), (Disj.symm d57), (Disj.symm d58), (Disj.symm d59), (Disj.symm d60)⟩ ?_
 clear S o12 o23 o30 o45 o54 o7
 rintro f69 mm hf70 ac w ⟨k, acc, q61, F62, u, N, β, rfl, hk, hacc, S, o63, o7, o12, o23, o30, o45, d64, d65, d66, d67, d68⟩
 refine S.rs fun S => ?_
 have hlacc : acc.length = k := by rw [hacc]; simp; omega
 refine S.gd 10 .nil (decide ((k : Int) < (m.tables.length : Int))) (fun ac w β h71 g72 S => ?_) (fun ac w β h71 g72 S => ?_)
 ·refine S.go 12 (.cons (qn (RMon.tables (d := m) (S.arg hm)) k Tryz.underlying97) (.cons (qs (RMon.tables (d := m) (S.arg hm)) 106 k) .nil)) fun ac w β S => S.K1 (r := (el m.tables k)) (d := 42) (c_spec_l07Copy w (el m.tables k) (pm.tables.2 k) (S.rd (LRd.el (RMon.tables (d := m) (S.arg hm)) k (by omega)))) fun ac w N q73 F74 S up o75 d76 => ?_
  have d77 := Disj.w d76 o63.sub
  have d78 := Disj.w d76 o7.sub
  have d79 := Disj.w d76 o12.sub
  have d80 := Disj.w d76 o23.sub
  have d81 := Disj.w d76 o30.sub
  have d82 := Disj.w d76 o45.sub
  replace o63 := o63.up up
  replace o7 := o7.up up
  replace o12 := o12.up up
  replace o23 := o23.up up
  replace o30 := o30.up up
  replace o45 := o45.up up
  clear up d76
  refine S.B1 (α := TKept) (x := (el m.tables k)) (p := q73) o75.own o75.sub o75.young (d := 43) fun ac w N q83 F84 S up o85 d86 => ?_
  have d87 := d86 _ d77 o63.sub
  have d88 := d86 _ d78 o7.sub
  have d89 := d86 _ d79 o12.sub
  have d90 := d86 _ d80 o23.sub
  have d91 := d86 _ d81 o30.sub
  have d92 := d86 _ d82 o45.sub
  replace o63 := o63.up up
  replace o7 := o7.up up
  replace o12 := o12.up up
  replace o23 := o23.up up
  replace o30 := o30.up up
  replace o45 := o45.up up
  clear up d86
  refine S.AO (α := TKept) o63 o85 d87 (by' := 48) (d := 44) (lx := acc.length) (ly := 1) rfl rfl (show _ ≤ 4194304 by simp only [List.length_append, List.length_cons, List.length_nil]; omega) fun ac w N q93 F94 S up o95 d96 => ?_
  have d97 := d96 _ (Disj.symm d64) d88 o7.sub
  have d98 := d96 _ (Disj.symm d65) d89 o12.sub
  have d99 := d96 _ (Disj.symm d66) d90 o23.sub
  have d100 := d96 _ (Disj.symm d67) d91 o30.sub
  have d101 := d96 _ (Disj.symm d68) d92 o45.sub
  replace o7 := o7.upF (Disj.symm d64) up
  replace o12 := o12.upF (Disj.symm d65) up
  replace o23 := o23.upF (Disj.symm d66) up
  replace o30 := o30.upF (Disj.symm d67) up
  replace o45 := o45.upF (Disj.symm d68) up
  clear up d96
  refine S.ge 9 (.cons (qp (k : Int) 1) .nil) f69 fun ac w β S => hf70.of (m.tables.length - (k + 1)) _ _ (by omega) ⟨k + 1, (acc ++ [(el m.tables k)]), q93, F94, _, _, _, rfl, ?_, ?_, S.z, o95, o7, o12, o23, o30, o45, (Disj.symm d97), (Disj.symm d98), (Disj.symm d99), (Disj.symm d100), (Disj.symm d101)⟩
  ·exact oz
  ·clear S; (first | (rw [take_el (by omega), hacc]; done) | (rw [take_el (by omega), hacc]; simp; done))
 refine S.gr 20 .nil [GT.val (⟨m.outer, m.out, m.dirty, m.guests, m.outs, m.pend, m.traps, acc, m.owned⟩ : TMon) (⟨q5, q10, q21, q28, q43, q61⟩ : PMon)] fun ac w β S => ?_
 have o102 := ow_Mon (x := (⟨m.outer, m.out, m.dirty, m.guests, m.outs, m.pend, m.traps, acc, m.owned⟩ : TMon)) (p := (⟨q5, q10, q21, q28, q43, q61⟩ : PMon)) o7 o12 o23 o30 o45 o63 d14 d26 d32 d48 (Disj.symm d64) d27 d33 d49 (Disj.symm d65) d34 d50 (Disj.symm d66) d51 (Disj.symm d67) (Disj.symm d68) (RMon.pend (d := m) (S.arg hm)) (RMon.traps (d := m) (S.arg hm)) (RMon.owned (d := m) (S.arg hm))
 exact ret1_of S (show m = (⟨m.outer, m.out, m.dirty, m.guests, m.outs, m.pend, m.traps, acc, m.owned⟩ : TMon) by clear S; (first | rfl | (rw [hacc, take_all (by omega)]; done) | (rw [hacc, take_all (by omega)]; simp; done) | simp)) rfl o102

theorem k0_spec_MonAt {p : Prop} (h : p := by clear S; (first | (unfold f_monAt; rw [if_pos (by omega)]) | (unfold f_monAt; rw [if_neg (by omega)]))) : p := h
theorem c_spec_MonAt (w0 : World) (h : THost) (ph : PHost) (hh : RD w0 h ph) (m : Int) : Calls Tryz.prog 93 [GT.val h ph, I m].toArray w0 (Ret2 NoB w0 ((f_monAt h m).1 : TMon) ((f_monAt h m).2 : Bool)) := by
 refine Calls.run NoB Tryz.func93 ?_
 intro ac β S
 have hleh_mem : h.mem.length ≤ 4194304 := LRd.le (RHost.mem (d := h) hh)
 have hleh_mons : h.mons.length ≤ 4194304 := LRd.le (RHost.mons (d := h) hh)
 have hleh_buf : h.buf.length ≤ 4194304 := LRd.le (RHost.buf (d := h) hh)
 have hleh_iobuf : h.iobuf.length ≤ 4194304 := LRd.le (RHost.iobuf (d := h) hh)
 refine S.gb 19 (.cons (qm (h.mons.length : Int) 1) (.cons (Q_call fun w hw => c_spec_l01In w m 0 ((h.mons.length : Int) - 1)) .nil)) (!(f_within m 0 ((h.mons.length : Int) - 1))) (fun ac w β h1 S => ?_) (fun ac w β h1 S => ?_)
 ·have h2 := not_t h1
  have g3 := within_f h2
  refine S.gr 9 (.cons (Q_sem (s := Instr.build 99 [].toArray) (v := .agg [slv ([] : List TSlot).length (GT.pdflt (α := List TSlot)).1, slv ([] : List (List Int)).length (GT.pdflt (α := List (List Int))).1, slv ([] : List Bool).length (GT.pdflt (α := List Bool)).1, slv ([] : List TGuest).length (GT.pdflt (α := List TGuest)).1, slv ([] : List Int).length (GT.pdflt (α := List Int)).1, I 0, I 0, slv ([] : List TKept).length (GT.pdflt (α := List TKept)).1, I 0].toArray) (fun w => by kernel_rfl)) .nil) [GT.val (⟨([] : List TSlot), ([] : List (List Int)), ([] : List Bool), ([] : List TGuest), ([] : List Int), 0, 0, ([] : List TKept), 0⟩ : TMon) (⟨(GT.pdflt (α := List TSlot)), (GT.pdflt (α := List (List Int))), (GT.pdflt (α := List Bool)), (GT.pdflt (α := List TGuest)), (GT.pdflt (α := List Int)), (GT.pdflt (α := List TKept))⟩ : PMon), B false] fun ac w β S => ?_
  have o4 := S.nilOw (α := TSlot)
  have o5 := S.nilOw (α := List Int)
  have o6 := S.nilOw (α := Bool)
  have o7 := S.nilOw (α := TGuest)
  have o8 := S.nilOw (α := Int)
  have o9 := S.nilOw (α := TKept)
  have o10 := ow_Mon (x := (⟨([] : List TSlot), ([] : List (List Int)), ([] : List Bool), ([] : List TGuest), ([] : List Int), 0, 0, ([] : List TKept), 0⟩ : TMon)) (p := (⟨(GT.pdflt (α := List TSlot)), (GT.pdflt (α := List (List Int))), (GT.pdflt (α := List Bool)), (GT.pdflt (α := List TGuest)), (GT.pdflt (α := List Int)), (GT.pdflt (α := List TKept))⟩ : PMon)) o4 o5 o6 o7 o8 o9 (fun b _ h => False.elim h) (fun b _ h => False.elim h) (fun b _ h => False.elim h) (fun b _ h => False.elim h) (fun b _ h => False.elim h) (fun b _ h => False.elim h) (fun b _ h => False.elim h) (fun b _ h => False.elim h) (fun b _ h => False.elim h) (fun b _ h => False.elim h) (fun b _ h => False.elim h) (fun b _ h => False.elim h) (fun b _ h => False.elim h) (fun b _ h => False.elim h) (fun b _ h => False.elim h) (show In64 0 from ⟨by decide, by decide⟩) (show In64 0 from ⟨by decide, by decide⟩) (show In64 0 from ⟨by decide, by decide⟩)
  exact ret2_of (p' := ()) S (show (f_monAt h m).1 = (⟨([] : List TSlot), ([] : List (List Int)), ([] : List Bool), ([] : List TGuest), ([] : List Int), 0, 0, ([] : List TKept), 0⟩ : TMon) from k0_spec_MonAt) (show (f_monAt h m).2 = false from k0_spec_MonAt) rfl rfl o10 trivial
 have h11 := not_f h1
 have g12 := within_t h11
 refine S.go 10 (.cons (qt (RHost.mons (d := h) (S.arg hh)) m Tryz.underlying57) (.cons (qs (RHost.mons (d := h) (S.arg hh)) 99 m.toNat) .nil)) fun ac w β S => S.K1 (r := (el h.mons m.toNat)) (d := 19) (c_spec_l21Mon w (el h.mons m.toNat) (ph.mons.2 m.toNat) (S.rd (LRd.el (RHost.mons (d := h) (S.arg hh)) m.toNat (by omega)))) fun ac w N q13 F14 S up o15 d16 => ?_
 clear up d16
 refine S.gr 5 .nil [GT.val (el h.mons m.toNat) q13, B true] fun ac w β S => ?_
 exact ret2_of (p' := ()) S (show (f_monAt h m).1 = (el h.mons m.toNat) from k0_spec_MonAt) (show (f_monAt h m).2 = true from k0_spec_MonAt) rfl rfl o15 trivial

theorem k0_spec_SlotAt {p : Prop} (h : p := by clear S; (first | (unfold f_slotAt; rw [if_pos (by omega)]) | (unfold f_slotAt; rw [if_neg (by omega)]))) : p := h
theorem c_spec_SlotAt (w0 : World) (t : List TSlot) (pt : LP TSlot) (ht : RD w0 t pt) (page : Int) : Calls Tryz.prog 51 [slv t.length pt.1, I page].toArray w0 (fun e w' => e = .returned (GT.val (f_slotAt t page) ()) ∧ Chg NoB w0 w') := by
 refine Calls.run NoB Tryz.func51 ?_
 intro ac β S
 have hlet : t.length ≤ 4194304 := LRd.le ht
 refine S.gb 16 (.cons (qm (t.length : Int) 1) (.cons (Q_call fun w hw => c_spec_l01In w page 0 ((t.length : Int) - 1)) .nil)) (!(f_within page 0 ((t.length : Int) - 1))) (fun ac w β h1 S => ?_) (fun ac w β h1 S => ?_)
 ·have h2 := not_t h1
  have g3 := within_f h2
  exact S.gf 8 (.cons (Q_call fun w hw => c_spec_NoSlot w ) .nil) [GT.val (⟨-1, 0⟩ : TSlot) ()] (retV (p := ()) k0_spec_SlotAt)
 have h4 := not_f h1
 have g5 := within_t h4
 exact S.gf 13 (.cons (qt (S.arg ht) page Tryz.underlying45) (.cons (qs (S.arg ht) 44 page.toNat) .nil)) [GT.val (el t page.toNat) ()] (retV (p := ()) k0_spec_SlotAt)

theorem k0_spec_PageAt {p : Prop} (h : p := by clear S; (first | (unfold f_pageAt; rw [if_pos (by omega)]; done) | (unfold f_pageAt; rw [if_pos (by omega)]; first | rfl | (simp; done)) | (unfold f_pageAt; rw [if_neg (by omega)]; done) | (unfold f_pageAt; rw [if_neg (by omega)]; first | rfl | (simp; done)))) : p := h
theorem c_spec_PageAt (w0 : World) (m : List (List Int)) (pm : LP (List Int)) (hm : RD w0 m pm) (page : Int) : Calls Tryz.prog 131 [slv m.length pm.1, I page].toArray w0 (Ret1 NoB w0 (f_pageAt m page : List Int)) := by
 refine Calls.run NoB Tryz.func131 ?_
 intro ac β S
 have hlem : m.length ≤ 4194304 := LRd.le hm
 refine S.gb 16 (.cons (qm (m.length : Int) 1) (.cons (Q_call fun w hw => c_spec_l01In w page 0 ((m.length : Int) - 1)) .nil)) (!(f_within page 0 ((m.length : Int) - 1))) (fun ac w β h1 S => ?_) (fun ac w β h1 S => ?_)
 ·have h2 := not_t h1
  have g3 := within_f h2
  refine S.go 3 .nil fun ac w β S => S.Mk (α := Int) (m := 4) (by' := 8) (d := 11) (by omega) (show 4 ≤ 4194304 by omega) fun ac w N q4 F5 S up o6 d7 => ?_
  clear up d7
  refine S.gr 4 .nil [slv 4 q4.1] fun ac w β S => ?_
  exact ret1_of S (show f_pageAt m page = (List.replicate 4 (GT.dflt : Int)) from k0_spec_PageAt) (by rw [show 4 = (List.replicate 4 (GT.dflt : Int)).length from (by simp)]; rfl) o6
 have h8 := not_f h1
 have g9 := within_t h8
 refine S.go 5 .nil fun ac w β S => S.B0 (α := Int) (d := 12) fun ac w N q10 F11 S up o12 d13 => ?_
 clear up d13
 have b18 : (el m page.toNat).length ≤ 4194304 := LRd.le (LRd.el (S.arg hm) page.toNat (by omega))
 refine S.go 4 (.cons (qt (S.arg hm) page Tryz.underlying24) (.cons (qx (S.arg hm) 26 page.toNat) .nil)) fun ac w β S => S.AF0 (α := Int) o12 (LRd.el (S.arg hm) page.toNat (by omega)) (fun _ _ h => h) (by' := 8) (d := 17) (lx := 0) (ly := (el m page.toNat).length) rfl fun ac w N q14 F15 S up o16 d17 => ?_
 clear up d17
 refine S.gr 4 .nil [slv (el m page.toNat).length q14.1] fun ac w β S => ?_
 exact ret1_of S (show f_pageAt m page = (el m page.toNat) from k0_spec_PageAt) rfl o16

theorem k0_spec_PageOf {p : Prop} (h : p := by clear S; (unfold f_pageOf; (repeat' split) <;> first | rfl | (exfalso; omega) | (exfalso; simp_all; done) | (exfalso; simp_all; omega))) : p := h
theorem c_spec_PageOf (w0 : World) (h : THost) (ph : PHost) (hh : RD w0 h ph) (m : Int) (page : Int) : Calls Tryz.prog 69 [GT.val h ph, I m, I page].toArray w0 (Ret1 NoB w0 (f_pageOf h m page : List Int)) := by
 refine Calls.run NoB Tryz.func69 ?_
 intro ac β S
 have hleh_mem : h.mem.length ≤ 4194304 := LRd.le (RHost.mem (d := h) hh)
 have hleh_mons : h.mons.length ≤ 4194304 := LRd.le (RHost.mons (d := h) hh)
 have hleh_buf : h.buf.length ≤ 4194304 := LRd.le (RHost.buf (d := h) hh)
 have hleh_iobuf : h.iobuf.length ≤ 4194304 := LRd.le (RHost.iobuf (d := h) hh)
 refine S.gb 17 (.cons (qm (h.mons.length : Int) 1) (.cons (Q_call fun w hw => c_spec_l01In w m 0 ((h.mons.length : Int) - 1)) .nil)) (!(f_within m 0 ((h.mons.length : Int) - 1))) (fun ac w β h1 S => ?_) (fun ac w β h1 S => ?_)
 ·have h2 := not_t h1
  have g3 := within_f h2
  refine S.go 9 .nil fun ac w β S => S.Mk (α := Int) (m := 4) (by' := 8) (d := 21) (by omega) (show 4 ≤ 4194304 by omega) fun ac w N q4 F5 S up o6 d7 => ?_
  clear up d7
  refine S.gr 4 .nil [slv 4 q4.1] fun ac w β S => ?_
  exact ret1_of S (show f_pageOf h m page = (List.replicate 4 (GT.dflt : Int)) from k0_spec_PageOf) (by rw [show 4 = (List.replicate 4 (GT.dflt : Int)).length from (by simp)]; rfl) o6
 have h8 := not_f h1
 have g9 := within_t h8
 refine S.gb 6 (.cons (Q_call fun w hw => c_spec_l01In w page 0 7) .nil) (!(f_within page 0 7)) (fun ac w β h10 S => ?_) (fun ac w β h10 S => ?_)
 ·have h11 := not_t h10
  have g12 := within_f h11
  refine S.go 3 .nil fun ac w β S => S.Mk (α := Int) (m := 4) (by' := 8) (d := 21) (by omega) (show 4 ≤ 4194304 by omega) fun ac w N q13 F14 S up o15 d16 => ?_
  clear up d16
  refine S.gr 4 .nil [slv 4 q13.1] fun ac w β S => ?_
  exact ret1_of S (show f_pageOf h m page = (List.replicate 4 (GT.dflt : Int)) from k0_spec_PageOf) (by rw [show 4 = (List.replicate 4 (GT.dflt : Int)).length from (by simp)]; rfl) o15
 have h17 := not_f h10
 have g18 := within_t h17
 refine S.gd 32 (.cons (qt (RHost.mons (d := h) (S.arg hh)) m Tryz.underlying57) (.cons (qs (RHost.mons (d := h) (S.arg hh)) 99 m.toNat) (.cons (Q_call fun w hw => c_spec_SlotAt w (el h.mons m.toNat).outer (ph.mons.2 m.toNat).outer (rd_of (RMon.outer (d := (el h.mons m.toNat)) (LRd.el (RHost.mons (d := h) (S.arg hh)) m.toNat (by omega))) hw) page) .nil))) ((f_slotAt (el h.mons m.toNat).outer page).page != (-1)) (fun ac w β h19 g20 S => ?_) (fun ac w β h19 g20 S => ?_)
 ·refine S.go 7 .nil fun ac w β S => S.K1 (r := f_pageAt h.mem (f_slotAt (el h.mons m.toNat).outer page).page) (d := 38) (c_spec_PageAt w h.mem ph.mem (S.rd (RHost.mem (d := h) (S.arg hh))) (f_slotAt (el h.mons m.toNat).outer page).page) fun ac w N q21 F22 S up o23 d24 => ?_
  clear up d24
  refine S.gr 4 .nil [slv (f_pageAt h.mem (f_slotAt (el h.mons m.toNat).outer page).page).length q21.1] fun ac w β S => ?_
  exact ret1_of S (show f_pageOf h m page = (f_pageAt h.mem (f_slotAt (el h.mons m.toNat).outer page).page) from k0_spec_PageOf) rfl o23
 refine S.go 8 .nil fun ac w β S => S.K1 (r := f_pageAt (el h.mons m.toNat).out page) (d := 42) (c_spec_PageAt w (el h.mons m.toNat).out (ph.mons.2 m.toNat).out (S.rd (RMon.out (d := (el h.mons m.toNat)) (LRd.el (RHost.mons (d := h) (S.arg hh)) m.toNat (by omega)))) page) fun ac w N q25 F26 S up o27 d28 => ?_
 clear up d28
 refine S.gr 4 .nil [slv (f_pageAt (el h.mons m.toNat).out page).length q25.1] fun ac w β S => ?_
 exact ret1_of S (show f_pageOf h m page = (f_pageAt (el h.mons m.toNat).out page) from k0_spec_PageOf) rfl o27

theorem k0_spec_SeenAs {p : Prop} (h : p := by clear S; (first | (unfold f_seenAs; rw [if_neg (monAt_f (by assumption))]; done) | (unfold f_seenAs; rw [if_pos (monAt_t (by assumption)), monAt_1 (monAt_t (by assumption)), hacc, show i = 8 by omega]))) : p := h
theorem c_spec_SeenAs (w0 : World) (h : THost) (ph : PHost) (hh : RD w0 h ph) (m : Int) : Calls Tryz.prog 32 [GT.val h ph, I m].toArray w0 (Ret1 NoB w0 (f_seenAs h m : TBare)) := by
 refine Calls.run NoB Tryz.func32 ?_
 intro ac β S
 have hleh_mem : h.mem.length ≤ 4194304 := LRd.le (RHost.mem (d := h) hh)
 have hleh_mons : h.mons.length ≤ 4194304 := LRd.le (RHost.mons (d := h) hh)
 have hleh_buf : h.buf.length ≤ 4194304 := LRd.le (RHost.buf (d := h) hh)
 have hleh_iobuf : h.iobuf.length ≤ 4194304 := LRd.le (RHost.iobuf (d := h) hh)
 refine S.go 10 .nil fun ac w β S => S.K2 (r := (f_monAt h m).1) (r' := (f_monAt h m).2) (d := 12) (c_spec_MonAt w h ph (S.rd (S.arg hh)) m) fun ac w N q1 q2 F3 F4 S up o5 o6 d7 d8 d9 => ?_
 clear up d7
 clear d8
 have i25 : In64 (f_monAt h m).1.pend := RMon.pend (d := (f_monAt h m).1) o5.rn
 obtain ⟨F10, F13, F16, F19, F22, F27, o11, o14, o17, o20, o23, o28, _, _, _, _, _, _, _, _, _, _, _, _, _, _, _, _, _, _, d43, _, _⟩ := sp_Mon o5
 refine S.gb 15 .nil (!(f_monAt h m).2) (fun ac w β h46 S => ?_) (fun ac w β h46 S => ?_)
 ·have h47 := not_t h46
  refine S.gr 8 (.cons (Q_sem (s := Instr.build 28 [].toArray) (v := .agg [slv ([] : List (List Int)).length (GT.pdflt (α := List (List Int))).1, slv ([] : List TGuest).length (GT.pdflt (α := List TGuest)).1, slv ([] : List Int).length (GT.pdflt (α := List Int)).1, I 0].toArray) (fun w => by kernel_rfl)) .nil) [GT.val (⟨([] : List (List Int)), ([] : List TGuest), ([] : List Int), 0⟩ : TBare) (⟨(GT.pdflt (α := List (List Int))), (GT.pdflt (α := List TGuest)), (GT.pdflt (α := List Int))⟩ : PBare)] fun ac w β S => ?_
  have o48 := S.nilOw (α := List Int)
  have o49 := S.nilOw (α := TGuest)
  have o50 := S.nilOw (α := Int)
  have o51 := ow_Bare (x := (⟨([] : List (List Int)), ([] : List TGuest), ([] : List Int), 0⟩ : TBare)) (p := (⟨(GT.pdflt (α := List (List Int))), (GT.pdflt (α := List TGuest)), (GT.pdflt (α := List Int))⟩ : PBare)) o48 o49 o50 (fun b _ h => False.elim h) (fun b _ h => False.elim h) (fun b _ h => False.elim h) (show In64 0 from ⟨by decide, by decide⟩)
  exact ret1_of S (show f_seenAs h m = (⟨([] : List (List Int)), ([] : List TGuest), ([] : List Int), 0⟩ : TBare) from k0_spec_SeenAs) rfl o51
 have h52 := not_f h46
 refine S.go 23 (.cons (Q_sem (s := Instr.build 28 [(1, slv (f_monAt h m).1.guests.length q1.guests.1), (2, slv (f_monAt h m).1.outs.length q1.outs.1), (3, I (f_monAt h m).1.pend)].toArray) (v := .agg [slv ([] : List (List Int)).length (GT.pdflt (α := List (List Int))).1, slv (f_monAt h m).1.guests.length q1.guests.1, slv (f_monAt h m).1.outs.length q1.outs.1, I (f_monAt h m).1.pend].toArray) (fun w => by kernel_rfl)) .nil) fun ac w β S => ?_
 have o56 := S.nilOw (α := List Int)
 refine lp (fun mm ac w => ∃ (i : Nat) (acc : List (List Int)) (q53 : _) (F54 : _) (u : _) (N : _) (β : _), mm = 8 - i ∧ (i ≤ 8) ∧ (acc = (List.range i).map (fun (j : Nat) => f_pageOf h m (j : Int))) ∧ St Tryz.prog Tryz.f32.ntmps w0 NoB u N β ⟨[(1, .v (I m)), (2, .p 0 0), (4, .p 1 0), (7, .p 3 0), (8, .v (I (i : Int)))], [GT.cells h ph, Zc TBare, [slv (f_monAt h m).1.outer.length q1.outer.1, slv (f_monAt h m).1.out.length q1.out.1, slv (f_monAt h m).1.dirty.length q1.dirty.1, slv (f_monAt h m).1.guests.length q1.guests.1, slv (f_monAt h m).1.outs.length q1.outs.1, I (f_monAt h m).1.pend, I (f_monAt h m).1.traps, slv (f_monAt h m).1.tables.length q1.tables.1, I (f_monAt h m).1.owned], [slv acc.length q53.1, slv (f_monAt h m).1.guests.length q1.guests.1, slv (f_monAt h m).1.outs.length q1.outs.1, I (f_monAt h m).1.pend]]⟩ ac w ∧ Ow w0 NoB u N F54 acc q53 ∧ Ow w0 NoB u N F10 (f_monAt h m).1.outer q1.outer ∧ Ow w0 NoB u N F13 (f_monAt h m).1.out q1.out ∧ Ow w0 NoB u N F16 (f_monAt h m).1.dirty q1.dirty ∧ Ow w0 NoB u N F19 (f_monAt h m).1.guests q1.guests ∧ Ow w0 NoB u N F22 (f_monAt h m).1.outs q1.outs ∧ Ow w0 NoB u N F27 (f_monAt h m).1.tables q1.tables ∧ Disj F54 F10 ∧ Disj F54 F13 ∧ Disj F54 F16 ∧ Disj F54 F19 ∧ Disj F54 F22 ∧ Disj F54 F27) _ ⟨0, ([] : List (List Int)), (GT.pdflt (α := List (List Int))), NoB, _, _, _, rfl, o0, (by rfl), S.z, o56, o11, o14, o17, o20, o23, o28, (Disj.symm (fun b _ h => False.elim h)), (Disj.symm (fun b _ h => False.elim h)), (Disj.symm (fun b _ h => False.elim h)), (Disj.symm (fun b _ h => False.elim h)), (Disj.symm (fun b _ h => False.elim h)), (Disj.symm (fun b _ h => False.elim h))⟩ ?_
 clear S o11 o14 o17 o20 o23 o28 o56 o6
 rintro f63 mm hf64 ac w ⟨i, acc, q53, F54, u, N, β, rfl, hi, hacc, S, o55, o11, o14, o17, o20, o23, o28, d57, d58, d59, d60, d61, d62⟩
 refine S.rs fun S => ?_
 have hlacc : acc.length = i := by rw [hacc]; simp
 refine S.gd 7 .nil (decide ((i : Int) < 8)) (fun ac w β h65 g66 S => ?_) (fun ac w β h65 g66 S => ?_)
 ·refine S.go 5 .nil fun ac w β S => ?_
  refine drw ?_
  refine S.draw0 (f := 10) 7 (by kernel_rfl) (by kernel_rfl) fun w S => ?_
  refine S.hq 0 [1, 0] [] [(29, .p 3 0)] .nil fun ac S => ?_
  refine S.hq 1 [1] [] [(30, .v (slv acc.length q53.1))] .nil fun ac S => ?_
  refine S.hq 2 [5, 2] [] [(31, .v (GT.val h ph))] .nil fun ac S => ?_
  refine S.hq 3 [5, 3] [] [(32, .v (I m))] .nil fun ac S => ?_
  refine S.hq 4 [5, 4] [] [(33, .v (I (i : Int)))] .nil fun ac S => ?_
  refine WD.one (i := 5) (by kernel_rfl) ?_
  refine id (S.k1 34 (c_spec_PageOf w h ph (S.rd (S.arg hh)) m (i : Int)) fun ac w N q67 F68 S up o69 d70 => ?_)
  refine WD.next S up (by kernel_rfl) ?_
  have d71 := Disj.w d70 o55.sub
  have d72 := Disj.w d70 o11.sub
  have d73 := Disj.w d70 o14.sub
  have d74 := Disj.w d70 o17.sub
  have d75 := Disj.w d70 o20.sub
  have d76 := Disj.w d70 o23.sub
  have d77 := Disj.w d70 o28.sub
  replace o55 := o55.up up
  replace o11 := o11.up up
  replace o14 := o14.up up
  replace o17 := o17.up up
  replace o20 := o20.up up
  replace o23 := o23.up up
  replace o28 := o28.up up
  clear up d70
  refine WD.one (i := 6) (by kernel_rfl) ?_
  refine id (S.bs1 (α := List Int) (x := (f_pageOf h m (i : Int))) (p := q67) o69.own o69.sub o69.young (d := 35) (by kernel_rfl) fun ac w N q78 F79 S up o80 d81 => ?_)
  refine WD.next S up (by kernel_rfl) ?_
  have d82 := d81 _ d71 o55.sub
  have d83 := d81 _ d72 o11.sub
  have d84 := d81 _ d73 o14.sub
  have d85 := d81 _ d74 o17.sub
  have d86 := d81 _ d75 o20.sub
  have d87 := d81 _ d76 o23.sub
  have d88 := d81 _ d77 o28.sub
  replace o55 := o55.up up
  replace o11 := o11.up up
  replace o14 := o14.up up
  replace o17 := o17.up up
  replace o20 := o20.up up
  replace o23 := o23.up up
  replace o28 := o28.up up
  clear up d81
  refine WD.one (i := 7) (by kernel_rfl) ?_
  refine id (S.appOwn (α := List Int) o55 o80 d82 (by' := 24) (d := 36) (lx := acc.length) (ly := 1) rfl rfl (by kernel_rfl) (show _ ≤ 4194304 by simp only [List.length_append, List.length_cons, List.length_nil]; omega) fun ac w N q89 F90 S up o91 d92 => ?_)
  refine WD.last (by kernel_rfl) ?_
  have d93 := d92 _ (Disj.symm d57) d83 o11.sub
  have d94 := d92 _ (Disj.symm d58) d84 o14.sub
  have d95 := d92 _ (Disj.symm d59) d85 o17.sub
  have d96 := d92 _ (Disj.symm d60) d86 o20.sub
  have d97 := d92 _ (Disj.symm d61) d87 o23.sub
  have d98 := d92 _ (Disj.symm d62) d88 o28.sub
  replace o11 := o11.upF (Disj.symm d57) up
  replace o14 := o14.upF (Disj.symm d58) up
  replace o17 := o17.upF (Disj.symm d59) up
  replace o20 := o20.upF (Disj.symm d60) up
  replace o23 := o23.upF (Disj.symm d61) up
  replace o28 := o28.upF (Disj.symm d62) up
  clear up d92
  refine S.sl 8 [] [(37, .p 3 0)] 4 [] .nil fun ac w β S => ?_
  refine S.sl 9 [] [] 4 [(3, [slv (acc ++ [(f_pageOf h m (i : Int))]).length q89.1, slv (f_monAt h m).1.guests.length q1.guests.1, slv (f_monAt h m).1.outs.length q1.outs.1, I (f_monAt h m).1.pend])] .nil fun ac w β S => ?_
  refine WD.done (by kernel_rfl) ?_ _
  refine S.ex fun S => ?_
  refine S.ge 7 (.cons (qp (i : Int) 1) .nil) f63 fun ac w β S => hf64.of (8 - (i + 1)) _ _ (by omega) ⟨i + 1, (acc ++ [(f_pageOf h m (i : Int))]), q89, F90, _, _, _, rfl, ?_, ?_, S.z, o91, o11, o14, o17, o20, o23, o28, (Disj.symm d93), (Disj.symm d94), (Disj.symm d95), (Disj.symm d96), (Disj.symm d97), (Disj.symm d98)⟩
  ·exact oz
  ·clear S; (rw [rmap_step, ← hacc])
 refine S.gr 13 .nil [GT.val (⟨acc, (f_monAt h m).1.guests, (f_monAt h m).1.outs, (f_monAt h m).1.pend⟩ : TBare) (⟨q53, q1.guests, q1.outs⟩ : PBare)] fun ac w β S => ?_
 have o99 := ow_Bare (x := (⟨acc, (f_monAt h m).1.guests, (f_monAt h m).1.outs, (f_monAt h m).1.pend⟩ : TBare)) (p := (⟨q53, q1.guests, q1.outs⟩ : PBare)) o55 o20 o23 d60 d61 d43 i25
 exact ret1_of S (show f_seenAs h m = (⟨acc, (f_monAt h m).1.guests, (f_monAt h m).1.outs, (f_monAt h m).1.pend⟩ : TBare) from k0_spec_SeenAs) rfl o99

theorem k0_spec_GuestAt {p : Prop} (h : p := by clear S; (first | (unfold f_guestAt; rw [if_pos (by omega)]; done) | (unfold f_guestAt; rw [if_pos (by omega)]; first | rfl | (simp; done)) | (unfold f_guestAt; rw [if_neg (by omega)]; done) | (unfold f_guestAt; rw [if_neg (by omega)]; first | rfl | (simp; done)))) : p := h
theorem c_spec_GuestAt (w0 : World) (b : TBare) (pb : PBare) (hb : RD w0 b pb) (g : Int) : Calls Tryz.prog 92 [GT.val b pb, I g].toArray w0 (Ret2 NoB w0 ((f_guestAt b g).1 : TGuest) ((f_guestAt b g).2 : Bool)) := by
 refine Calls.run NoB Tryz.func92 ?_
 intro ac β S
 have hleb_mem : b.mem.length ≤ 4194304 := LRd.le (RBare.mem (d := b) hb)
 have hleb_guests : b.guests.length ≤ 4194304 := LRd.le (RBare.guests (d := b) hb)
 have hleb_outs : b.outs.length ≤ 4194304 := LRd.le (RBare.outs (d := b) hb)
 refine S.gb 19 (.cons (qm (b.guests.length : Int) 1) (.cons (Q_call fun w hw => c_spec_l01In w g 0 ((b.guests.length : Int) - 1)) .nil)) (!(f_within g 0 ((b.guests.length : Int) - 1))) (fun ac w β h1 S => ?_) (fun ac w β h1 S => ?_)
 ·have h2 := not_t h1
  have g3 := within_f h2
  refine S.gr 9 (.cons (Q_sem (s := Instr.build 51 [].toArray) (v := .agg [slv ([] : List TIns).length (GT.pdflt (α := List TIns)).1, I 0, I 0, slv ([] : List TSlot).length (GT.pdflt (α := List TSlot)).1, slv ([] : List TSlot).length (GT.pdflt (α := List TSlot)).1, I 0, I 0, B false, I 0, I 0, I 0, B false, I 0, B false, slv ([] : List Int).length (GT.pdflt (α := List Int)).1].toArray) (fun w => by kernel_rfl)) .nil) [GT.val (⟨([] : List TIns), 0, 0, ([] : List TSlot), ([] : List TSlot), (⟨0, 0, false⟩ : TCtl), 0, (⟨0, 0, false, 0⟩ : TExit), false, ([] : List Int)⟩ : TGuest) (⟨(GT.pdflt (α := List TIns)), (GT.pdflt (α := List TSlot)), (GT.pdflt (α := List TSlot)), (GT.pdflt (α := List Int))⟩ : PGuest), B false] fun ac w β S => ?_
  have o4 := S.nilOw (α := TIns)
  have o5 := S.nilOw (α := TSlot)
  have o6 := S.nilOw (α := TSlot)
  have o7 := S.nilOw (α := Int)
  have o8 := ow_Guest (x := (⟨([] : List TIns), 0, 0, ([] : List TSlot), ([] : List TSlot), (⟨0, 0, false⟩ : TCtl), 0, (⟨0, 0, false, 0⟩ : TExit), false, ([] : List Int)⟩ : TGuest)) (p := (⟨(GT.pdflt (α := List TIns)), (GT.pdflt (α := List TSlot)), (GT.pdflt (α := List TSlot)), (GT.pdflt (α := List Int))⟩ : PGuest)) o4 o5 o6 o7 (fun b _ h => False.elim h) (fun b _ h => False.elim h) (fun b _ h => False.elim h) (fun b _ h => False.elim h) (fun b _ h => False.elim h) (fun b _ h => False.elim h) (show In64 0 from ⟨by decide, by decide⟩) (show In64 0 from ⟨by decide, by decide⟩) (show RCtl (⟨0, 0, false⟩ : TCtl) from ⟨(show In64 0 from ⟨by decide, by decide⟩), (show In64 0 from ⟨by decide, by decide⟩)⟩) (show In64 0 from ⟨by decide, by decide⟩) (show RExit (⟨0, 0, false, 0⟩ : TExit) from ⟨(show In64 0 from ⟨by decide, by decide⟩), (show In64 0 from ⟨by decide, by decide⟩), (show In64 0 from ⟨by decide, by decide⟩)⟩)
  exact ret2_of (p' := ()) S (show (f_guestAt b g).1 = (⟨([] : List TIns), 0, 0, ([] : List TSlot), ([] : List TSlot), (⟨0, 0, false⟩ : TCtl), 0, (⟨0, 0, false, 0⟩ : TExit), false, ([] : List Int)⟩ : TGuest) from k0_spec_GuestAt) (show (f_guestAt b g).2 = false from k0_spec_GuestAt) rfl rfl o8 trivial
 have h9 := not_f h1
 have g10 := within_t h9
 refine S.go 10 (.cons (qt (RBare.guests (d := b) (S.arg hb)) g Tryz.underlying25) (.cons (qs (RBare.guests (d := b) (S.arg hb)) 51 g.toNat) .nil)) fun ac w β S => S.K1 (r := (el b.guests g.toNat)) (d := 19) (c_spec_l15Copy w (el b.guests g.toNat) (pb.guests.2 g.toNat) (S.rd (LRd.el (RBare.guests (d := b) (S.arg hb)) g.toNat (by omega)))) fun ac w N q11 F12 S up o13 d14 => ?_
 clear up d14
 refine S.gr 5 .nil [GT.val (el b.guests g.toNat) q11, B true] fun ac w β S => ?_
 exact ret2_of (p' := ()) S (show (f_guestAt b g).1 = (el b.guests g.toNat) from k0_spec_GuestAt) (show (f_guestAt b g).2 = true from k0_spec_GuestAt) rfl rfl o13 trivial

theorem c_spec_SeenOf (w0 : World) (b : TBare) (pb : PBare) (hb : RD w0 b pb) (g : Int) : Calls Tryz.prog 31 [GT.val b pb, I g].toArray w0 (Ret1 NoB w0 (f_seenOf b g : List Int)) := by
 refine Calls.run NoB Tryz.func31 ?_
 intro ac β S
 have hleb_mem : b.mem.length ≤ 4194304 := LRd.le (RBare.mem (d := b) hb)
 have hleb_guests : b.guests.length ≤ 4194304 := LRd.le (RBare.guests (d := b) hb)
 have hleb_outs : b.outs.length ≤ 4194304 := LRd.le (RBare.outs (d := b) hb)
 refine S.go 10 .nil fun ac w β S => S.K2 (r := (f_guestAt b g).1) (r' := (f_guestAt b g).2) (d := 10) (c_spec_GuestAt w b pb (S.rd (S.arg hb)) g) fun ac w N q1 q2 F3 F4 S up o5 o6 d7 d8 d9 => ?_
 clear up d7
 clear d8
 refine S.go 10 .nil fun ac w β S => S.B0 (α := Int) (d := 13) fun ac w N q10 F11 S up o12 d13 => ?_
 replace o5 := o5.up up
 clear up d13
 have b19 : (f_guestAt b g).1.seen.length ≤ 4194304 := LRd.le (RGuest.seen (d := (f_guestAt b g).1) o5.rn)
 refine S.go 2 .nil fun ac w β S => S.AF0 (α := Int) o12 (RGuest.seen (d := (f_guestAt b g).1) o5.rn) (fun _ _ h => h) (by' := 8) (d := 16) (lx := 0) (ly := (f_guestAt b g).1.seen.length) rfl fun ac w N q15 F16 S up o17 d18 => ?_
 clear up d18
 refine S.gr 4 .nil [slv (f_guestAt b g).1.seen.length q15.1] fun ac w β S => ?_
 exact ret1_of S (show f_seenOf b g = (f_guestAt b g).1.seen by clear S; rfl) rfl o17

end Go.Proofs.YtgonaioedbphgaaGreat
namespace Go.Proofs.YtgonaioedbphgaaGreat
open Go
set_option linter.unusedVariables false
set_option linter.unusedSimpArgs false
set_option maxRecDepth 100000
set_option maxHeartbeats 2000000

theorem k0_laws_sameInts {p : Prop} (h : p := by clear S; (first | (rw [ints_len (by omega)]; done) | (rw [ints_ne (k := k) (by omega)]; done) | (rw [ints_end (k := k) (by omega) (by omega) hf]; done))) : p := h
theorem c_laws_sameInts (w0 : World) (p : List Int) (pp : LP Int) (hp : RD w0 p pp) (q : List Int) (pq : LP Int) (hq : RD w0 q pq) : Calls Tryz.prog 30 [slv p.length pp.1, slv q.length pq.1].toArray w0 (fun e w' => e = .returned (B (f_sameInts p q)) ∧ Chg NoB w0 w') := by
 refine Calls.run NoB Tryz.func30 ?_
 intro ac β S
 have hlep : p.length ≤ 4194304 := LRd.le hp
 have hleq : q.length ≤ 4194304 := LRd.le hq
 refine S.gd 15 .nil ((p.length : Int) != (q.length : Int)) (fun ac w β h1 g2 S => ?_) (fun ac w β h1 g2 S => ?_)
 ·exact S.gf 7 .nil [B false] (retB k0_laws_sameInts)
 refine S.go 10 .nil fun ac w β S => ?_
 refine lp (fun mm ac w => ∃ (k : Nat)  (u : _) (N : _) (β : _), mm = p.length - k ∧ (k ≤ p.length) ∧ (p.take k = q.take k) ∧ St Tryz.prog Tryz.f30.ntmps w0 NoB u N β ⟨[(0, .v (slv p.length pp.1)), (1, .v (slv q.length pq.1)), (5, .v (I (k : Int)))], []⟩ ac w) _ ⟨0, _, _, _, rfl, o0, (by rfl), S.z⟩ ?_
 clear S
 rintro f3 mm hf4 ac w ⟨k, u, N, β, rfl, hk, hf, S⟩
 refine S.rs fun S => ?_
 refine S.gd 9 .nil (decide ((k : Int) < (p.length : Int))) (fun ac w β h5 g6 S => ?_) (fun ac w β h5 g6 S => ?_)
 ·refine S.gd 8 (.cons (qn (S.arg hp) k Tryz.underlying26) (.cons (qx (S.arg hp) 3 k) (.cons (qn (S.arg hq) k Tryz.underlying26) (.cons (qx (S.arg hq) 3 k) .nil)))) ((el p k) != (el q k)) (fun ac w β h7 g8 S => ?_) (fun ac w β h7 g8 S => ?_)
  ·exact S.gf 7 .nil [B false] (retB k0_laws_sameInts)
  refine S.ge 9 (.cons (qp (k : Int) 1) .nil) f3 fun ac w β S => hf4.of (p.length - (k + 1)) _ _ (by omega) ⟨k + 1, _, _, _, rfl, ?_, ?_, S.z⟩
  ·exact oz
  ·clear S; (exact ints_step (by omega) (by omega) hf (by omega))
 exact S.gf 12 .nil [B true] (retB k0_laws_sameInts)

theorem k0_laws_FnPosting {p : Prop} (h : p := by clear S; first | rfl | (have hz := posting_ok (by omega) hT1 hT2 hT3 hT4 hT5 hT6; simp_all [f_sameInts]; done)) : p := h
theorem c_laws_FnPosting (w0 : World) (code : List TByte) (pcode : LP TByte) (hcode : GT.rd KR (Lt w0.heap.size) w0 code pcode) : Calls Tryz.prog 5 [slv code.length pcode.1].toArray w0 (fun e w' => e = .returned (B true) ∧ Chg NoB w0 w') := by
 refine Calls.run NoB Tryz.func5 ?_
 intro ac β S
 have hlecode : code.length ≤ 9223372036854775807 := LRd.le hcode
 refine S.gb 12 (.cons (Q_call fun w hw => c_laws_big w code pcode (rd_of (S.arg hcode) hw)) .nil) (decide (((code.length : Nat) : Int) > 1048576)) (fun ac w β h1 S => ?_) (fun ac w β h1 S => ?_)
 ·exact S.gf 7 .nil [B true] (retB k0_laws_FnPosting)
 have hcl : code.length ≤ 1048576 := by have hx := of_decide_eq_false h1; omega
 have hkcode : RD w0 code pcode := cutB hcode hcl
 refine S.go 6 .nil fun ac w β S => S.KE (d := 17) (c_spec_DrawPlaces w code pcode (S.rd (S.arg hkcode)) (by omega)) fun ac w N p2 q3 F4 ⟨h7, h8⟩ S up o5 d6 => ?_
 clear up d6
 have l9 := el_pl h7 h8 0
 have l10 := el_pl8 h7 h8 0
 refine S.go 16 (.cons (qn o5.rn 0 Tryz.underlying26) (.cons (qx o5.rn 3 0) (.cons (Q_rem (x := (el p2 0)) (y := 8) (by decide)) (.cons (Q_sem (s := Instr.build 40 [(0, I 1), (1, I 1)].toArray) (v := .agg [I 1, I 1].toArray) (fun w => by kernel_rfl)) (.cons (Q_sem (s := Instr.build 40 [(0, I 7)].toArray) (v := .agg [I 7, I 0].toArray) (fun w => by kernel_rfl)) .nil))))) fun ac w β S => S.BF ([(⟨1, 1⟩ : TIns), (⟨7, 0⟩ : TIns)] : List TIns) () (d := 24) (List.forall_mem_cons.2 ⟨fun _ => (show RIns (⟨1, 1⟩ : TIns) from ⟨(show In64 1 from ⟨by decide, by decide⟩), (show In64 1 from ⟨by decide, by decide⟩)⟩), List.forall_mem_cons.2 ⟨fun _ => (show RIns (⟨7, 0⟩ : TIns) from ⟨(show In64 7 from ⟨by decide, by decide⟩), (show In64 0 from ⟨by decide, by decide⟩)⟩), List.forall_mem_nil _⟩⟩) (show 2 ≤ 4194304 by decide) fun ac w N q11 F12 S up o13 d14 => ?_
 clear up d14
 refine S.B1 (α := List TIns) (x := ([(⟨1, 1⟩ : TIns), (⟨7, 0⟩ : TIns)] : List TIns)) (p := q11) o13.own o13.sub o13.young (d := 25) fun ac w N q15 F16 S up o17 d18 => ?_
 clear up d18
 refine S.B1 (α := List (List TIns)) (x := [([(⟨1, 1⟩ : TIns), (⟨7, 0⟩ : TIns)] : List TIns)]) (p := q15) o17.own o17.sub o17.young (d := 26) fun ac w N q19 F20 S up o21 d22 => ?_
 clear up d22
 obtain ⟨Y1, hT1⟩ : ∃ z, z = f_hostNew ([[([(⟨1, 1⟩ : TIns), (⟨7, 0⟩ : TIns)] : List TIns)]]) := ⟨_, rfl⟩
 refine S.K1 (r := Y1) (d := 27) (by rw [hT1]; exact c_spec_HostNew w ([[([(⟨1, 1⟩ : TIns), (⟨7, 0⟩ : TIns)] : List TIns)]]) q19 (S.rd o21.rn)) fun ac w N q23 F24 S up o25 d26 => ?_
 clear up d26
 obtain ⟨Y2, hT2⟩ : ∃ z, z = f_hostCtl Y1 0 0 (⟨0, (shl64 1 (Int.tmod (el p2 0) 8)), true⟩ : TCtl) := ⟨_, rfl⟩
 refine S.go 11 (.cons (Q_convu (s := 3) (d := 72) (x := (Int.tmod (el p2 0) 8)) Tryz.underlying3 Tryz.underlying72 (by omega) (by omega)) (.cons (Q_shl (yk := .u64) (x := 1) (y := (Int.tmod (el p2 0) 8)) (by omega)) (.cons (Q_sem (s := Instr.build 47 [(1, I (shl64 1 (Int.tmod (el p2 0) 8))), (2, B true)].toArray) (v := .agg [I 0, I (shl64 1 (Int.tmod (el p2 0) 8)), B true].toArray) (fun w => by kernel_rfl)) .nil))) fun ac w β S => S.K2 (r := Y2.1) (r' := Y2.2) (d := 34) (by rw [hT2]; exact c_impl_HostCtl w Y1 q23 (S.rd o25.rn) 0 0 (show In64 0 from ⟨by decide, by decide⟩) (⟨0, (shl64 1 (Int.tmod (el p2 0) 8)), true⟩ : TCtl) (show RCtl (⟨0, (shl64 1 (Int.tmod (el p2 0) 8)), true⟩ : TCtl) from ⟨(show In64 0 from ⟨by decide, by decide⟩), (shl64_in64 _ _)⟩)) fun ac w N q28 q29 F30 F31 S up o32 o33 d34 d35 d36 => ?_
 clear up d34
 clear d35
 obtain ⟨Y3, hT3⟩ : ∃ z, z = f_hostPost Y2.1 0 (Int.tmod (el p2 0) 8) := ⟨_, rfl⟩
 refine S.go 11 .nil fun ac w β S => S.K2 (r := Y3.1) (r' := Y3.2) (d := 40) (by rw [hT3]; exact c_impl_HostPost w Y2.1 q28 (S.rd o32.rn) 0 (Int.tmod (el p2 0) 8) (tmod_in64 (by decide))) fun ac w N q39 q40 F41 F42 S up o43 o44 d45 d46 d47 => ?_
 clear up d45
 clear d46
 obtain ⟨Y4, hT4⟩ : ∃ z, z = f_hostStep Y3.1 0 0 := ⟨_, rfl⟩
 refine S.go 10 .nil fun ac w β S => S.K2 (r := Y4.1) (r' := Y4.2) (d := 45) (by rw [hT4]; exact c_impl_HostStep w Y3.1 q39 (S.rd o43.rn) 0 0) fun ac w N q50 q51 F52 F53 S up o54 o55 d56 d57 d58 => ?_
 replace o43 := o43.up up
 clear up d56
 clear d57
 obtain ⟨Y5, hT5⟩ : ∃ z, z = f_hostPost Y3.1 0 (Int.tmod ((Int.tmod (el p2 0) 8) + 1) 8) := ⟨_, rfl⟩
 refine S.go 14 (.cons (qp (Int.tmod (el p2 0) 8) 1) (.cons (Q_rem (x := ((Int.tmod (el p2 0) 8) + 1)) (y := 8) (by decide)) .nil)) fun ac w β S => S.K2 (r := Y5.1) (r' := Y5.2) (d := 53) (by rw [hT5]; exact c_impl_HostPost w Y3.1 q39 (S.rd o43.rn) 0 (Int.tmod ((Int.tmod (el p2 0) 8) + 1) 8) (tmod_in64 (by decide))) fun ac w N q61 q62 F63 F64 S up o65 o66 d67 d68 d69 => ?_
 replace o54 := o54.up up
 clear up d67
 clear d68
 obtain ⟨Y6, hT6⟩ : ∃ z, z = f_hostAck Y5.1 0 := ⟨_, rfl⟩
 refine S.go 10 .nil fun ac w β S => S.K3 (r := Y6.1) (r' := Y6.2.1) (r'' := Y6.2.2) (d := 58) (by rw [hT6]; exact c_impl_HostAck w Y5.1 q61 (S.rd o65.rn) 0) fun ac w N q74 F75 S up o76 d77 i78 => ?_
 replace o54 := o54.up up
 clear up d77
 refine S.gb 14 .nil Y2.2 (fun ac w β h81 S => ?_) (fun ac w β h81 S => ?_)
 ·refine S.gb 3 .nil Y3.2 (fun ac w β h82 S => ?_) (fun ac w β h82 S => ?_)
  ·refine S.gb 3 .nil Y5.2 (fun ac w β h83 S => ?_) (fun ac w β h83 S => ?_)
   ·refine S.gb 3 .nil Y6.2.2 (fun ac w β h84 S => ?_) (fun ac w β h84 S => ?_)
    ·refine S.gd 7 (.cons (qp (Int.tmod (el p2 0) 8) 1) (.cons (Q_rem (x := ((Int.tmod (el p2 0) 8) + 1)) (y := 8) (by decide)) .nil)) (Y6.2.1 == (Int.tmod ((Int.tmod (el p2 0) 8) + 1) 8)) (fun ac w β h85 g86 S => ?_) (fun ac w β h85 g86 S => ?_)
     ·refine S.go 1 .nil fun ac w β S => S.K1 (r := f_seenAs Y4.1 0) (d := 81) (c_spec_SeenAs w Y4.1 q50 (S.rd o54.rn) 0) fun ac w N q87 F88 S up o89 d90 => ?_
      clear up d90
      refine S.K1 (r := f_seenOf (f_seenAs Y4.1 0) 0) (d := 82) (c_spec_SeenOf w (f_seenAs Y4.1 0) q87 (S.rd o89.rn) 0) fun ac w N q92 F93 S up o94 d95 => ?_
      clear up d95
      refine S.go 2 (.cons (qp 100 (Int.tmod (el p2 0) 8)) .nil) fun ac w β S => S.B1 (α := Int) (x := (100 + (Int.tmod (el p2 0) 8))) (p := ()) (F := NoB) ⟨by omega, by omega⟩ (fun b h => False.elim h) (fun b h => False.elim h) (d := 85) fun ac w N q97 F98 S up o99 d100 => ?_
      replace o94 := o94.up up
      clear up d100
      exact S.gf 6 (.cons (Q_call fun w hw => c_laws_sameInts w (f_seenOf (f_seenAs Y4.1 0) 0) q92 (rd_of o94.rn hw) ([(100 + (Int.tmod (el p2 0) 8))]) q97 (rd_of o99.rn hw)) .nil) [B (f_sameInts (f_seenOf (f_seenAs Y4.1 0) 0) ([(100 + (Int.tmod (el p2 0) 8))]))] (retB k0_laws_FnPosting)
     exact S.gf 12 .nil [B false] (retB k0_laws_FnPosting)
    exact S.gf 19 .nil [B false] (retB k0_laws_FnPosting)
   exact S.gf 22 .nil [B false] (retB k0_laws_FnPosting)
  exact S.gf 25 .nil [B false] (retB k0_laws_FnPosting)
 exact S.gf 28 .nil [B false] (retB k0_laws_FnPosting)

end Go.Proofs.YtgonaioedbphgaaGreat
