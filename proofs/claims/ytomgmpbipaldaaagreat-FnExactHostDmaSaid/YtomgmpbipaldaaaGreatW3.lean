/- The walks: what each function that the laws reach computes (part 3). -/
import Derived.Test.YtomgmpbipaldaaaGreatW2
import Derived.Test.YtomgmpbipaldaaaGreatProg
import Derived.KernelRfl
namespace Go.Proofs.YtomgmpbipaldaaaGreat
open Go
set_option linter.unusedVariables false
set_option linter.unusedSimpArgs false
set_option maxRecDepth 100000
set_option maxHeartbeats 2000000

theorem k0_impl_InsOk {p : Prop} (h : p := by clear S; first | rfl | (simp [f_insOk, *]; done) | (simp [f_insOk, *]; omega) | (simp_all [f_insOk]; done) | (simp_all [f_insOk]; omega)) : p := h
theorem c_impl_InsOk (w0 : World) (i : TIns) : Calls Tryz.prog 193 [GT.val i ()].toArray w0 (fun e w' => e = .returned (B (f_insOk i)) ∧ Chg NoB w0 w') := by
 refine Calls.run NoB Tryz.func193 ?_
 intro ac β S
 refine S.gd 21 .nil (i.opc == 1) (fun ac w β h1 g2 S => ?_) (fun ac w β h1 g2 S => ?_)
 ·exact S.gf 13 (.cons (Q_call fun w hw => c_impl_within w i.x 0 99) .nil) [B (f_within i.x 0 99)] (retB k0_impl_InsOk)
 refine S.gd 7 .nil (i.opc == 2) (fun ac w β h3 g4 S => ?_) (fun ac w β h3 g4 S => ?_)
 ·exact S.gf 13 (.cons (Q_call fun w hw => c_impl_within w i.x 0 99) .nil) [B (f_within i.x 0 99)] (retB k0_impl_InsOk)
 refine S.gd 7 .nil (i.opc == 5) (fun ac w β h5 g6 S => ?_) (fun ac w β h5 g6 S => ?_)
 ·exact S.gf 13 (.cons (Q_call fun w hw => c_impl_within w i.x 0 99) .nil) [B (f_within i.x 0 99)] (retB k0_impl_InsOk)
 refine S.gd 6 .nil (i.opc == 6) (fun ac w β h7 g8 S => ?_) (fun ac w β h7 g8 S => ?_)
 ·exact S.gf 10 (.cons (Q_call fun w hw => c_impl_within w i.x 0 99) .nil) [B (f_within i.x 0 99)] (retB k0_impl_InsOk)
 refine S.gd 8 .nil (i.opc == 3) (fun ac w β h9 g10 S => ?_) (fun ac w β h9 g10 S => ?_)
 ·exact S.gf 13 (.cons (Q_call fun w hw => c_impl_within w i.x 0 15) .nil) [B (f_within i.x 0 15)] (retB k0_impl_InsOk)
 refine S.gd 6 .nil (i.opc == 4) (fun ac w β h11 g12 S => ?_) (fun ac w β h11 g12 S => ?_)
 ·exact S.gf 10 (.cons (Q_call fun w hw => c_impl_within w i.x 0 15) .nil) [B (f_within i.x 0 15)] (retB k0_impl_InsOk)
 refine S.gd 7 .nil (i.opc == 7) (fun ac w β h13 g14 S => ?_) (fun ac w β h13 g14 S => ?_)
 ·exact S.gf 10 .nil [B (i.x == 0)] (retB k0_impl_InsOk)
 refine S.gd 7 .nil (i.opc == 8) (fun ac w β h15 g16 S => ?_) (fun ac w β h15 g16 S => ?_)
 ·exact S.gf 10 (.cons (Q_call fun w hw => c_impl_within w i.x 0 11) .nil) [B (f_within i.x 0 11)] (retB k0_impl_InsOk)
 exact S.gf 10 .nil [B false] (retB k0_impl_InsOk)

theorem c_impl_ProgOk (w0 : World) (p : List TIns) (pp : LP TIns) (hp : RD w0 p pp) : Calls Tryz.prog 178 [slv p.length pp.1].toArray w0 (fun e w' => e = .returned (B (f_progOk p)) ∧ Chg NoB w0 w') := by
 refine Calls.run NoB Tryz.func178 ?_
 intro ac β S
 have hlep : p.length ≤ 4194304 := LRd.le hp
 refine S.go 14 .nil fun ac w β S => ?_
 refine lp (fun mm ac w => ∃ (k : Nat)  (u : _) (N : _) (β : _), mm = p.length - k ∧ (k ≤ p.length) ∧ ((p.take k).all f_insOk = true) ∧ St Tryz.prog Tryz.f178.ntmps w0 NoB u N β ⟨[(0, .v (slv p.length pp.1)), (5, .v (slv p.length pp.1)), (6, .v (I (p.length : Int))), (7, .v (I (k : Int)))], []⟩ ac w) _ ⟨0, _, _, _, rfl, o0, (by simp), S.z⟩ ?_
 clear S
 rintro f1 mm hf2 ac w ⟨k, u, N, β, rfl, hk, he, S⟩
 refine S.rs fun S => ?_
 refine S.gd 6 .nil (decide ((k : Int) < (p.length : Int))) (fun ac w β h3 g4 S => ?_) (fun ac w β h3 g4 S => ?_)
 ·refine S.gb 20 (.cons (qn (S.arg hp) k Tryz.underlying78) (.cons (qs (S.arg hp) 176 k) (.cons (Q_call fun w hw => c_impl_InsOk w (el p k)) .nil))) (!(f_insOk (el p k))) (fun ac w β h5 S => ?_) (fun ac w β h5 S => ?_)
  ·have h6 := not_t h5
   exact S.gf 7 .nil [B false] (retB (by clear S; (first | (unfold f_progOk; rw [all_bad (k := k) (by omega) (by first | assumption | simp_all)]; simp; done) | (unfold f_progOk; rw [all_end (by omega) he]; simp; done) | (unfold f_progOk; rw [all_end (by omega) he]; simp [*]; done) | (unfold f_progOk; rw [all_end (by omega) he]; simp; omega))))
  have h7 := not_f h5
  refine S.ge 8 (.cons (qp (k : Int) 1) .nil) f1 fun ac w β S => hf2.of (p.length - (k + 1)) _ _ (by omega) ⟨k + 1, _, _, _, rfl, ?_, ?_, S.z⟩
  ·exact oz
  ·clear S; exact all_step (by omega) he (by first | assumption | (simp only [f_slotOk, f_within] at *; simp_all; done) | (simp_all; done) | (simp_all; omega))
 exact S.gf 15 (.cons (Q_call fun w hw => c_impl_within w (p.length : Int) 1 12) .nil) [B (f_within (p.length : Int) 1 12)] (retB (by clear S; (first | (unfold f_progOk; rw [all_end (by omega) he]; simp; done) | (unfold f_progOk; rw [all_end (by omega) he]; simp [*]; done) | (unfold f_progOk; rw [all_end (by omega) he]; simp; omega) | (unfold f_progOk; rw [all_bad (k := k) (by omega) (by first | assumption | simp_all)]; simp; done))))

theorem c_impl_CtlFaults (w0 : World) (c : TCtl) : Calls Tryz.prog 194 [GT.val c ()].toArray w0 (Ret1 NoB w0 (f_ctlFaults c : List Int)) := by
 refine Calls.run NoB Tryz.func194 ?_
 intro ac β S
 refine S.go 8 .nil fun ac w β S => S.B0 (α := Int) (d := 4) fun ac w N q1 F2 S up o3 d4 => ?_
 clear up d4
 refine S.go 12 (.cons (Q_call fun w hw => c_impl_within w c.traps 0 3) .nil) fun ac w β S => ?_
 refine cutC S (fun ac w => ∃ (acc1 : List Int) (q5 : _) (F6 : _) (u : _) (N : _) (β : _), (acc1 = (if f_within c.traps 0 3 then [] else [1])) ∧ St Tryz.prog Tryz.f194.ntmps w0 NoB u N β ⟨[(1, .p 0 0), (3, .v (slv acc1.length q5.1))], [GT.cells c ()]⟩ ac w ∧ Ow w0 NoB u N F6 acc1 q5) ?_ ?_
 ·clear S; intro S
  refine S.gb 0 .nil (!(f_within c.traps 0 3)) (fun ac w β h8 S => ?_) (fun ac w β h8 S => ?_)
  ·have h9 := not_t h8
   have g10 := within_f h9
   refine S.go 3 .nil fun ac w β S => S.B1 (α := Int) (x := 1) (p := ()) (F := NoB) (show In64 1 from ⟨by decide, by decide⟩) (fun b h => False.elim h) (fun b h => False.elim h) (d := 10) fun ac w N q11 F12 S up o13 d14 => ?_
   have d15 := d14 _ (fun b _ h => False.elim h) o3.sub
   replace o3 := o3.up up
   clear up d14
   refine S.AF0 (α := Int) o3 o13.rn (fun _ _ h => h) (by' := 8) (d := 11) (lx := 0) (ly := 1) rfl fun ac w N q16 F17 S up o18 d19 => ?_
   have d20 := d19 _ (Disj.symm d15) o13.sub
   replace o13 := o13.upF (Disj.symm d15) up
   clear up d19
   exact S.gn 2 .nil fun ac w β S => ⟨rfl, ([1]), q16, F17, _, _, _, (by clear S; (first | (rw [if_pos (by assumption)]; simp [*]; done) | (rw [if_neg (by simp [*])]; simp [*]; done) | ((repeat' split) <;> first | rfl | (simp; done) | (exfalso; simp_all; done) | (simp_all; done)))), S.z, o18⟩
  have h21 := not_f h8
  have g22 := within_t h21
  exact S.gn 2 .nil fun ac w β S => ⟨rfl, ([] : List Int), q1, F2, _, _, _, (by clear S; (first | (rw [if_pos (by assumption)]; simp [*]; done) | (rw [if_neg (by simp [*])]; simp [*]; done) | ((repeat' split) <;> first | rfl | (simp; done) | (exfalso; simp_all; done) | (simp_all; done)))), S.z, o3⟩
 clear S o3
 rintro ac w ⟨acc1, q5, F6, u, N, β, ha1, S, o7⟩
 have hl1 : acc1.length ≤ 1 := by rw [ha1]; (repeat' split) <;> simp
 refine S.ex fun S => ?_
 refine S.go 10 (.cons (Q_call fun w hw => c_impl_within w c.post 0 255) .nil) fun ac w β S => ?_
 refine cutC S (fun ac w => ∃ (acc2 : List Int) (q23 : _) (F24 : _) (u : _) (N : _) (β : _), (acc2 = (if f_within c.traps 0 3 then [] else [1]) ++ (if f_within c.post 0 255 then [] else [2])) ∧ St Tryz.prog Tryz.f194.ntmps w0 NoB u N β ⟨[(1, .p 0 0), (3, .v (slv acc2.length q23.1))], [GT.cells c ()]⟩ ac w ∧ Ow w0 NoB u N F24 acc2 q23) ?_ ?_
 ·clear S; intro S
  refine S.gb 0 .nil (!(f_within c.post 0 255)) (fun ac w β h26 S => ?_) (fun ac w β h26 S => ?_)
  ·have h27 := not_t h26
   have g28 := within_f h27
   refine S.go 3 .nil fun ac w β S => S.B1 (α := Int) (x := 2) (p := ()) (F := NoB) (show In64 2 from ⟨by decide, by decide⟩) (fun b h => False.elim h) (fun b h => False.elim h) (d := 17) fun ac w N q29 F30 S up o31 d32 => ?_
   have d33 := d32 _ (fun b _ h => False.elim h) o7.sub
   replace o7 := o7.up up
   clear up d32
   refine S.AF (α := Int) o7 o31.rn (fun _ _ h => h) (by' := 8) (d := 18) (lx := acc1.length) (ly := 1) rfl rfl (show _ ≤ 4194304 by simp only [List.length_append, List.length_cons, List.length_nil]; omega) fun ac w N q34 F35 S up o36 d37 => ?_
   have d38 := d37 _ (Disj.symm d33) o31.sub
   replace o31 := o31.upF (Disj.symm d33) up
   clear up d37
   exact S.gn 2 .nil fun ac w β S => ⟨rfl, (acc1 ++ [2]), q34, F35, _, _, _, (by clear S; (first | (rw [if_pos (by assumption)]; simp [*]; done) | (rw [if_neg (by simp [*])]; simp [*]; done) | (rw [ha1]; (repeat' split) <;> first | rfl | (simp; done) | (exfalso; simp_all; done) | (simp_all; done)))), S.z, o36⟩
  have h39 := not_f h26
  have g40 := within_t h39
  exact S.gn 2 .nil fun ac w β S => ⟨rfl, acc1, q5, F6, _, _, _, (by clear S; (first | (rw [if_pos (by assumption)]; simp [*]; done) | (rw [if_neg (by simp [*])]; simp [*]; done) | (rw [ha1]; (repeat' split) <;> first | rfl | (simp; done) | (exfalso; simp_all; done) | (simp_all; done)))), S.z, o7⟩
 clear S o7
 rintro ac w ⟨acc2, q23, F24, u, N, β, ha2, S, o25⟩
 have hl2 : acc2.length ≤ 2 := by rw [ha2]; (repeat' split) <;> simp
 refine S.ex fun S => ?_
 refine S.gd 8 .nil (c.post != 0) (fun ac w β h41 g42 S => ?_) (fun ac w β h41 g42 S => ?_)
 ·refine S.go 6 .nil fun ac w β S => ?_
  refine cutC S (fun ac w => ∃ (acc3 : List Int) (q43 : _) (F44 : _) (u : _) (N : _) (β : _), (acc3 = (if f_within c.traps 0 3 then [] else [1]) ++ (if f_within c.post 0 255 then [] else [2]) ++ (if c.post ≠ 0 ∧ c.opn = false then [3] else [])) ∧ St Tryz.prog Tryz.f194.ntmps w0 NoB u N β ⟨[(1, .p 0 0), (3, .v (slv acc3.length q43.1))], [GT.cells c ()]⟩ ac w ∧ Ow w0 NoB u N F44 acc3 q43) ?_ ?_
  ·clear S; intro S
   refine S.gb 0 .nil (!c.opn) (fun ac w β h46 S => ?_) (fun ac w β h46 S => ?_)
   ·have h47 := not_t h46
    refine S.go 3 .nil fun ac w β S => S.B1 (α := Int) (x := 3) (p := ()) (F := NoB) (show In64 3 from ⟨by decide, by decide⟩) (fun b h => False.elim h) (fun b h => False.elim h) (d := 28) fun ac w N q48 F49 S up o50 d51 => ?_
    have d52 := d51 _ (fun b _ h => False.elim h) o25.sub
    replace o25 := o25.up up
    clear up d51
    refine S.AF (α := Int) o25 o50.rn (fun _ _ h => h) (by' := 8) (d := 29) (lx := acc2.length) (ly := 1) rfl rfl (show _ ≤ 4194304 by simp only [List.length_append, List.length_cons, List.length_nil]; omega) fun ac w N q53 F54 S up o55 d56 => ?_
    have d57 := d56 _ (Disj.symm d52) o50.sub
    replace o50 := o50.upF (Disj.symm d52) up
    clear up d56
    exact S.gn 2 .nil fun ac w β S => ⟨rfl, (acc2 ++ [3]), q53, F54, _, _, _, (by clear S; (first | (rw [if_pos (by assumption)]; simp [*]; done) | (rw [if_neg (by simp [*])]; simp [*]; done) | (rw [ha2]; (repeat' split) <;> first | rfl | (simp; done) | (exfalso; simp_all; done) | (simp_all; done)))), S.z, o55⟩
   have h58 := not_f h46
   exact S.gn 2 .nil fun ac w β S => ⟨rfl, acc2, q23, F24, _, _, _, (by clear S; (first | (rw [if_pos (by assumption)]; simp [*]; done) | (rw [if_neg (by simp [*])]; simp [*]; done) | (rw [ha2]; (repeat' split) <;> first | rfl | (simp; done) | (exfalso; simp_all; done) | (simp_all; done)))), S.z, o25⟩
  clear S o25
  rintro ac w ⟨acc3, q43, F44, u, N, β, ha3, S, o45⟩
  have hl3 : acc3.length ≤ 3 := by rw [ha3]; (repeat' split) <;> simp
  refine S.ex fun S => ?_
  refine S.gd 8 .nil (c.traps == 2) (fun ac w β h59 g60 S => ?_) (fun ac w β h59 g60 S => ?_)
  ·refine S.go 6 .nil fun ac w β S => ?_
   refine cutC S (fun ac w => ∃ (acc4 : List Int) (q61 : _) (F62 : _) (u : _) (N : _) (β : _), (acc4 = (if f_within c.traps 0 3 then [] else [1]) ++ (if f_within c.post 0 255 then [] else [2]) ++ (if c.post ≠ 0 ∧ c.opn = false then [3] else []) ++ (if c.traps = 2 ∧ c.post ≠ 0 then [4] else [])) ∧ St Tryz.prog Tryz.f194.ntmps w0 NoB u N β ⟨[(3, .v (slv acc4.length q61.1))], []⟩ ac w ∧ Ow w0 NoB u N F62 acc4 q61) ?_ ?_
   ·clear S; intro S
    refine S.lt 37 h41 fun S => ?_
    refine S.go 3 .nil fun ac w β S => S.B1 (α := Int) (x := 4) (p := ()) (F := NoB) (show In64 4 from ⟨by decide, by decide⟩) (fun b h => False.elim h) (fun b h => False.elim h) (d := 39) fun ac w N q64 F65 S up o66 d67 => ?_
    have d68 := d67 _ (fun b _ h => False.elim h) o45.sub
    replace o45 := o45.up up
    clear up d67
    refine S.AF (α := Int) o45 o66.rn (fun _ _ h => h) (by' := 8) (d := 40) (lx := acc3.length) (ly := 1) rfl rfl (show _ ≤ 4194304 by simp only [List.length_append, List.length_cons, List.length_nil]; omega) fun ac w N q69 F70 S up o71 d72 => ?_
    have d73 := d72 _ (Disj.symm d68) o66.sub
    replace o66 := o66.upF (Disj.symm d68) up
    clear up d72
    exact S.gn 2 .nil fun ac w β S => ⟨rfl, (acc3 ++ [4]), q69, F70, _, _, _, (by clear S; (first | (rw [if_pos (by assumption)]; simp [*]; done) | (rw [if_neg (by simp [*])]; simp [*]; done) | (rw [ha3]; (repeat' split) <;> first | rfl | (simp; done) | (exfalso; simp_all; done) | (simp_all; done)))), S.z, o71⟩
   clear S o45
   rintro ac w ⟨acc4, q61, F62, u, N, β, ha4, S, o63⟩
   have hl4 : acc4.length ≤ 4 := by rw [ha4]; (repeat' split) <;> simp
   refine S.ex fun S => ?_
   refine S.gr 8 .nil [slv acc4.length q61.1] fun ac w β S => ?_
   exact ret1_of S (show f_ctlFaults c = acc4 by clear S; (rw [ha4]; rfl)) rfl o63
  refine S.go 6 .nil fun ac w β S => ?_
  refine cutC S (fun ac w => ∃ (acc4 : List Int) (q74 : _) (F75 : _) (u : _) (N : _) (β : _), (acc4 = (if f_within c.traps 0 3 then [] else [1]) ++ (if f_within c.post 0 255 then [] else [2]) ++ (if c.post ≠ 0 ∧ c.opn = false then [3] else []) ++ (if c.traps = 2 ∧ c.post ≠ 0 then [4] else [])) ∧ St Tryz.prog Tryz.f194.ntmps w0 NoB u N β ⟨[(3, .v (slv acc4.length q74.1))], []⟩ ac w ∧ Ow w0 NoB u N F75 acc4 q74) ?_ ?_
  ·clear S; intro S
   exact S.gn 2 .nil fun ac w β S => ⟨rfl, acc3, q43, F44, _, _, _, (by clear S; (first | (rw [if_pos (by assumption)]; simp [*]; done) | (rw [if_neg (by simp [*])]; simp [*]; done) | (rw [ha3]; (repeat' split) <;> first | rfl | (simp; done) | (exfalso; simp_all; done) | (simp_all; done)))), S.z, o45⟩
  clear S o45
  rintro ac w ⟨acc4, q74, F75, u, N, β, ha4, S, o76⟩
  have hl4 : acc4.length ≤ 4 := by rw [ha4]; (repeat' split) <;> simp
  refine S.ex fun S => ?_
  refine S.gr 8 .nil [slv acc4.length q74.1] fun ac w β S => ?_
  exact ret1_of S (show f_ctlFaults c = acc4 by clear S; (rw [ha4]; rfl)) rfl o76
 refine S.go 6 .nil fun ac w β S => ?_
 refine cutC S (fun ac w => ∃ (acc3 : List Int) (q77 : _) (F78 : _) (u : _) (N : _) (β : _), (acc3 = (if f_within c.traps 0 3 then [] else [1]) ++ (if f_within c.post 0 255 then [] else [2]) ++ (if c.post ≠ 0 ∧ c.opn = false then [3] else [])) ∧ St Tryz.prog Tryz.f194.ntmps w0 NoB u N β ⟨[(1, .p 0 0), (3, .v (slv acc3.length q77.1))], [GT.cells c ()]⟩ ac w ∧ Ow w0 NoB u N F78 acc3 q77) ?_ ?_
 ·clear S; intro S
  exact S.gn 2 .nil fun ac w β S => ⟨rfl, acc2, q23, F24, _, _, _, (by clear S; (first | (rw [if_pos (by assumption)]; simp [*]; done) | (rw [if_neg (by simp [*])]; simp [*]; done) | (rw [ha2]; (repeat' split) <;> first | rfl | (simp; done) | (exfalso; simp_all; done) | (simp_all; done)))), S.z, o25⟩
 clear S o25
 rintro ac w ⟨acc3, q77, F78, u, N, β, ha3, S, o79⟩
 have hl3 : acc3.length ≤ 3 := by rw [ha3]; (repeat' split) <;> simp
 refine S.ex fun S => ?_
 refine S.gd 8 .nil (c.traps == 2) (fun ac w β h80 g81 S => ?_) (fun ac w β h80 g81 S => ?_)
 ·refine S.go 6 .nil fun ac w β S => ?_
  refine cutC S (fun ac w => ∃ (acc4 : List Int) (q82 : _) (F83 : _) (u : _) (N : _) (β : _), (acc4 = (if f_within c.traps 0 3 then [] else [1]) ++ (if f_within c.post 0 255 then [] else [2]) ++ (if c.post ≠ 0 ∧ c.opn = false then [3] else []) ++ (if c.traps = 2 ∧ c.post ≠ 0 then [4] else [])) ∧ St Tryz.prog Tryz.f194.ntmps w0 NoB u N β ⟨[(3, .v (slv acc4.length q82.1))], []⟩ ac w ∧ Ow w0 NoB u N F83 acc4 q82) ?_ ?_
  ·clear S; intro S
   refine S.lt 37 h41 fun S => ?_
   exact S.gn 2 .nil fun ac w β S => ⟨rfl, acc3, q77, F78, _, _, _, (by clear S; (first | (rw [if_pos (by assumption)]; simp [*]; done) | (rw [if_neg (by simp [*])]; simp [*]; done) | (rw [ha3]; (repeat' split) <;> first | rfl | (simp; done) | (exfalso; simp_all; done) | (simp_all; done)))), S.z, o79⟩
  clear S o79
  rintro ac w ⟨acc4, q82, F83, u, N, β, ha4, S, o84⟩
  have hl4 : acc4.length ≤ 4 := by rw [ha4]; (repeat' split) <;> simp
  refine S.ex fun S => ?_
  refine S.gr 8 .nil [slv acc4.length q82.1] fun ac w β S => ?_
  exact ret1_of S (show f_ctlFaults c = acc4 by clear S; (rw [ha4]; rfl)) rfl o84
 refine S.go 6 .nil fun ac w β S => ?_
 refine cutC S (fun ac w => ∃ (acc4 : List Int) (q85 : _) (F86 : _) (u : _) (N : _) (β : _), (acc4 = (if f_within c.traps 0 3 then [] else [1]) ++ (if f_within c.post 0 255 then [] else [2]) ++ (if c.post ≠ 0 ∧ c.opn = false then [3] else []) ++ (if c.traps = 2 ∧ c.post ≠ 0 then [4] else [])) ∧ St Tryz.prog Tryz.f194.ntmps w0 NoB u N β ⟨[(3, .v (slv acc4.length q85.1))], []⟩ ac w ∧ Ow w0 NoB u N F86 acc4 q85) ?_ ?_
 ·clear S; intro S
  exact S.gn 2 .nil fun ac w β S => ⟨rfl, acc3, q77, F78, _, _, _, (by clear S; (first | (rw [if_pos (by assumption)]; simp [*]; done) | (rw [if_neg (by simp [*])]; simp [*]; done) | (rw [ha3]; (repeat' split) <;> first | rfl | (simp; done) | (exfalso; simp_all; done) | (simp_all; done)))), S.z, o79⟩
 clear S o79
 rintro ac w ⟨acc4, q85, F86, u, N, β, ha4, S, o87⟩
 have hl4 : acc4.length ≤ 4 := by rw [ha4]; (repeat' split) <;> simp
 refine S.ex fun S => ?_
 refine S.gr 8 .nil [slv acc4.length q85.1] fun ac w β S => ?_
 exact ret1_of S (show f_ctlFaults c = acc4 by clear S; (rw [ha4]; rfl)) rfl o87

theorem c_impl_CtlOk (w0 : World) (c : TCtl) : Calls Tryz.prog 179 [GT.val c ()].toArray w0 (fun e w' => e = .returned (B (f_ctlOk c)) ∧ Chg NoB w0 w') := by
 refine Calls.run NoB Tryz.func179 ?_
 intro ac β S
 refine S.go 9 .nil fun ac w β S => S.K1 (r := f_ctlFaults c) (d := 4) (c_impl_CtlFaults w c) fun ac w N q1 F2 S up o3 d4 => ?_
 clear up d4
 exact S.gf 6 .nil [B (((f_ctlFaults c).length : Int) == 0)] (retB (by clear S; first | rfl | (simp [f_ctlOk, *]; done) | (simp [f_ctlOk, *]; omega) | (simp_all [f_ctlOk]; done) | (simp_all [f_ctlOk]; omega)))

theorem k0_impl_ExitOk {p : Prop} (h : p := by clear S; (unfold f_exitOk; (repeat' split) <;> first | rfl | (exfalso; simp_all; done) | (exfalso; omega) | (rw [Bool.eq_iff_iff]; simp [TExit.ext_iff, *]; done) | (rw [Bool.eq_iff_iff]; simp_all [TExit.ext_iff, and_assoc]; done) | (rw [Bool.eq_iff_iff]; simp_all [TExit.ext_iff, and_assoc]; omega))) : p := h
theorem c_impl_ExitOk (w0 : World) (x : TExit) : Calls Tryz.prog 180 [GT.val x ()].toArray w0 (fun e w' => e = .returned (B (f_exitOk x)) ∧ Chg NoB w0 w') := by
 refine Calls.run NoB Tryz.func180 ?_
 intro ac β S
 refine S.gd 21 .nil (x.kind == 0) (fun ac w β h1 g2 S => ?_) (fun ac w β h1 g2 S => ?_)
 ·refine S.gd 10 .nil (x.page == 0) (fun ac w β h3 g4 S => ?_) (fun ac w β h3 g4 S => ?_)
  ·refine S.gb 5 .nil (!x.wr) (fun ac w β h5 S => ?_) (fun ac w β h5 S => ?_)
   ·have h6 := not_t h5
    exact S.gf 8 .nil [B (x.n == 0)] (retB k0_impl_ExitOk)
   have h7 := not_f h5
   exact S.gf 8 .nil [B false] (retB k0_impl_ExitOk)
  exact S.gf 13 .nil [B false] (retB k0_impl_ExitOk)
 refine S.gd 6 .nil (x.kind == 4) (fun ac w β h8 g9 S => ?_) (fun ac w β h8 g9 S => ?_)
 ·refine S.gd 7 .nil (x.page == 0) (fun ac w β h10 g11 S => ?_) (fun ac w β h10 g11 S => ?_)
  ·refine S.gb 5 .nil (!x.wr) (fun ac w β h12 S => ?_) (fun ac w β h12 S => ?_)
   ·have h13 := not_t h12
    exact S.gf 8 .nil [B (x.n == 0)] (retB k0_impl_ExitOk)
   have h14 := not_f h12
   exact S.gf 8 .nil [B false] (retB k0_impl_ExitOk)
  exact S.gf 13 .nil [B false] (retB k0_impl_ExitOk)
 refine S.gd 7 .nil (x.kind == 1) (fun ac w β h15 g16 S => ?_) (fun ac w β h15 g16 S => ?_)
 ·refine S.gb 7 (.cons (Q_call fun w hw => c_impl_within w x.page 0 3) .nil) (f_within x.page 0 3) (fun ac w β h17 S => ?_) (fun ac w β h17 S => ?_)
  ·have g18 := within_t h17
   exact S.gf 8 .nil [B (x.n == 0)] (retB k0_impl_ExitOk)
  have g19 := within_f h17
  exact S.gf 8 .nil [B false] (retB k0_impl_ExitOk)
 refine S.gd 8 .nil (x.kind == 2) (fun ac w β h20 g21 S => ?_) (fun ac w β h20 g21 S => ?_)
 ·refine S.gb 10 (.cons (Q_call fun w hw => c_impl_within w x.n 0 99) .nil) (f_within x.n 0 99) (fun ac w β h22 S => ?_) (fun ac w β h22 S => ?_)
  ·have g23 := within_t h22
   refine S.gd 5 .nil (x.page == 0) (fun ac w β h24 g25 S => ?_) (fun ac w β h24 g25 S => ?_)
   ·exact S.gf 8 .nil [B (!x.wr)] (retB k0_impl_ExitOk)
   exact S.gf 8 .nil [B false] (retB k0_impl_ExitOk)
  have g26 := within_f h22
  exact S.gf 13 .nil [B false] (retB k0_impl_ExitOk)
 refine S.gd 6 .nil (x.kind == 3) (fun ac w β h27 g28 S => ?_) (fun ac w β h27 g28 S => ?_)
 ·refine S.gb 7 (.cons (Q_call fun w hw => c_impl_within w x.n 0 99) .nil) (f_within x.n 0 99) (fun ac w β h29 S => ?_) (fun ac w β h29 S => ?_)
  ·have g30 := within_t h29
   refine S.gd 5 .nil (x.page == 0) (fun ac w β h31 g32 S => ?_) (fun ac w β h31 g32 S => ?_)
   ·exact S.gf 8 .nil [B (!x.wr)] (retB k0_impl_ExitOk)
   exact S.gf 8 .nil [B false] (retB k0_impl_ExitOk)
  have g33 := within_f h29
  exact S.gf 13 .nil [B false] (retB k0_impl_ExitOk)
 exact S.gf 10 .nil [B false] (retB k0_impl_ExitOk)

theorem k0_impl_GuestOk {p : Prop} (h : p := by clear S; first | rfl | (simp [f_guestOk, *]; done) | (simp [f_guestOk, *]; omega) | (simp_all [f_guestOk]; done) | (simp_all [f_guestOk]; omega)) : p := h
theorem c_impl_GuestOk (w0 : World) (g : TGuest) (pg : PGuest) (hg : RD w0 g pg) : Calls Tryz.prog 153 [GT.val g pg].toArray w0 (fun e w' => e = .returned (B (f_guestOk g)) ∧ Chg NoB w0 w') := by
 refine Calls.run NoB Tryz.func153 ?_
 intro ac β S
 have hleg_prog : g.prog.length ≤ 4194304 := LRd.le (RGuest.prog (d := g) hg)
 have hleg_written : g.written.length ≤ 4194304 := LRd.le (RGuest.written (d := g) hg)
 have hleg_live : g.live.length ≤ 4194304 := LRd.le (RGuest.live (d := g) hg)
 have hleg_seen : g.seen.length ≤ 4194304 := LRd.le (RGuest.seen (d := g) hg)
 refine S.gb 12 (.cons (Q_call fun w hw => c_impl_ProgOk w g.prog pg.prog (rd_of (RGuest.prog (d := g) (S.arg hg)) hw)) .nil) (f_progOk g.prog) (fun ac w β h1 S => ?_) (fun ac w β h1 S => ?_)
 ·refine S.gb 5 (.cons (Q_call fun w hw => c_impl_within w g.acc 0 99) .nil) (f_within g.acc 0 99) (fun ac w β h2 S => ?_) (fun ac w β h2 S => ?_)
  ·have g3 := within_t h2
   refine S.gb 5 (.cons (Q_call fun w hw => c_impl_within w g.pc 0 12) .nil) (f_within g.pc 0 12) (fun ac w β h4 S => ?_) (fun ac w β h4 S => ?_)
   ·have g5 := within_t h4
    refine S.gb 5 (.cons (Q_call fun w hw => c_impl_TableOk w g.written pg.written (rd_of (RGuest.written (d := g) (S.arg hg)) hw) 4 8 (by omega) (by omega)) .nil) (f_tableOk g.written 4 8) (fun ac w β h6 S => ?_) (fun ac w β h6 S => ?_)
    ·have g7 := tableOk_t h6
     refine S.gb 5 (.cons (Q_call fun w hw => c_impl_TableOk w g.live pg.live (rd_of (RGuest.live (d := g) (S.arg hg)) hw) 4 8 (by omega) (by omega)) .nil) (f_tableOk g.live 4 8) (fun ac w β h8 S => ?_) (fun ac w β h8 S => ?_)
     ·have g9 := tableOk_t h8
      refine S.gb 5 (.cons (Q_call fun w hw => c_impl_CtlOk w g.ctl) .nil) (f_ctlOk g.ctl) (fun ac w β h10 S => ?_) (fun ac w β h10 S => ?_)
      ·refine S.gb 5 (.cons (Q_call fun w hw => c_impl_PendOk w g.pend) .nil) (f_within g.pend 0 255) (fun ac w β h11 S => ?_) (fun ac w β h11 S => ?_)
       ·have g12 := within_t h11
        refine S.gb 5 (.cons (Q_call fun w hw => c_impl_ExitOk w g.exit) .nil) (f_exitOk g.exit) (fun ac w β h13 S => ?_) (fun ac w β h13 S => ?_)
        ·exact S.gf 9 .nil [B (decide ((g.seen.length : Int) ≤ 40))] (retB k0_impl_GuestOk)
        exact S.gf 9 .nil [B false] (retB k0_impl_GuestOk)
       have g14 := within_f h11
       exact S.gf 14 .nil [B false] (retB k0_impl_GuestOk)
      exact S.gf 19 .nil [B false] (retB k0_impl_GuestOk)
     exact S.gf 24 .nil [B false] (retB k0_impl_GuestOk)
    exact S.gf 29 .nil [B false] (retB k0_impl_GuestOk)
   have g15 := within_f h4
   exact S.gf 34 .nil [B false] (retB k0_impl_GuestOk)
  have g16 := within_f h2
  exact S.gf 39 .nil [B false] (retB k0_impl_GuestOk)
 exact S.gf 44 .nil [B false] (retB k0_impl_GuestOk)

theorem c_impl_RightsOk (w0 : World) (r : Int) : Calls Tryz.prog 117 [I r].toArray w0 (fun e w' => e = .returned (B (f_within r 0 3)) ∧ Chg NoB w0 w') := by
 refine Calls.run NoB Tryz.func117 ?_
 intro ac β S
 exact S.gf 13 (.cons (Q_call fun w hw => c_impl_within w r 0 3) .nil) [B (f_within r 0 3)] (retB (by clear S; first | rfl | (simp [f_within, *]; done) | (simp [f_within, *]; omega) | (simp_all [f_within]; done) | (simp_all [f_within]; omega)))

theorem k0_impl_Enough {p : Prop} (h : p := by clear S; first | rfl | (simp [f_enough, *]; done) | (simp [f_enough, *]; omega) | (simp_all [f_enough]; done) | (simp_all [f_enough]; omega)) : p := h
theorem c_impl_Enough (w0 : World) (rights : Int) (need : Int) : Calls Tryz.prog 71 [I rights, I need].toArray w0 (fun e w' => e = .returned (B (f_enough rights need)) ∧ Chg NoB w0 w') := by
 refine Calls.run NoB Tryz.func71 ?_
 intro ac β S
 refine S.gb 10 (.cons (Q_call fun w hw => c_impl_RightsOk w rights) .nil) (f_within rights 0 3) (fun ac w β h1 S => ?_) (fun ac w β h1 S => ?_)
 ·have g2 := within_t h1
  refine S.gb 4 (.cons (Q_call fun w hw => c_impl_RightsOk w need) .nil) (f_within need 0 3) (fun ac w β h3 S => ?_) (fun ac w β h3 S => ?_)
  ·have g4 := within_t h3
   exact S.gf 10 (.cons (Q_land64 (x := rights) (y := need)) .nil) [B ((land64 rights need) == need)] (retB k0_impl_Enough)
  have g5 := within_f h3
  exact S.gf 10 .nil [B false] (retB k0_impl_Enough)
 have g6 := within_f h1
 exact S.gf 14 .nil [B false] (retB k0_impl_Enough)

theorem k0_impl_MonOk {p : Prop} (h : p := by clear S; (symm; rw [← Bool.not_eq_true]; intro hc; simp only [f_monOk, f_monHead, f_monTail, Bool.and_eq_true, decide_eq_true_eq, beq_iff_eq] at hc; first | omega | (simp_all; done) | (simp_all; omega) | (have hx := all_el (k := k) hc.1.2 (by omega); simp_all; done) | (have hx := rng_el (k := j) hc.2 (by omega); unfold f_pageSlot at hx; split at hx <;> first | (simp_all; done) | (simp_all; omega)))) : p := h
theorem c_impl_MonOk (w0 : World) (m : TMon) (pm : PMon) (hm : RD w0 m pm) : Calls Tryz.prog 115 [GT.val m pm].toArray w0 (fun e w' => e = .returned (B (f_monOk m)) ∧ Chg NoB w0 w') := by
 refine Calls.run NoB Tryz.func115 ?_
 intro ac β S
 have hlem_outer : m.outer.length ≤ 4194304 := LRd.le (RMon.outer (d := m) hm)
 have hlem_out : m.out.length ≤ 4194304 := LRd.le (RMon.out (d := m) hm)
 have hlem_dirty : m.dirty.length ≤ 4194304 := LRd.le (RMon.dirty (d := m) hm)
 have hlem_guests : m.guests.length ≤ 4194304 := LRd.le (RMon.guests (d := m) hm)
 have hlem_outs : m.outs.length ≤ 4194304 := LRd.le (RMon.outs (d := m) hm)
 have hlem_tables : m.tables.length ≤ 4194304 := LRd.le (RMon.tables (d := m) hm)
 refine S.gb 15 (.cons (Q_call fun w hw => c_impl_within w (m.guests.length : Int) 1 2) .nil) (!(f_within (m.guests.length : Int) 1 2)) (fun ac w β h1 S => ?_) (fun ac w β h1 S => ?_)
 ·have h2 := not_t h1
  have g3 := within_f h2
  exact S.gf 59 .nil [B false] (retB k0_impl_MonOk)
 have h4 := not_f h1
 have g5 := within_t h4
 refine S.gd 9 .nil ((m.tables.length : Int) != (m.guests.length : Int)) (fun ac w β h6 g7 S => ?_) (fun ac w β h6 g7 S => ?_)
 ·exact S.gf 50 .nil [B false] (retB k0_impl_MonOk)
 refine S.gb 6 (.cons (Q_call fun w hw => c_impl_TableOk w m.outer pm.outer (rd_of (RMon.outer (d := m) (S.arg hm)) hw) 8 12 (by omega) (by omega)) .nil) (!(f_tableOk m.outer 8 12)) (fun ac w β h8 S => ?_) (fun ac w β h8 S => ?_)
 ·have h9 := not_t h8
  exact S.gf 44 .nil [B false] (retB k0_impl_MonOk)
 have h10 := not_f h8
 have g11 := tableOk_t h10
 refine S.gd 6 .nil ((m.out.length : Int) != 8) (fun ac w β h12 g13 S => ?_) (fun ac w β h12 g13 S => ?_)
 ·exact S.gf 38 .nil [B false] (retB k0_impl_MonOk)
 refine S.gd 6 .nil ((m.dirty.length : Int) != 8) (fun ac w β h14 g15 S => ?_) (fun ac w β h14 g15 S => ?_)
 ·exact S.gf 32 .nil [B false] (retB k0_impl_MonOk)
 refine S.gd 6 .nil (decide ((m.outs.length : Int) > 40)) (fun ac w β h16 g17 S => ?_) (fun ac w β h16 g17 S => ?_)
 ·exact S.gf 26 .nil [B false] (retB k0_impl_MonOk)
 refine S.gb 6 (.cons (Q_call fun w hw => c_impl_PendOk w m.pend) .nil) (!(f_within m.pend 0 255)) (fun ac w β h18 S => ?_) (fun ac w β h18 S => ?_)
 ·have h19 := not_t h18
  have g20 := within_f h19
  exact S.gf 20 .nil [B false] (retB k0_impl_MonOk)
 have h21 := not_f h18
 have g22 := within_t h21
 refine S.gb 6 (.cons (Q_call fun w hw => c_impl_within w m.traps 0 3) .nil) (!(f_within m.traps 0 3)) (fun ac w β h23 S => ?_) (fun ac w β h23 S => ?_)
 ·have h24 := not_t h23
  have g25 := within_f h24
  exact S.gf 14 .nil [B false] (retB k0_impl_MonOk)
 have h26 := not_f h23
 have g27 := within_t h26
 refine S.gb 7 (.cons (Q_call fun w hw => c_impl_within w m.owned 0 1000000000) .nil) (!(f_within m.owned 0 1000000000)) (fun ac w β h28 S => ?_) (fun ac w β h28 S => ?_)
 ·have h29 := not_t h28
  have g30 := within_f h29
  exact S.gf 7 .nil [B false] (retB k0_impl_MonOk)
 have h31 := not_f h28
 have g32 := within_t h31
 refine S.go 13 .nil fun ac w β S => ?_
 refine lp (fun mm ac w => ∃ (k : Nat)  (u : _) (N : _) (β : _), mm = m.guests.length - k ∧ (k ≤ m.guests.length) ∧ ((m.guests.take k).all f_guestOk = true) ∧ St Tryz.prog Tryz.f115.ntmps w0 NoB u N β ⟨[(1, .p 0 0), (64, .v (slv m.guests.length pm.guests.1)), (65, .v (I (m.guests.length : Int))), (66, .v (I (k : Int)))], [GT.cells m pm]⟩ ac w) _ ⟨0, _, _, _, rfl, o0, (by simp), S.z⟩ ?_
 clear S
 rintro f33 mm hf34 ac w ⟨k, u, N, β, rfl, hk, he, S⟩
 refine S.rs fun S => ?_
 refine S.gd 6 .nil (decide ((k : Int) < (m.guests.length : Int))) (fun ac w β h35 g36 S => ?_) (fun ac w β h35 g36 S => ?_)
 ·refine S.gb 20 (.cons (qn (RMon.guests (d := m) (S.arg hm)) k Tryz.underlying70) (.cons (qs (RMon.guests (d := m) (S.arg hm)) 84 k) (.cons (Q_call fun w hw => c_impl_GuestOk w (el m.guests k) (pm.guests.2 k) (rd_of (LRd.el (RMon.guests (d := m) (S.arg hm)) k (by omega)) hw)) .nil))) (!(f_guestOk (el m.guests k))) (fun ac w β h37 S => ?_) (fun ac w β h37 S => ?_)
  ·have h38 := not_t h37
   exact S.gf 7 .nil [B false] (retB k0_impl_MonOk)
  have h39 := not_f h37
  refine S.ge 8 (.cons (qp (k : Int) 1) .nil) f33 fun ac w β S => hf34.of (m.guests.length - (k + 1)) _ _ (by omega) ⟨k + 1, _, _, _, rfl, ?_, ?_, S.z⟩
  ·exact oz
  ·clear S; exact all_step (by omega) he (by first | assumption | (simp only [f_slotOk, f_within] at *; simp_all; done) | (simp_all; done) | (simp_all; omega))
 refine S.go 16 .nil fun ac w β S => ?_
 refine lp (fun mm ac w => ∃ (j : Nat)  (u : _) (N : _) (β : _), mm = m.outer.length - j ∧ (j ≤ m.outer.length) ∧ ((List.range j).all (f_pageSlot m) = true) ∧ St Tryz.prog Tryz.f115.ntmps w0 NoB u N β ⟨[(1, .p 0 0), (75, .v (slv m.outer.length pm.outer.1)), (76, .v (I (m.outer.length : Int))), (77, .v (I (j : Int)))], [GT.cells m pm]⟩ ac w) _ ⟨0, _, _, _, rfl, o0, (by rfl), S.z⟩ ?_
 clear S
 rintro f40 mm hf41 ac w ⟨j, u, N, β, rfl, hj, hp, S⟩
 refine S.rs fun S => ?_
 have hlo : m.outer.length = 8 := by omega
 have hlu : m.out.length = 8 := by omega
 refine S.gd 6 .nil (decide ((j : Int) < (m.outer.length : Int))) (fun ac w β h42 g43 S => ?_) (fun ac w β h42 g43 S => ?_)
 ·refine S.gb 18 (.cons (qn (RMon.outer (d := m) (S.arg hm)) j Tryz.underlying69) (.cons (qs (RMon.outer (d := m) (S.arg hm)) 92 j) (.cons (Q_call fun w hw => c_impl_NoSlot w ) (.cons (Eq_eq_Slot (t := 92) (el m.outer j) (⟨-1, 0⟩ : TSlot) (by kernel_rfl)) .nil)))) (decide ((el m.outer j) = (⟨-1, 0⟩ : TSlot))) (fun ac w β h44 S => ?_) (fun ac w β h44 S => ?_)
  ·refine S.gb 12 (.cons (qn (RMon.out (d := m) (S.arg hm)) j Tryz.underlying22) (.cons (qx (RMon.out (d := m) (S.arg hm)) 61 j) (.cons (Q_call fun w hw => c_impl_PageOk w (el m.out j) (pm.out.2 j) (rd_of (LRd.el (RMon.out (d := m) (S.arg hm)) j (by omega)) hw)) .nil))) (!(f_pageOk (el m.out j))) (fun ac w β h45 S => ?_) (fun ac w β h45 S => ?_)
   ·have h46 := not_t h45
    exact S.gf 7 .nil [B false] (retB k0_impl_MonOk)
   have h47 := not_f h45
   refine S.ge 8 (.cons (qp (j : Int) 1) .nil) f40 fun ac w β S => hf41.of (m.outer.length - (j + 1)) _ _ (by omega) ⟨j + 1, _, _, _, rfl, ?_, ?_, S.z⟩
   ·exact oz
   ·clear S; (refine rng_step hp ?_; unfold f_pageSlot; (repeat' split) <;> first | (exfalso; simp_all; done) | (simp_all; done) | (simp_all; omega))
  refine S.gb 8 (.cons (Q_call fun w hw => c_impl_Enough w (el m.outer j).rights 1) .nil) (!(f_enough (el m.outer j).rights 1)) (fun ac w β h48 S => ?_) (fun ac w β h48 S => ?_)
  ·have h49 := not_t h48
   exact S.gf 17 .nil [B false] (retB k0_impl_MonOk)
  have h50 := not_f h48
  have g51 := enough_t h50
  have b52 : (el m.out j).length ≤ 4194304 := LRd.le (LRd.el (RMon.out (d := m) (S.arg hm)) j (by omega))
  refine S.gd 10 (.cons (qn (RMon.out (d := m) (S.arg hm)) j Tryz.underlying22) (.cons (qx (RMon.out (d := m) (S.arg hm)) 61 j) .nil)) (decide (((el m.out j).length : Int) > 0)) (fun ac w β h53 g54 S => ?_) (fun ac w β h53 g54 S => ?_)
  ·exact S.gf 7 .nil [B false] (retB k0_impl_MonOk)
  refine S.ge 8 (.cons (qp (j : Int) 1) .nil) f40 fun ac w β S => hf41.of (m.outer.length - (j + 1)) _ _ (by omega) ⟨j + 1, _, _, _, rfl, ?_, ?_, S.z⟩
  ·exact oz
  ·clear S; (refine rng_step hp ?_; unfold f_pageSlot; (repeat' split) <;> first | (exfalso; simp_all; done) | (simp_all; done) | (simp_all; omega))
 exact S.gf 12 .nil [B true] (retB (by clear S; (first | rfl | (symm; simp only [f_monOk, f_monHead, f_monTail, Bool.and_eq_true, decide_eq_true_eq, beq_iff_eq]; (repeat' apply And.intro); all_goals first | assumption | omega | (simp_all; done) | (simp_all; omega) | (exact all_end (by omega) he) | ((have e8 : j = 8 := (by omega)); subst e8; exact hp)))))

theorem k0_impl_HostOk {p : Prop} (h : p := by clear S; (first | (symm; rw [← Bool.not_eq_true]; intro hc; simp only [f_hostOk, f_hostHead, Bool.and_eq_true] at hc; (first | (simp_all; done) | (simp_all; omega))) | (rw [hostOk_dead (fold_dead (k := i) (by omega) stepMon_none hu (stepMon_bad (by assumption)))]) | (rw [hostOk_dead (fold_dead (k := i) (by omega) stepMon_none hu ((stepMon_ok hmok).trans (fold_dead (k := k) (by omega) stepSlot_none hu2 (stepSlot_hit (by omega) (by assumption)))))]) | (unfold f_hostOk f_hostUsed f_hostHead; rw [take_all (by omega)] at hu; rw [hu]; simp_all; done))) : p := h
theorem c_impl_HostOk (w0 : World) (h : THost) (ph : PHost) (hh : RD w0 h ph) : Calls Tryz.prog 66 [GT.val h ph].toArray w0 (fun e w' => e = .returned (B (f_hostOk h)) ∧ Chg NoB w0 w') := by
 refine Calls.run NoB Tryz.func66 ?_
 intro ac β S
 have hleh_mem : h.mem.length ≤ 4194304 := LRd.le (RHost.mem (d := h) hh)
 have hleh_mons : h.mons.length ≤ 4194304 := LRd.le (RHost.mons (d := h) hh)
 have hleh_buf : h.buf.length ≤ 4194304 := LRd.le (RHost.buf (d := h) hh)
 have hleh_iobuf : h.iobuf.length ≤ 4194304 := LRd.le (RHost.iobuf (d := h) hh)
 refine S.gb 14 (.cons (Q_call fun w hw => c_impl_MemOk w h.mem ph.mem (rd_of (RHost.mem (d := h) (S.arg hh)) hw) 12) .nil) (!(f_memOk h.mem 12)) (fun ac w β h1 S => ?_) (fun ac w β h1 S => ?_)
 ·have h2 := not_t h1
  exact S.gf 27 .nil [B false] (retB k0_impl_HostOk)
 have h3 := not_f h1
 refine S.gb 7 (.cons (Q_call fun w hw => c_impl_within w (h.mons.length : Int) 1 3) .nil) (!(f_within (h.mons.length : Int) 1 3)) (fun ac w β h4 S => ?_) (fun ac w β h4 S => ?_)
 ·have h5 := not_t h4
  have g6 := within_f h5
  exact S.gf 20 .nil [B false] (retB k0_impl_HostOk)
 have h7 := not_f h4
 have g8 := within_t h7
 refine S.gb 6 (.cons (Q_call fun w hw => c_impl_BufferOk w h.buf ph.buf (rd_of (RHost.buf (d := h) (S.arg hh)) hw)) .nil) (!(f_bufferOk h.buf)) (fun ac w β h9 S => ?_) (fun ac w β h9 S => ?_)
 ·have h10 := not_t h9
  exact S.gf 14 .nil [B false] (retB k0_impl_HostOk)
 have h11 := not_f h9
 refine S.gb 7 (.cons (Q_call fun w hw => c_impl_BufferOk w h.iobuf ph.iobuf (rd_of (RHost.iobuf (d := h) (S.arg hh)) hw)) .nil) (!(f_bufferOk h.iobuf)) (fun ac w β h12 S => ?_) (fun ac w β h12 S => ?_)
 ·have h13 := not_t h12
  exact S.gf 7 .nil [B false] (retB k0_impl_HostOk)
 have h14 := not_f h12
 refine S.go 5 .nil fun ac w β S => S.Mk (α := Bool) (m := 12) (by' := 1) (d := 31) (by omega) (show 12 ≤ 4194304 by omega) fun ac w N q15 F16 S up o17 d18 => ?_
 clear up d18
 refine S.go 13 .nil fun ac w β S => ?_
 refine lp (fun mm ac w => ∃ (i : Nat) (us : List Bool) (q19 : _) (F20 : _) (u : _) (N : _) (β : _), mm = h.mons.length - i ∧ (i ≤ h.mons.length) ∧ ((h.mons.take i).foldl stepMon (some (List.replicate 12 false)) = some us) ∧ (us.length = 12) ∧ St Tryz.prog Tryz.f66.ntmps w0 NoB u N β ⟨[(3, .v (slv 12 q19.1)), (33, .v (slv h.mons.length ph.mons.1)), (34, .v (I (h.mons.length : Int))), (35, .v (I (i : Int)))], [GT.cells h ph]⟩ ac w ∧ Ow w0 NoB u N F20 us q19) _ ⟨0, (List.replicate 12 (GT.dflt : Bool)), q15, F16, _, _, _, rfl, o0, (by rfl), (by rfl), S.z, o17⟩ ?_
 clear S o17
 rintro f22 mm hf23 ac w ⟨i, us, q19, F20, u, N, β, rfl, hi, hu, hul, S, o21⟩
 refine S.rs fun S => ?_
 refine S.gd 6 .nil (decide ((i : Int) < (h.mons.length : Int))) (fun ac w β h24 g25 S => ?_) (fun ac w β h24 g25 S => ?_)
 ·refine S.gb 21 (.cons (qn (RHost.mons (d := h) (S.arg hh)) i Tryz.underlying28) (.cons (qs (RHost.mons (d := h) (S.arg hh)) 73 i) (.cons (Q_call fun w hw => c_impl_MonOk w (el h.mons i) (ph.mons.2 i) (rd_of (LRd.el (RHost.mons (d := h) (S.arg hh)) i (by omega)) hw)) .nil))) (!(f_monOk (el h.mons i))) (fun ac w β h26 S => ?_) (fun ac w β h26 S => ?_)
  ·have h27 := not_t h26
   exact S.gf 7 .nil [B false] (retB k0_impl_HostOk)
  have h28 := not_f h26
  have g29 := monOk_t h28
  have b30 : (el h.mons i).outer.length ≤ 4194304 := LRd.le (RMon.outer (d := (el h.mons i)) (LRd.el (RHost.mons (d := h) (S.arg hh)) i (by omega)))
  refine S.go 12 .nil fun ac w β S => ?_
  refine lp (fun mm ac w => ∃ (k : Nat) (us2 : List Bool) (q31 : _) (F32 : _) (u : _) (N : _) (β : _), mm = (el h.mons i).outer.length - k ∧ (k ≤ (el h.mons i).outer.length) ∧ (((el h.mons i).outer.take k).foldl stepSlot (some us) = some us2) ∧ (us2.length = 12) ∧ St Tryz.prog Tryz.f66.ntmps w0 NoB u N β ⟨[(3, .v (slv 12 q31.1)), (33, .v (slv h.mons.length ph.mons.1)), (34, .v (I (h.mons.length : Int))), (35, .v (I (i : Int))), (43, .v (slv (el h.mons i).outer.length (ph.mons.2 i).outer.1)), (44, .v (I ((el h.mons i).outer.length : Int))), (45, .v (I (k : Int)))], [GT.cells h ph, GT.cells (el h.mons i) (ph.mons.2 i)]⟩ ac w ∧ Ow w0 NoB u N F32 us2 q31) _ ⟨0, us, q19, F20, _, _, _, rfl, o0, (by rfl), (by omega), S.z, o21⟩ ?_
  clear S o21
  rintro f34 mm hf35 ac w ⟨k, us2, q31, F32, u, N, β, rfl, hk, hu2, hul2, S, o33⟩
  refine S.rs fun S => ?_
  have hmok : f_monOk (el h.mons i) = true := by assumption
  have hpg := page_lt hmok k
  have hol := (monOk_t hmok).1
  refine S.gd 6 .nil (decide ((k : Int) < ((el h.mons i).outer.length : Int))) (fun ac w β h36 g37 S => ?_) (fun ac w β h36 g37 S => ?_)
  ·refine S.gd 21 (.cons (qn (RMon.outer (d := (el h.mons i)) (LRd.el (RHost.mons (d := h) (S.arg hh)) i (by omega))) k Tryz.underlying69) (.cons (qs (RMon.outer (d := (el h.mons i)) (LRd.el (RHost.mons (d := h) (S.arg hh)) i (by omega))) 92 k) .nil)) (decide ((el (el h.mons i).outer k).page < 0)) (fun ac w β h38 g39 S => ?_) (fun ac w β h38 g39 S => ?_)
   ·refine S.ge 9 (.cons (qp (k : Int) 1) .nil) f34 fun ac w β S => hf35.of ((el h.mons i).outer.length - (k + 1)) _ _ (by omega) ⟨k + 1, us2, q31, F32, _, _, _, rfl, ?_, ?_, ?_, S.z, o33⟩
    ·exact oz
    ·clear S; (rw [fold_step (by omega), hu2]; first | exact stepSlot_neg (by omega) | exact stepSlot_new (by omega) (by assumption) | exact stepSlot_new (by omega) (by simp_all))
    ·clear S; (first | omega | (simp; omega))
   refine S.gb 13 (.cons (Q_idx o33.rn (l := 12) (k := (el (el h.mons i).outer k).page.toNat) (i := (el (el h.mons i).outer k).page) (by omega) (by omega) (by omega) Tryz.underlying64 (by kernel_rfl)) (.cons (qx o33.rn 4 ((el (el h.mons i).outer k).page.toNat)) .nil)) (el us2 (el (el h.mons i).outer k).page.toNat) (fun ac w β h40 S => ?_) (fun ac w β h40 S => ?_)
   ·exact S.gf 7 .nil [B false] (retB k0_impl_HostOk)
   refine S.go 8 (.cons (Q_idx o33.rn (l := 12) (k := (el (el h.mons i).outer k).page.toNat) (i := (el (el h.mons i).outer k).page) (by omega) (by omega) (by omega) Tryz.underlying64 (by kernel_rfl)) .nil) fun ac w β S => S.SF (α := Bool) o33 (t := 4) (k := (el (el h.mons i).outer k).page.toNat) (j := 0) (off := q31.1.off + (el (el h.mons i).outer k).page.toNat * 1) (v := B true) (y := true) (q := ()) (fun _ _ _ => ⟨NoB, trivial, fun _ h => False.elim h⟩) fun w N F42 q43 S up o41 d44 s45 n46 => ?_
   clear up d44 o33 n46
   have l47 : (us2.set (el (el h.mons i).outer k).page.toNat true).length = us2.length := List.length_set
   refine S.ge 7 (.cons (qp (k : Int) 1) .nil) f34 fun ac w β S => hf35.of ((el h.mons i).outer.length - (k + 1)) _ _ (by omega) ⟨k + 1, (us2.set (el (el h.mons i).outer k).page.toNat true), (q31.1, q43), F42, _, _, _, rfl, ?_, ?_, ?_, S.z, o41⟩
   ·exact oz
   ·clear S; (rw [fold_step (by omega), hu2]; first | exact stepSlot_neg (by omega) | exact stepSlot_new (by omega) (by assumption) | exact stepSlot_new (by omega) (by simp_all))
   ·clear S; (first | omega | (simp; omega))
  refine S.ge 11 (.cons (qp (i : Int) 1) .nil) f22 fun ac w β S => hf23.of (h.mons.length - (i + 1)) _ _ (by omega) ⟨i + 1, us2, q31, F32, _, _, _, rfl, ?_, ?_, ?_, S.z, o33⟩
  ·exact oz
  ·clear S; (rw [fold_step (by omega), hu, stepMon_ok (by assumption)]; rw [take_all (by omega)] at hu2; exact hu2)
  ·clear S; omega
 exact S.gf 12 .nil [B true] (retB k0_impl_HostOk)

theorem k0_impl_SlotAt {p : Prop} (h : p := by clear S; (first | (unfold f_slotAt; rw [if_pos (by omega)]) | (unfold f_slotAt; rw [if_neg (by omega)]))) : p := h
theorem c_impl_SlotAt (w0 : World) (t : List TSlot) (pt : LP TSlot) (ht : RD w0 t pt) (page : Int) : Calls Tryz.prog 116 [slv t.length pt.1, I page].toArray w0 (fun e w' => e = .returned (GT.val (f_slotAt t page) ()) ∧ Chg NoB w0 w') := by
 refine Calls.run NoB Tryz.func116 ?_
 intro ac β S
 have hlet : t.length ≤ 4194304 := LRd.le ht
 refine S.gb 15 (.cons (Q_call fun w hw => c_impl_has w page (t.length : Int) (by omega)) .nil) (!(f_within page 0 ((t.length : Int) - 1))) (fun ac w β h1 S => ?_) (fun ac w β h1 S => ?_)
 ·have h2 := not_t h1
  have g3 := within_f h2
  exact S.gf 8 (.cons (Q_call fun w hw => c_impl_NoSlot w ) .nil) [GT.val (⟨-1, 0⟩ : TSlot) ()] (retV (p := ()) k0_impl_SlotAt)
 have h4 := not_f h1
 have g5 := within_t h4
 exact S.gf 13 (.cons (qt (S.arg ht) page Tryz.underlying69) (.cons (qs (S.arg ht) 92 page.toNat) .nil)) [GT.val (el t page.toNat) ()] (retV (p := ()) k0_impl_SlotAt)

theorem k0_impl_WalkInner {p : Prop} (h : p := by clear S; (unfold f_walkInner; (repeat' split) <;> first | rfl | (exfalso; omega) | (exfalso; simp_all; done) | (exfalso; simp_all; omega))) : p := h
theorem c_impl_WalkInner (w0 : World) (inner : List TSlot) (pinner : LP TSlot) (hinner : RD w0 inner pinner) (page : Int) (need : Int) : Calls Tryz.prog 68 [slv inner.length pinner.1, I page, I need].toArray w0 (fun e w' => e = .returned (.tuple #[I (f_walkInner inner page need).1, B (f_walkInner inner page need).2]) ∧ Chg NoB w0 w') := by
 refine Calls.run NoB Tryz.func68 ?_
 intro ac β S
 have hleinner : inner.length ≤ 4194304 := LRd.le hinner
 refine S.gd 22 (.cons (Q_call fun w hw => c_impl_SlotAt w inner pinner (rd_of (S.arg hinner) hw) page) .nil) ((f_slotAt inner page).page == (-1)) (fun ac w β h1 g2 S => ?_) (fun ac w β h1 g2 S => ?_)
 ·exact S.gf 21 .nil [I (-1), B false] (ret2v (eqI (show (-1) = (f_walkInner inner page need).1 from k0_impl_WalkInner)) (eqB (show false = (f_walkInner inner page need).2 from k0_impl_WalkInner)))
 refine S.gb 7 (.cons (Q_call fun w hw => c_impl_Enough w (f_slotAt inner page).rights need) .nil) (!(f_enough (f_slotAt inner page).rights need)) (fun ac w β h3 S => ?_) (fun ac w β h3 S => ?_)
 ·have h4 := not_t h3
  exact S.gf 14 .nil [I (-1), B false] (ret2v (eqI (show (-1) = (f_walkInner inner page need).1 from k0_impl_WalkInner)) (eqB (show false = (f_walkInner inner page need).2 from k0_impl_WalkInner)))
 have h5 := not_f h3
 have g6 := enough_t h5
 refine S.gb 6 (.cons (Q_call fun w hw => c_impl_within w need 1 3) .nil) (!(f_within need 1 3)) (fun ac w β h7 S => ?_) (fun ac w β h7 S => ?_)
 ·have h8 := not_t h7
  have g9 := within_f h8
  exact S.gf 8 .nil [I (-1), B false] (ret2v (eqI (show (-1) = (f_walkInner inner page need).1 from k0_impl_WalkInner)) (eqB (show false = (f_walkInner inner page need).2 from k0_impl_WalkInner)))
 have h10 := not_f h7
 have g11 := within_t h10
 exact S.gf 12 .nil [I (f_slotAt inner page).page, B true] (ret2v (eqI (show (f_slotAt inner page).page = (f_walkInner inner page need).1 from k0_impl_WalkInner)) (eqB (show true = (f_walkInner inner page need).2 from k0_impl_WalkInner)))

theorem k0_impl_TagOf {p : Prop} (h : p := by clear S; (first | (unfold f_tagOf; rw [if_pos (by omega)]; done) | (unfold f_tagOf; rw [if_pos (by omega)]; first | rfl | (simp; done)) | (unfold f_tagOf; rw [if_neg (by omega)]; done) | (unfold f_tagOf; rw [if_neg (by omega)]; first | rfl | (simp; done)))) : p := h
theorem c_impl_TagOf (w0 : World) (m : Int) (g : Int) : Calls Tryz.prog 69 [I m, I g].toArray w0 (fun e w' => e = .returned (I (f_tagOf m g)) ∧ Chg NoB w0 w') := by
 refine Calls.run NoB Tryz.func69 ?_
 intro ac β S
 refine S.gb 12 (.cons (Q_call fun w hw => c_impl_has w m 3 (by omega)) .nil) (!(f_within m 0 (3 - 1))) (fun ac w β h1 S => ?_) (fun ac w β h1 S => ?_)
 ·have h2 := not_t h1
  have g3 := within_f h2
  exact S.gf 13 .nil [I 0] (retI k0_impl_TagOf)
 have h4 := not_f h1
 have g5 := within_t h4
 refine S.gb 6 (.cons (Q_call fun w hw => c_impl_has w g 2 (by omega)) .nil) (!(f_within g 0 (2 - 1))) (fun ac w β h6 S => ?_) (fun ac w β h6 S => ?_)
 ·have h7 := not_t h6
  have g8 := within_f h7
  exact S.gf 7 .nil [I 0] (retI k0_impl_TagOf)
 have h9 := not_f h6
 have g10 := within_t h9
 exact S.gf 14 (.cons (qp 1 g) (.cons (Q_mul (x := m) (y := 2) ⟨by omega, by omega⟩) (.cons (qp (1 + g) (m * 2)) .nil))) [I ((1 + g) + (m * 2))] (retI k0_impl_TagOf)

theorem k0_impl_FindEntry {p : Prop} (h : p := by clear S; (first | (rw [find_end (by omega) hf]; done) | (rw [find_hit (k := k) (by omega) hf (samePg_t (by assumption) (by assumption))]; done))) : p := h
theorem c_impl_FindEntry (w0 : World) (b : List TEntry) (pb : LP TEntry) (hb : RD w0 b pb) (tag : Int) (page : Int) : Calls Tryz.prog 70 [slv b.length pb.1, I tag, I page].toArray w0 (fun e w' => e = .returned (.tuple #[GT.val (f_findEntry b tag page).1 (), B (f_findEntry b tag page).2]) ∧ Chg NoB w0 w') := by
 refine Calls.run NoB Tryz.func70 ?_
 intro ac β S
 have hleb : b.length ≤ 4194304 := LRd.le hb
 refine S.go 15 .nil fun ac w β S => ?_
 refine lp (fun mm ac w => ∃ (k : Nat)  (u : _) (N : _) (β : _), mm = b.length - k ∧ (k ≤ b.length) ∧ ((b.take k).find? (fun e => f_samePg e tag page) = none) ∧ St Tryz.prog Tryz.f70.ntmps w0 NoB u N β ⟨[(1, .v (I tag)), (2, .v (I page)), (6, .p 0 0), (10, .v (slv b.length pb.1)), (11, .v (I (b.length : Int))), (12, .v (I (k : Int)))], [Zc TEntry]⟩ ac w) _ ⟨0, _, _, _, rfl, o0, (by rfl), S.z⟩ ?_
 clear S
 rintro f1 mm hf2 ac w ⟨k, u, N, β, rfl, hk, hf, S⟩
 refine S.rs fun S => ?_
 refine S.gd 6 .nil (decide ((k : Int) < (b.length : Int))) (fun ac w β h3 g4 S => ?_) (fun ac w β h3 g4 S => ?_)
 ·refine S.gd 20 (.cons (qn (S.arg hb) k Tryz.underlying29) (.cons (qs (S.arg hb) 87 k) .nil)) ((el b k).tag == tag) (fun ac w β h5 g6 S => ?_) (fun ac w β h5 g6 S => ?_)
  ·refine S.gd 7 .nil ((el b k).page == page) (fun ac w β h7 g8 S => ?_) (fun ac w β h7 g8 S => ?_)
   ·exact S.gf 9 .nil [GT.val (el b k) (), B true] (ret2v (congrArg (fun z => GT.val z ()) (show (el b k) = (f_findEntry b tag page).1 from k0_impl_FindEntry)) (eqB (show true = (f_findEntry b tag page).2 from k0_impl_FindEntry)))
   refine S.ge 8 (.cons (qp (k : Int) 1) .nil) f1 fun ac w β S => hf2.of (b.length - (k + 1)) _ _ (by omega) ⟨k + 1, _, _, _, rfl, ?_, ?_, S.z⟩
   ·exact oz
   ·clear S; (first | exact find_step (by omega) hf (samePg_f1 (by assumption)) | exact find_step (by omega) hf (samePg_f2 (by assumption)))
  refine S.ge 15 (.cons (qp (k : Int) 1) .nil) f1 fun ac w β S => hf2.of (b.length - (k + 1)) _ _ (by omega) ⟨k + 1, _, _, _, rfl, ?_, ?_, S.z⟩
  ·exact oz
  ·clear S; (first | exact find_step (by omega) hf (samePg_f1 (by assumption)) | exact find_step (by omega) hf (samePg_f2 (by assumption)))
 exact S.gf 14 (.cons (Q_sem (s := Instr.build 87 [].toArray) (v := .agg [I 0, I 0, I 0, I 0].toArray) (fun w => by kernel_rfl)) .nil) [GT.val (⟨0, 0, 0, 0⟩ : TEntry) (), B false] (ret2v (congrArg (fun z => GT.val z ()) (show (⟨0, 0, 0, 0⟩ : TEntry) = (f_findEntry b tag page).1 from k0_impl_FindEntry)) (eqB (show false = (f_findEntry b tag page).2 from k0_impl_FindEntry)))

theorem k0_impl_Ask {p : Prop} (h : p := by clear S; (unfold f_ask; (repeat' split) <;> first | rfl | (exfalso; omega) | (exfalso; simp_all; done) | (exfalso; simp_all; omega) | (simp_all; done))) : p := h
theorem c_impl_Ask (w0 : World) (k : TKept) (pk : PKept) (hk : RD w0 k pk) (page : Int) : Calls Tryz.prog 72 [GT.val k pk, I page].toArray w0 (fun e w' => e = .returned (.tuple #[GT.val (f_ask k page).1 (), B (f_ask k page).2]) ∧ Chg NoB w0 w') := by
 refine Calls.run NoB Tryz.func72 ?_
 intro ac β S
 have hlek_known : k.known.length ≤ 4194304 := LRd.le (RKept.known (d := k) hk)
 have hlek_slots : k.slots.length ≤ 4194304 := LRd.le (RKept.slots (d := k) hk)
 refine S.gb 17 (.cons (Q_call fun w hw => c_impl_has w page (k.known.length : Int) (by omega)) .nil) (!(f_within page 0 ((k.known.length : Int) - 1))) (fun ac w β h1 S => ?_) (fun ac w β h1 S => ?_)
 ·have h2 := not_t h1
  have g3 := within_f h2
  exact S.gf 26 (.cons (Q_call fun w hw => c_impl_NoSlot w ) .nil) [GT.val (⟨-1, 0⟩ : TSlot) (), B false] (ret2v (congrArg (fun z => GT.val z ()) (show (⟨-1, 0⟩ : TSlot) = (f_ask k page).1 from k0_impl_Ask)) (eqB (show false = (f_ask k page).2 from k0_impl_Ask)))
 have h4 := not_f h1
 have g5 := within_t h4
 refine S.gb 8 (.cons (Q_call fun w hw => c_impl_has w page (k.slots.length : Int) (by omega)) .nil) (!(f_within page 0 ((k.slots.length : Int) - 1))) (fun ac w β h6 S => ?_) (fun ac w β h6 S => ?_)
 ·have h7 := not_t h6
  have g8 := within_f h7
  exact S.gf 18 (.cons (Q_call fun w hw => c_impl_NoSlot w ) .nil) [GT.val (⟨-1, 0⟩ : TSlot) (), B false] (ret2v (congrArg (fun z => GT.val z ()) (show (⟨-1, 0⟩ : TSlot) = (f_ask k page).1 from k0_impl_Ask)) (eqB (show false = (f_ask k page).2 from k0_impl_Ask)))
 have h9 := not_f h6
 have g10 := within_t h9
 refine S.gb 9 (.cons (qt (RKept.known (d := k) (S.arg hk)) page Tryz.underlying64) (.cons (qx (RKept.known (d := k) (S.arg hk)) 4 page.toNat) .nil)) (!(el k.known page.toNat)) (fun ac w β h11 S => ?_) (fun ac w β h11 S => ?_)
 ·have h12 := not_t h11
  exact S.gf 9 (.cons (Q_call fun w hw => c_impl_NoSlot w ) .nil) [GT.val (⟨-1, 0⟩ : TSlot) (), B false] (ret2v (congrArg (fun z => GT.val z ()) (show (⟨-1, 0⟩ : TSlot) = (f_ask k page).1 from k0_impl_Ask)) (eqB (show false = (f_ask k page).2 from k0_impl_Ask)))
 have h13 := not_f h11
 exact S.gf 15 (.cons (qt (RKept.slots (d := k) (S.arg hk)) page Tryz.underlying69) (.cons (qs (RKept.slots (d := k) (S.arg hk)) 92 page.toNat) .nil)) [GT.val (el k.slots page.toNat) (), B true] (ret2v (congrArg (fun z => GT.val z ()) (show (el k.slots page.toNat) = (f_ask k page).1 from k0_impl_Ask)) (eqB (show true = (f_ask k page).2 from k0_impl_Ask)))

theorem k0_impl_OwnerOfPage {p : Prop} (h : p := by clear S; (first | rw [ownerOfPage_neg (by omega)] | rw [ownerOfPage_end (he.trans (own0_end (by omega)))] | rw [ownerOfPage_pos (by omega), he, own0_hit (by omega) (he2.trans (own1_hit (by omega) (by assumption)))])) : p := h
theorem c_impl_OwnerOfPage (w0 : World) (h : THost) (ph : PHost) (hh : RD w0 h ph) (page : Int) : Calls Tryz.prog 181 [GT.val h ph, I page].toArray w0 (fun e w' => e = .returned (.tuple #[I (f_ownerOfPage h page).1, I (f_ownerOfPage h page).2]) ∧ Chg NoB w0 w') := by
 refine Calls.run NoB Tryz.func181 ?_
 intro ac β S
 have hleh_mem : h.mem.length ≤ 4194304 := LRd.le (RHost.mem (d := h) hh)
 have hleh_mons : h.mons.length ≤ 4194304 := LRd.le (RHost.mons (d := h) hh)
 have hleh_buf : h.buf.length ≤ 4194304 := LRd.le (RHost.buf (d := h) hh)
 have hleh_iobuf : h.iobuf.length ≤ 4194304 := LRd.le (RHost.iobuf (d := h) hh)
 refine S.gd 14 .nil (decide (page < 0)) (fun ac w β h1 g2 S => ?_) (fun ac w β h1 g2 S => ?_)
 ·exact S.gf 8 .nil [I (-1), I (-1)] (ret2v (eqI (show (-1) = (f_ownerOfPage h page).1 from k0_impl_OwnerOfPage)) (eqI (show (-1) = (f_ownerOfPage h page).2 from k0_impl_OwnerOfPage)))
 refine S.go 13 .nil fun ac w β S => ?_
 refine lp (fun mm ac w => ∃ (i : Nat)  (u : _) (N : _) (β : _), mm = h.mons.length - i ∧ (i ≤ h.mons.length) ∧ (f_own0 h.mons page 0 = f_own0 h.mons page i) ∧ St Tryz.prog Tryz.f181.ntmps w0 NoB u N β ⟨[(1, .v (I page)), (13, .v (slv h.mons.length ph.mons.1)), (14, .v (I (h.mons.length : Int))), (15, .v (I (i : Int)))], [GT.cells h ph]⟩ ac w) _ ⟨0, _, _, _, rfl, o0, o0, S.z⟩ ?_
 clear S
 rintro f3 mm hf4 ac w ⟨i, u, N, β, rfl, hi, he, S⟩
 refine S.rs fun S => ?_
 refine S.gd 6 .nil (decide ((i : Int) < (h.mons.length : Int))) (fun ac w β h5 g6 S => ?_) (fun ac w β h5 g6 S => ?_)
 ·have b7 : (el h.mons i).outer.length ≤ 4194304 := LRd.le (RMon.outer (d := (el h.mons i)) (LRd.el (RHost.mons (d := h) (S.arg hh)) i (by omega)))
  refine S.go 24 (.cons (qn (RHost.mons (d := h) (S.arg hh)) i Tryz.underlying28) (.cons (qs (RHost.mons (d := h) (S.arg hh)) 73 i) .nil)) fun ac w β S => ?_
  refine lp (fun mm ac w => ∃ (k : Nat)  (u : _) (N : _) (β : _), mm = (el h.mons i).outer.length - k ∧ (k ≤ (el h.mons i).outer.length) ∧ (f_own1 (el h.mons i).outer page 0 = f_own1 (el h.mons i).outer page k) ∧ St Tryz.prog Tryz.f181.ntmps w0 NoB u N β ⟨[(1, .v (I page)), (6, .v (I (i : Int))), (13, .v (slv h.mons.length ph.mons.1)), (14, .v (I (h.mons.length : Int))), (15, .v (I (i : Int))), (21, .v (slv (el h.mons i).outer.length (ph.mons.2 i).outer.1)), (22, .v (I ((el h.mons i).outer.length : Int))), (23, .v (I (k : Int)))], [GT.cells h ph, GT.cells (el h.mons i) (ph.mons.2 i)]⟩ ac w) _ ⟨0, _, _, _, rfl, o0, o0, S.z⟩ ?_
  clear S
  rintro f8 mm hf9 ac w ⟨k, u, N, β, rfl, hk, he2, S⟩
  refine S.rs fun S => ?_
  have hl2 : (el h.mons i).outer.length ≤ 4194304 := LRd.le (RMon.outer (d := el h.mons i) (LRd.el (RHost.mons (d := h) hh) i (by omega)))
  refine S.gd 6 .nil (decide ((k : Int) < ((el h.mons i).outer.length : Int))) (fun ac w β h10 g11 S => ?_) (fun ac w β h10 g11 S => ?_)
  ·refine S.gd 23 (.cons (qn (RMon.outer (d := (el h.mons i)) (LRd.el (RHost.mons (d := h) (S.arg hh)) i (by omega))) k Tryz.underlying69) (.cons (qs (RMon.outer (d := (el h.mons i)) (LRd.el (RHost.mons (d := h) (S.arg hh)) i (by omega))) 92 k) .nil)) ((el (el h.mons i).outer k).page == page) (fun ac w β h12 g13 S => ?_) (fun ac w β h12 g13 S => ?_)
   ·exact S.gf 10 .nil [I (i : Int), I (k : Int)] (ret2v (eqI (show (i : Int) = (f_ownerOfPage h page).1 from k0_impl_OwnerOfPage)) (eqI (show (k : Int) = (f_ownerOfPage h page).2 from k0_impl_OwnerOfPage)))
   refine S.ge 8 (.cons (qp (k : Int) 1) .nil) f8 fun ac w β S => hf9.of ((el h.mons i).outer.length - (k + 1)) _ _ (by omega) ⟨k + 1, _, _, _, rfl, ?_, ?_, S.z⟩
   ·exact oz
   ·clear S; exact he2.trans (own1_next (by omega) (by assumption))
  refine S.ge 11 (.cons (qp (i : Int) 1) .nil) f3 fun ac w β S => hf4.of (h.mons.length - (i + 1)) _ _ (by omega) ⟨i + 1, _, _, _, rfl, ?_, ?_, S.z⟩
  ·exact oz
  ·clear S; exact he.trans (own0_next (by omega) (he2.trans (own1_end (by omega))))
 exact S.gf 13 .nil [I (-1), I (-1)] (ret2v (eqI (show (-1) = (f_ownerOfPage h page).1 from k0_impl_OwnerOfPage)) (eqI (show (-1) = (f_ownerOfPage h page).2 from k0_impl_OwnerOfPage)))

theorem c_impl_FreeIn (w0 : World) (h : THost) (ph : PHost) (hh : RD w0 h ph) : Calls Tryz.prog 154 [GT.val h ph].toArray w0 (Ret1 NoB w0 (f_freeIn h : List Int)) := by
 refine Calls.run NoB Tryz.func154 ?_
 intro ac β S
 have hleh_mem : h.mem.length ≤ 4194304 := LRd.le (RHost.mem (d := h) hh)
 have hleh_mons : h.mons.length ≤ 4194304 := LRd.le (RHost.mons (d := h) hh)
 have hleh_buf : h.buf.length ≤ 4194304 := LRd.le (RHost.buf (d := h) hh)
 have hleh_iobuf : h.iobuf.length ≤ 4194304 := LRd.le (RHost.iobuf (d := h) hh)
 refine S.go 8 .nil fun ac w β S => S.B0 (α := Int) (d := 7) fun ac w N q1 F2 S up o3 d4 => ?_
 clear up d4
 refine S.go 13 .nil fun ac w β S => ?_
 refine lp (fun mm ac w => ∃ (k : Nat) (acc : List Int) (q5 : _) (F6 : _) (u : _) (N : _) (β : _), mm = h.mem.length - k ∧ (k ≤ h.mem.length) ∧ (acc = f_idx k (fun p => decide ((f_ownerOfPage h p).1 < 0))) ∧ St Tryz.prog Tryz.f154.ntmps w0 NoB u N β ⟨[(1, .p 0 0), (3, .v (slv acc.length q5.1)), (10, .v (I (h.mem.length : Int))), (11, .v (I (k : Int)))], [GT.cells h ph]⟩ ac w ∧ Ow w0 NoB u N F6 acc q5) _ ⟨0, ([] : List Int), q1, F2, _, _, _, rfl, o0, (by rfl), S.z, o3⟩ ?_
 clear S o3
 rintro f8 mm hf9 ac w ⟨k, acc, q5, F6, u, N, β, rfl, hk, hacc, S, o7⟩
 refine S.rs fun S => ?_
 have hlacc : acc.length ≤ k := by rw [hacc]; exact idx_len _ _
 refine S.gd 6 .nil (decide ((k : Int) < (h.mem.length : Int))) (fun ac w β h10 g11 S => ?_) (fun ac w β h10 g11 S => ?_)
 ·refine S.gd 29 (.cons (Q_call fun w hw => c_impl_OwnerOfPage w h ph (rd_of (S.arg hh) hw) (k : Int)) .nil) (decide ((f_ownerOfPage h (k : Int)).1 < 0)) (fun ac w β h12 g13 S => ?_) (fun ac w β h12 g13 S => ?_)
  ·refine S.go 4 .nil fun ac w β S => S.B1 (α := Int) (x := (k : Int)) (p := ()) (F := NoB) ⟨by omega, by omega⟩ (fun b h => False.elim h) (fun b h => False.elim h) (d := 24) fun ac w N q14 F15 S up o16 d17 => ?_
   have d18 := d17 _ (fun b _ h => False.elim h) o7.sub
   replace o7 := o7.up up
   clear up d17
   refine S.AF (α := Int) o7 o16.rn (fun _ _ h => h) (by' := 8) (d := 25) (lx := acc.length) (ly := 1) rfl rfl (show _ ≤ 4194304 by simp only [List.length_append, List.length_cons, List.length_nil]; omega) fun ac w N q19 F20 S up o21 d22 => ?_
   have d23 := d22 _ (Disj.symm d18) o16.sub
   replace o16 := o16.upF (Disj.symm d18) up
   clear up d22
   refine S.ge 8 (.cons (qp (k : Int) 1) .nil) f8 fun ac w β S => hf9.of (h.mem.length - (k + 1)) _ _ (by omega) ⟨k + 1, (acc ++ [(k : Int)]), q19, F20, _, _, _, rfl, ?_, ?_, S.z, o21⟩
   ·exact oz
   ·clear S; (first | (rw [idx_step_t (by first | assumption | (simp [*]; done) | (simp; omega)), hacc]; done) | (rw [idx_step_f (by first | assumption | (simp [*]; done) | (simp; omega)), hacc]; done) | (rw [idx_step_t (by simp_all <;> fail), hacc]; done) | (rw [idx_step_f (by simp_all <;> fail), hacc]; done))
  refine S.ge 8 (.cons (qp (k : Int) 1) .nil) f8 fun ac w β S => hf9.of (h.mem.length - (k + 1)) _ _ (by omega) ⟨k + 1, acc, q5, F6, _, _, _, rfl, ?_, ?_, S.z, o7⟩
  ·exact oz
  ·clear S; (first | (rw [idx_step_t (by first | assumption | (simp [*]; done) | (simp; omega)), hacc]; done) | (rw [idx_step_f (by first | assumption | (simp [*]; done) | (simp; omega)), hacc]; done) | (rw [idx_step_t (by simp_all <;> fail), hacc]; done) | (rw [idx_step_f (by simp_all <;> fail), hacc]; done))
 refine S.gr 13 .nil [slv acc.length q5.1] fun ac w β S => ?_
 exact ret1_of S (show f_freeIn h = acc by clear S; (unfold f_freeIn; rw [hacc, show h.mem.length = k by omega])) rfl o7

theorem k0_impl_PageAt {p : Prop} (h : p := by clear S; (first | (unfold f_pageAt; rw [if_pos (by omega)]; done) | (unfold f_pageAt; rw [if_pos (by omega)]; first | rfl | (simp; done)) | (unfold f_pageAt; rw [if_neg (by omega)]; done) | (unfold f_pageAt; rw [if_neg (by omega)]; first | rfl | (simp; done)))) : p := h
theorem c_impl_PageAt (w0 : World) (m : List (List Int)) (pm : LP (List Int)) (hm : RD w0 m pm) (page : Int) : Calls Tryz.prog 195 [slv m.length pm.1, I page].toArray w0 (Ret1 NoB w0 (f_pageAt m page : List Int)) := by
 refine Calls.run NoB Tryz.func195 ?_
 intro ac β S
 have hlem : m.length ≤ 4194304 := LRd.le hm
 refine S.gb 15 (.cons (Q_call fun w hw => c_impl_has w page (m.length : Int) (by omega)) .nil) (!(f_within page 0 ((m.length : Int) - 1))) (fun ac w β h1 S => ?_) (fun ac w β h1 S => ?_)
 ·have h2 := not_t h1
  have g3 := within_f h2
  refine S.go 3 .nil fun ac w β S => S.Mk (α := Int) (m := 4) (by' := 8) (d := 10) (by omega) (show 4 ≤ 4194304 by omega) fun ac w N q4 F5 S up o6 d7 => ?_
  clear up d7
  refine S.gr 4 .nil [slv 4 q4.1] fun ac w β S => ?_
  exact ret1_of S (show f_pageAt m page = (List.replicate 4 (GT.dflt : Int)) from k0_impl_PageAt) (by rw [show 4 = (List.replicate 4 (GT.dflt : Int)).length from (by simp)]; rfl) o6
 have h8 := not_f h1
 have g9 := within_t h8
 refine S.go 9 (.cons (qt (S.arg hm) page Tryz.underlying22) (.cons (qx (S.arg hm) 61 page.toNat) .nil)) fun ac w β S => S.K1 (r := (el m page.toNat)) (d := 15) (c_impl_copyInts w (el m page.toNat) (pm.2 page.toNat) (S.rd (LRd.el (S.arg hm) page.toNat (by omega)))) fun ac w N q10 F11 S up o12 d13 => ?_
 clear up d13
 refine S.gr 4 .nil [slv (el m page.toNat).length q10.1] fun ac w β S => ?_
 exact ret1_of S (show f_pageAt m page = (el m page.toNat) from k0_impl_PageAt) rfl o12

theorem c_impl_UsesOf (w0 : World) (t : List TSlot) (pt : LP TSlot) (ht : RD w0 t pt) (page : Int) : Calls Tryz.prog 183 [slv t.length pt.1, I page].toArray w0 (Ret1 NoB w0 (f_usesOf t page : List Int)) := by
 refine Calls.run NoB Tryz.func183 ?_
 intro ac β S
 have hlet : t.length ≤ 4194304 := LRd.le ht
 refine S.go 7 .nil fun ac w β S => S.B0 (α := Int) (d := 8) fun ac w N q1 F2 S up o3 d4 => ?_
 clear up d4
 refine S.go 12 .nil fun ac w β S => ?_
 refine lp (fun mm ac w => ∃ (k : Nat) (acc : List Int) (q5 : _) (F6 : _) (u : _) (N : _) (β : _), mm = t.length - k ∧ (k ≤ t.length) ∧ (acc = f_idx k (fun i => decide ((el t i).page = page))) ∧ St Tryz.prog Tryz.f183.ntmps w0 NoB u N β ⟨[(1, .v (I page)), (5, .v (slv acc.length q5.1)), (9, .v (slv t.length pt.1)), (10, .v (I (t.length : Int))), (11, .v (I (k : Int)))], []⟩ ac w ∧ Ow w0 NoB u N F6 acc q5) _ ⟨0, ([] : List Int), q1, F2, _, _, _, rfl, o0, (by rfl), S.z, o3⟩ ?_
 clear S o3
 rintro f8 mm hf9 ac w ⟨k, acc, q5, F6, u, N, β, rfl, hk, hacc, S, o7⟩
 refine S.rs fun S => ?_
 have hlacc : acc.length ≤ k := by rw [hacc]; exact idx_len _ _
 refine S.gd 6 .nil (decide ((k : Int) < (t.length : Int))) (fun ac w β h10 g11 S => ?_) (fun ac w β h10 g11 S => ?_)
 ·refine S.gd 23 (.cons (qn (S.arg ht) k Tryz.underlying69) (.cons (qs (S.arg ht) 92 k) .nil)) ((el t k).page == page) (fun ac w β h12 g13 S => ?_) (fun ac w β h12 g13 S => ?_)
  ·refine S.go 4 .nil fun ac w β S => S.B1 (α := Int) (x := (k : Int)) (p := ()) (F := NoB) ⟨by omega, by omega⟩ (fun b h => False.elim h) (fun b h => False.elim h) (d := 22) fun ac w N q14 F15 S up o16 d17 => ?_
   have d18 := d17 _ (fun b _ h => False.elim h) o7.sub
   replace o7 := o7.up up
   clear up d17
   refine S.AF (α := Int) o7 o16.rn (fun _ _ h => h) (by' := 8) (d := 23) (lx := acc.length) (ly := 1) rfl rfl (show _ ≤ 4194304 by simp only [List.length_append, List.length_cons, List.length_nil]; omega) fun ac w N q19 F20 S up o21 d22 => ?_
   have d23 := d22 _ (Disj.symm d18) o16.sub
   replace o16 := o16.upF (Disj.symm d18) up
   clear up d22
   refine S.ge 8 (.cons (qp (k : Int) 1) .nil) f8 fun ac w β S => hf9.of (t.length - (k + 1)) _ _ (by omega) ⟨k + 1, (acc ++ [(k : Int)]), q19, F20, _, _, _, rfl, ?_, ?_, S.z, o21⟩
   ·exact oz
   ·clear S; (first | (rw [idx_step_t (by first | assumption | (simp [*]; done) | (simp; omega)), hacc]; done) | (rw [idx_step_f (by first | assumption | (simp [*]; done) | (simp; omega)), hacc]; done) | (rw [idx_step_t (by simp_all <;> fail), hacc]; done) | (rw [idx_step_f (by simp_all <;> fail), hacc]; done))
  refine S.ge 8 (.cons (qp (k : Int) 1) .nil) f8 fun ac w β S => hf9.of (t.length - (k + 1)) _ _ (by omega) ⟨k + 1, acc, q5, F6, _, _, _, rfl, ?_, ?_, S.z, o7⟩
  ·exact oz
  ·clear S; (first | (rw [idx_step_t (by first | assumption | (simp [*]; done) | (simp; omega)), hacc]; done) | (rw [idx_step_f (by first | assumption | (simp [*]; done) | (simp; omega)), hacc]; done) | (rw [idx_step_t (by simp_all <;> fail), hacc]; done) | (rw [idx_step_f (by simp_all <;> fail), hacc]; done))
 refine S.gr 13 .nil [slv acc.length q5.1] fun ac w β S => ?_
 exact ret1_of S (show f_usesOf t page = acc by clear S; (unfold f_usesOf; rw [hacc, show t.length = k by omega])) rfl o7

theorem k0_impl_Forget {p : Prop} (h : p := by clear S; (unfold f_forget; (repeat' split) <;> first | rfl | (exfalso; omega) | (exfalso; simp_all; done))) : p := h
theorem c_impl_Forget (w0 : World) (k : TKept) (pk : PKept) (hk : RD w0 k pk) (page : Int) : Calls Tryz.prog 184 [GT.val k pk, I page].toArray w0 (Ret1 NoB w0 (f_forget k page : TKept)) := by
 refine Calls.run NoB Tryz.func184 ?_
 intro ac β S
 have hlek_known : k.known.length ≤ 4194304 := LRd.le (RKept.known (d := k) hk)
 have hlek_slots : k.slots.length ≤ 4194304 := LRd.le (RKept.slots (d := k) hk)
 refine S.go 9 .nil fun ac w β S => S.K1 (r := k) (d := 7) (c_impl_copyKept w k pk (S.rd (S.arg hk))) fun ac w N q1 F2 S up o3 d4 => ?_
 clear up d4
 obtain ⟨F5, F8, o6, o9, s7, s10, d11⟩ := sp_Kept o3
 refine S.gb 13 (.cons (Q_call fun w hw => c_impl_has w page (k.known.length : Int) (by omega)) .nil) (f_within page 0 ((k.known.length : Int) - 1)) (fun ac w β h12 S => ?_) (fun ac w β h12 S => ?_)
 ·have g13 := within_t h12
  refine S.gb 8 (.cons (Q_call fun w hw => c_impl_has w page (k.slots.length : Int) (by omega)) .nil) (f_within page 0 ((k.slots.length : Int) - 1)) (fun ac w β h14 S => ?_) (fun ac w β h14 S => ?_)
  ·have g15 := within_t h14
   refine S.go 7 (.cons (qt o6.rn page Tryz.underlying64) .nil) fun ac w β S => S.SF (α := Bool) o6 (t := 4) (k := page.toNat) (j := 0) (off := q1.known.1.off + page.toNat * 1) (v := B false) (y := false) (q := ()) (fun _ _ _ => ⟨NoB, trivial, fun _ h => False.elim h⟩) fun w N F17 q18 S up o16 d19 s20 n21 => ?_
   have d22 := d19 _ (Disj.symm d11) (fun b _ h => False.elim h) o9.sub
   replace o9 := o9.upF (Disj.symm d11) up
   clear up d19 o6 n21
   have l23 : (k.known.set page.toNat false).length = k.known.length := List.length_set
   replace S := S.z (σ' := ⟨[(1, .v (I page)), (4, .p 1 0), (5, .p 2 0), (23, .v (pt q1.known.1.b (q1.known.1.off + page.toNat * 1)))], [GT.cells k pk, Zc TKept, [slv k.known.length q1.known.1, slv k.slots.length q1.slots.1]]⟩)
   replace S := S.cast (σ' := ⟨[(1, .v (I page)), (4, .p 1 0), (5, .p 2 0), (23, .v (pt q1.known.1.b (q1.known.1.off + page.toNat * 1)))], [GT.cells k pk, Zc TKept, [slv (k.known.set page.toNat false).length q1.known.1, slv k.slots.length q1.slots.1]]⟩) (by rw [show (k.known.set page.toNat false).length = k.known.length by omega])
   refine S.is fun S => ?_
   refine S.go 2 .nil fun ac w β S => ?_
   refine drw ?_
   refine S.draw0 (f := 6) 5 (by kernel_rfl) (by kernel_rfl) fun w S => ?_
   refine S.hq 0 [0] [] [(24, .p 2 1)] .nil fun ac S => ?_
   refine S.hq 1 [1] [] [(25, .v (slv k.slots.length q1.slots.1))] .nil fun ac S => ?_
   refine S.hq 2 [2] [] [(26, .v (I page))] .nil fun ac S => ?_
   refine WD.one (i := 3) (by kernel_rfl) ?_
   refine S.stepq (i := 3) (keep := [4, 5, 25, 26, 27]) (m := 3) (σ' := ⟨[(4, .p 1 0), (5, .p 2 0), (25, .v (slv k.slots.length q1.slots.1)), (26, .v (I page)), (27, .v (GT.val (⟨-1, 0⟩ : TSlot) ()))], [GT.cells k pk, Zc TKept, [slv (k.known.set page.toNat false).length q1.known.1, slv k.slots.length q1.slots.1]]⟩) (.cons (Q_call fun w hw => c_impl_NoSlot w ) .nil) (by kernel_rfl) fun ac w β S hβ => ?_
   refine WD.stayq S hβ ?_
   clear hβ
   refine S.hq 4 [4] [] [(28, .v (pt q1.slots.1.b (q1.slots.1.off + page.toNat * 2)))] (.cons (qt o9.rn page Tryz.underlying69) .nil) fun ac S => ?_
   refine WD.one (i := 5) (by kernel_rfl) ?_
   have e24 : RSlot (el k.slots page.toNat) := (LRd.el o9.rn page.toNat (by omega))
   refine id (S.sF (α := TSlot) o9 (t := 92) (k := page.toNat) (j := 0) (off := q1.slots.1.off + page.toNat * 2) (v := GT.val (⟨-1, 0⟩ : TSlot) ()) (y := (⟨-1, 0⟩ : TSlot)) (q := ()) (fun _ _ _ => ⟨NoB, (show RSlot ⟨-1, 0⟩ from ⟨⟨by decide, by decide⟩, ⟨by decide, by decide⟩⟩), fun _ h => False.elim h⟩) fun w N F26 q27 S up o25 d28 s29 n30 => ?_)
   refine WD.last (by kernel_rfl) ?_
   have d31 := d28 _ (Disj.symm d22) (fun b _ h => False.elim h) o16.sub
   replace o16 := o16.upF (Disj.symm d22) up
   clear up d28 o9 n30
   have l32 : (k.slots.set page.toNat (⟨-1, 0⟩ : TSlot)).length = k.slots.length := List.length_set
   replace S := S.z (σ' := ⟨[(4, .p 1 0), (5, .p 2 0), (27, .v (GT.val (⟨-1, 0⟩ : TSlot) ())), (28, .v (pt q1.slots.1.b (q1.slots.1.off + page.toNat * 2)))], [GT.cells k pk, Zc TKept, [slv (k.known.set page.toNat false).length q1.known.1, slv k.slots.length q1.slots.1]]⟩)
   replace S := S.cast (σ' := ⟨[(4, .p 1 0), (5, .p 2 0), (27, .v (GT.val (⟨-1, 0⟩ : TSlot) ())), (28, .v (pt q1.slots.1.b (q1.slots.1.off + page.toNat * 2)))], [GT.cells k pk, Zc TKept, [slv (k.known.set page.toNat false).length q1.known.1, slv (k.slots.set page.toNat (⟨-1, 0⟩ : TSlot)).length q1.slots.1]]⟩) (by rw [show (k.slots.set page.toNat (⟨-1, 0⟩ : TSlot)).length = k.slots.length by omega])
   refine WD.done (by kernel_rfl) ?_ _
   refine S.ex fun S => ?_
   refine S.gr 8 .nil [GT.val (⟨(k.known.set page.toNat false), (k.slots.set page.toNat (⟨-1, 0⟩ : TSlot))⟩ : TKept) (⟨(q1.known.1, q18), (q1.slots.1, q27)⟩ : PKept)] fun ac w β S => ?_
   have o33 := ow_Kept (x := (⟨(k.known.set page.toNat false), (k.slots.set page.toNat (⟨-1, 0⟩ : TSlot))⟩ : TKept)) (p := (⟨(q1.known.1, q18), (q1.slots.1, q27)⟩ : PKept)) o16 o25 d31 
   exact ret1_of S (show f_forget k page = (⟨(k.known.set page.toNat false), (k.slots.set page.toNat (⟨-1, 0⟩ : TSlot))⟩ : TKept) from k0_impl_Forget) rfl o33
  have g34 := within_f h14
  refine S.gr 10 .nil [GT.val k q1] fun ac w β S => ?_
  have o35 := ow_Kept (x := k) (p := q1) o6 o9 d11 
  exact ret1_of S (show f_forget k page = k from k0_impl_Forget) rfl o35
 have g36 := within_f h12
 refine S.gr 18 .nil [GT.val k q1] fun ac w β S => ?_
 have o37 := ow_Kept (x := k) (p := q1) o6 o9 d11 
 exact ret1_of S (show f_forget k page = k from k0_impl_Forget) rfl o37

theorem c_impl_ForgetUses (w0 : World) (k : TKept) (pk : PKept) (hk : RD w0 k pk) (inner : List TSlot) (pinner : LP TSlot) (hinner : RD w0 inner pinner) (page : Int) : Calls Tryz.prog 157 [GT.val k pk, slv inner.length pinner.1, I page].toArray w0 (Ret1 NoB w0 (f_forgetUses k inner page : TKept)) := by
 refine Calls.run NoB Tryz.func157 ?_
 intro ac β S
 have hlek_known : k.known.length ≤ 4194304 := LRd.le (RKept.known (d := k) hk)
 have hlek_slots : k.slots.length ≤ 4194304 := LRd.le (RKept.slots (d := k) hk)
 have hleinner : inner.length ≤ 4194304 := LRd.le hinner
 refine S.go 9 .nil fun ac w β S => S.K1 (r := k) (d := 11) (c_impl_copyKept w k pk (S.rd (S.arg hk))) fun ac w N q1 F2 S up o3 d4 => ?_
 clear up d4
 obtain ⟨F5, F8, o6, o9, s7, s10, d11⟩ := sp_Kept o3
 refine S.go 9 .nil fun ac w β S => S.K1 (r := f_usesOf inner page) (d := 14) (c_impl_UsesOf w inner pinner (S.rd (S.arg hinner)) page) fun ac w N q12 F13 S up o14 d15 => ?_
 have d16 := Disj.w d15 o6.sub
 have d17 := Disj.w d15 o9.sub
 replace o6 := o6.up up
 replace o9 := o9.up up
 clear up d15
 refine S.go 5 .nil fun ac w β S => ?_
 refine lp (fun mm ac w => ∃ (i : Nat) (kn : List Bool) (sl : List TSlot) (q18 : _) (F19 : _) (q21 : _) (F22 : _) (u : _) (N : _) (β : _), mm = (f_usesOf inner page).length - i ∧ (i ≤ (f_usesOf inner page).length) ∧ ((⟨kn, sl⟩ : TKept) = ((f_usesOf inner page).take i).foldl f_forget k) ∧ St Tryz.prog Tryz.f157.ntmps w0 NoB u N β ⟨[(6, .p 1 0), (7, .p 2 0), (14, .v (slv (f_usesOf inner page).length q12.1)), (15, .v (I ((f_usesOf inner page).length : Int))), (16, .v (I (i : Int)))], [GT.cells k pk, Zc TKept, [slv kn.length q18.1, slv sl.length q21.1]]⟩ ac w ∧ Ow w0 NoB u N F19 kn q18 ∧ Ow w0 NoB u N F22 sl q21 ∧ Ow w0 NoB u N F13 (f_usesOf inner page) q12 ∧ Disj F19 F22 ∧ Disj F19 F13 ∧ Disj F22 F13) _ ⟨0, k.known, k.slots, q1.known, F5, q1.slots, F8, _, _, _, rfl, o0, (by rfl), S.z, o6, o9, o14, d11, d16, d17⟩ ?_
 clear S o14 o6 o9
 rintro f27 mm hf28 ac w ⟨i, kn, sl, q18, F19, q21, F22, u, N, β, rfl, hi, hf, S, o20, o23, o14, d24, d25, d26⟩
 refine S.rs fun S => ?_
 have hub : (f_usesOf inner page).length ≤ inner.length := idx_len _ _
 refine S.gd 6 .nil (decide ((i : Int) < ((f_usesOf inner page).length : Int))) (fun ac w β h29 g30 S => ?_) (fun ac w β h29 g30 S => ?_)
 ·refine S.go 15 (.cons (qn o14.rn i Tryz.underlying61) (.cons (qx o14.rn 3 i) .nil)) fun ac w β S => S.K1 (r := f_forget (⟨kn, sl⟩ : TKept) (el (f_usesOf inner page) i)) (d := 22) (c_impl_Forget w (⟨kn, sl⟩ : TKept) (⟨q18, q21⟩ : PKept) (S.rd (show GT.rd KK _ _ (⟨kn, sl⟩ : TKept) (⟨q18, q21⟩ : PKept) from ⟨o20.rn, o23.rn⟩)) (el (f_usesOf inner page) i)) fun ac w N q31 F32 S up o33 d34 => ?_
  have d35 := Disj.w d34 o20.sub
  have d36 := Disj.w d34 o23.sub
  have d37 := Disj.w d34 o14.sub
  replace o20 := o20.up up
  replace o23 := o23.up up
  replace o14 := o14.up up
  clear up d34
  obtain ⟨F38, F41, o39, o42, s40, s43, d44⟩ := sp_Kept o33
  refine S.ge 8 (.cons (qp (i : Int) 1) .nil) f27 fun ac w β S => hf28.of ((f_usesOf inner page).length - (i + 1)) _ _ (by omega) ⟨i + 1, (f_forget (⟨kn, sl⟩ : TKept) (el (f_usesOf inner page) i)).known, (f_forget (⟨kn, sl⟩ : TKept) (el (f_usesOf inner page) i)).slots, q31.known, F38, q31.slots, F41, _, _, _, rfl, ?_, ?_, S.z, o39, o42, o14, d44, (Disj.part (Disj.symm d37) s40), (Disj.part (Disj.symm d37) s43)⟩
  ·exact oz
  ·clear S; (rw [fold_step (by omega), ← hf])
 refine S.gr 13 .nil [GT.val (⟨kn, sl⟩ : TKept) (⟨q18, q21⟩ : PKept)] fun ac w β S => ?_
 have o45 := ow_Kept (x := (⟨kn, sl⟩ : TKept)) (p := (⟨q18, q21⟩ : PKept)) o20 o23 d24 
 exact ret1_of S (show f_forgetUses k inner page = (⟨kn, sl⟩ : TKept) by clear S; (unfold f_forgetUses; rw [fold_end (by omega)] at hf; exact hf.symm)) rfl o45

theorem c_impl_FlushHost_1 (w0 : World) (en : TEntry) (host : Int) (qhost : LP Int) (hhost : RD w0 [host] qhost) : Calls Tryz.prog 185 [GT.val en (), pt qhost.1.b (qhost.1.off + 0 * 1)].toArray w0 (fun e w' => e = .returned (B (f_onHost en host)) ∧ Chg NoB w0 w') := by
 refine Calls.run NoB Tryz.func185 ?_
 intro ac β S
 exact S.gf 16 (.cons (Q_el1 (S.arg hhost) (t := 3) (k := 0) (Nat.succ_pos 0) rfl (by kernel_rfl)) .nil) [B (en.host == host)] (retB (by clear S; rfl))

theorem c_impl_FlushPage_1 (w0 : World) (en : TEntry) (tag : Int) (qtag : LP Int) (htag : RD w0 [tag] qtag) (page : Int) (qpage : LP Int) (hpage : RD w0 [page] qpage) : Calls Tryz.prog 161 [GT.val en (), pt qtag.1.b (qtag.1.off + 0 * 1), pt qpage.1.b (qpage.1.off + 0 * 1)].toArray w0 (fun e w' => e = .returned (B (f_samePg en tag page)) ∧ Chg NoB w0 w') := by
 refine Calls.run NoB Tryz.func161 ?_
 intro ac β S
 refine S.gd 13 (.cons (Q_el1 (S.arg htag) (t := 3) (k := 0) (Nat.succ_pos 0) rfl (by kernel_rfl)) .nil) (en.tag == tag) (fun ac w β h1 g2 S => ?_) (fun ac w β h1 g2 S => ?_)
 ·exact S.gf 9 (.cons (Q_el1 (S.arg hpage) (t := 3) (k := 0) (Nat.succ_pos 0) rfl (by kernel_rfl)) .nil) [B (en.page == page)] (retB (by clear S; (first | (rw [samePg_f1 (by assumption)]; done) | (unfold f_samePg; simp [*]; done))))
 exact S.gf 9 .nil [B false] (retB (by clear S; (first | (rw [samePg_f1 (by assumption)]; done) | (unfold f_samePg; simp [*]; done))))

theorem c_impl_without_impl_FlushHost_1 (w0 : World) (b : List TEntry) (pb : LP TEntry) (hb : RD w0 b pb) (host : Int) (qhost : LP Int) (hhost : RD w0 [host] qhost) : Calls Tryz.prog 160 [slv b.length pb.1, .func (.func 185) #[] #[pt qhost.1.b (qhost.1.off + 0 * 1)]].toArray w0 (Ret1 NoB w0 (f_without b (fun e => f_onHost e host) : List TEntry)) := by
 refine Calls.run NoB Tryz.func160 ?_
 intro ac β S
 have hleb : b.length ≤ 4194304 := LRd.le hb
 refine S.go 7 .nil fun ac w β S => S.B0 (α := TEntry) (d := 8) fun ac w N q1 F2 S up o3 d4 => ?_
 clear up d4
 refine S.go 12 .nil fun ac w β S => ?_
 refine lp (fun mm ac w => ∃ (k : Nat) (acc : List TEntry) (q5 : _) (F6 : _) (u : _) (N : _) (β : _), mm = b.length - k ∧ (k ≤ b.length) ∧ (acc = f_without (b.take k) (fun e => f_onHost e host)) ∧ St Tryz.prog Tryz.f160.ntmps w0 NoB u N β ⟨[(1, .v (.func (.func 185) #[] #[pt qhost.1.b (qhost.1.off + 0 * 1)])), (5, .v (slv acc.length q5.1)), (9, .v (slv b.length pb.1)), (10, .v (I (b.length : Int))), (11, .v (I (k : Int)))], []⟩ ac w ∧ Ow w0 NoB u N F6 acc q5) _ ⟨0, ([] : List TEntry), q1, F2, _, _, _, rfl, o0, (by rfl), S.z, o3⟩ ?_
 clear S o3
 rintro f8 mm hf9 ac w ⟨k, acc, q5, F6, u, N, β, rfl, hk, hacc, S, o7⟩
 refine S.rs fun S => ?_
 have hlacc : acc.length ≤ k := by rw [hacc]; exact Nat.le_trans (without_len _ _) (List.length_take_le _ _)
 refine S.gd 6 .nil (decide ((k : Int) < (b.length : Int))) (fun ac w β h10 g11 S => ?_) (fun ac w β h10 g11 S => ?_)
 ·refine S.gb 21 (.cons (qn (S.arg hb) k Tryz.underlying29) (.cons (qs (S.arg hb) 87 k) (.cons (Q_call fun w hw => c_impl_FlushHost_1 w (el b k) host qhost (rd_of (S.arg hhost) hw)) .nil))) (!(f_onHost (el b k) host)) (fun ac w β h12 S => ?_) (fun ac w β h12 S => ?_)
  ·have h13 := not_t h12
   refine S.go 4 .nil fun ac w β S => S.B1 (α := TEntry) (x := (el b k)) (p := ()) (F := NoB) (LRd.el (S.arg hb) k (by omega)) (fun b h => False.elim h) (fun b h => False.elim h) (d := 21) fun ac w N q14 F15 S up o16 d17 => ?_
   have d18 := d17 _ (fun b _ h => False.elim h) o7.sub
   replace o7 := o7.up up
   clear up d17
   refine S.AF (α := TEntry) o7 o16.rn (fun _ _ h => h) (by' := 32) (d := 22) (lx := acc.length) (ly := 1) rfl rfl (show _ ≤ 4194304 by simp only [List.length_append, List.length_cons, List.length_nil]; omega) fun ac w N q19 F20 S up o21 d22 => ?_
   have d23 := d22 _ (Disj.symm d18) o16.sub
   replace o16 := o16.upF (Disj.symm d18) up
   clear up d22
   refine S.ge 8 (.cons (qp (k : Int) 1) .nil) f8 fun ac w β S => hf9.of (b.length - (k + 1)) _ _ (by omega) ⟨k + 1, (acc ++ [(el b k)]), q19, F20, _, _, _, rfl, ?_, ?_, S.z, o21⟩
   ·exact oz
   ·clear S; (first | (rw [without_t (by omega) (by assumption), hacc]; done) | (rw [without_f (by omega) (by assumption), hacc]; done))
  have h24 := not_f h12
  refine S.ge 8 (.cons (qp (k : Int) 1) .nil) f8 fun ac w β S => hf9.of (b.length - (k + 1)) _ _ (by omega) ⟨k + 1, acc, q5, F6, _, _, _, rfl, ?_, ?_, S.z, o7⟩
  ·exact oz
  ·clear S; (first | (rw [without_t (by omega) (by assumption), hacc]; done) | (rw [without_f (by omega) (by assumption), hacc]; done))
 refine S.gr 13 .nil [slv acc.length q5.1] fun ac w β S => ?_
 exact ret1_of S (show f_without b (fun e => f_onHost e host) = acc by clear S; (rw [hacc, take_all (by omega)])) rfl o7

theorem c_impl_without_impl_FlushPage_1 (w0 : World) (b : List TEntry) (pb : LP TEntry) (hb : RD w0 b pb) (tag : Int) (qtag : LP Int) (htag : RD w0 [tag] qtag) (page : Int) (qpage : LP Int) (hpage : RD w0 [page] qpage) : Calls Tryz.prog 160 [slv b.length pb.1, .func (.func 161) #[] #[pt qtag.1.b (qtag.1.off + 0 * 1), pt qpage.1.b (qpage.1.off + 0 * 1)]].toArray w0 (Ret1 NoB w0 (f_without b (fun e => f_samePg e tag page) : List TEntry)) := by
 refine Calls.run NoB Tryz.func160 ?_
 intro ac β S
 have hleb : b.length ≤ 4194304 := LRd.le hb
 refine S.go 7 .nil fun ac w β S => S.B0 (α := TEntry) (d := 8) fun ac w N q1 F2 S up o3 d4 => ?_
 clear up d4
 refine S.go 12 .nil fun ac w β S => ?_
 refine lp (fun mm ac w => ∃ (k : Nat) (acc : List TEntry) (q5 : _) (F6 : _) (u : _) (N : _) (β : _), mm = b.length - k ∧ (k ≤ b.length) ∧ (acc = f_without (b.take k) (fun e => f_samePg e tag page)) ∧ St Tryz.prog Tryz.f160.ntmps w0 NoB u N β ⟨[(1, .v (.func (.func 161) #[] #[pt qtag.1.b (qtag.1.off + 0 * 1), pt qpage.1.b (qpage.1.off + 0 * 1)])), (5, .v (slv acc.length q5.1)), (9, .v (slv b.length pb.1)), (10, .v (I (b.length : Int))), (11, .v (I (k : Int)))], []⟩ ac w ∧ Ow w0 NoB u N F6 acc q5) _ ⟨0, ([] : List TEntry), q1, F2, _, _, _, rfl, o0, (by rfl), S.z, o3⟩ ?_
 clear S o3
 rintro f8 mm hf9 ac w ⟨k, acc, q5, F6, u, N, β, rfl, hk, hacc, S, o7⟩
 refine S.rs fun S => ?_
 have hlacc : acc.length ≤ k := by rw [hacc]; exact Nat.le_trans (without_len _ _) (List.length_take_le _ _)
 refine S.gd 6 .nil (decide ((k : Int) < (b.length : Int))) (fun ac w β h10 g11 S => ?_) (fun ac w β h10 g11 S => ?_)
 ·refine S.gb 21 (.cons (qn (S.arg hb) k Tryz.underlying29) (.cons (qs (S.arg hb) 87 k) (.cons (Q_call fun w hw => c_impl_FlushPage_1 w (el b k) tag qtag (rd_of (S.arg htag) hw) page qpage (rd_of (S.arg hpage) hw)) .nil))) (!(f_samePg (el b k) tag page)) (fun ac w β h12 S => ?_) (fun ac w β h12 S => ?_)
  ·have h13 := not_t h12
   refine S.go 4 .nil fun ac w β S => S.B1 (α := TEntry) (x := (el b k)) (p := ()) (F := NoB) (LRd.el (S.arg hb) k (by omega)) (fun b h => False.elim h) (fun b h => False.elim h) (d := 21) fun ac w N q14 F15 S up o16 d17 => ?_
   have d18 := d17 _ (fun b _ h => False.elim h) o7.sub
   replace o7 := o7.up up
   clear up d17
   refine S.AF (α := TEntry) o7 o16.rn (fun _ _ h => h) (by' := 32) (d := 22) (lx := acc.length) (ly := 1) rfl rfl (show _ ≤ 4194304 by simp only [List.length_append, List.length_cons, List.length_nil]; omega) fun ac w N q19 F20 S up o21 d22 => ?_
   have d23 := d22 _ (Disj.symm d18) o16.sub
   replace o16 := o16.upF (Disj.symm d18) up
   clear up d22
   refine S.ge 8 (.cons (qp (k : Int) 1) .nil) f8 fun ac w β S => hf9.of (b.length - (k + 1)) _ _ (by omega) ⟨k + 1, (acc ++ [(el b k)]), q19, F20, _, _, _, rfl, ?_, ?_, S.z, o21⟩
   ·exact oz
   ·clear S; (first | (rw [without_t (by omega) (by assumption), hacc]; done) | (rw [without_f (by omega) (by assumption), hacc]; done))
  have h24 := not_f h12
  refine S.ge 8 (.cons (qp (k : Int) 1) .nil) f8 fun ac w β S => hf9.of (b.length - (k + 1)) _ _ (by omega) ⟨k + 1, acc, q5, F6, _, _, _, rfl, ?_, ?_, S.z, o7⟩
  ·exact oz
  ·clear S; (first | (rw [without_t (by omega) (by assumption), hacc]; done) | (rw [without_f (by omega) (by assumption), hacc]; done))
 refine S.gr 13 .nil [slv acc.length q5.1] fun ac w β S => ?_
 exact ret1_of S (show f_without b (fun e => f_samePg e tag page) = acc by clear S; (rw [hacc, take_all (by omega)])) rfl o7

theorem c_impl_FlushHost (w0 : World) (b : List TEntry) (pb : LP TEntry) (hb : RD w0 b pb) (host : Int) (hhost : In64 host) : Calls Tryz.prog 158 [slv b.length pb.1, I host].toArray w0 (Ret1 NoB w0 (f_flushHost b host : List TEntry)) := by
 refine Calls.run NoB Tryz.func158 ?_
 intro ac β S
 have hleb : b.length ≤ 4194304 := LRd.le hb
 have hlohost := hhost.lo; have hhihost := hhost.hi
 refine S.go 7 .nil fun ac w β S => ?_
 refine S.Frz 0 host () hhost fun β N b1 F2 S up o3 d4 => ?_
 clear up d4
 refine S.go 3 .nil fun ac w β S => S.K1 (r := f_without b (fun e => f_onHost e host)) (d := 7) (c_impl_without_impl_FlushHost_1 w b pb (S.rd (S.arg hb)) host (cap1 b1 () : LP Int) (S.rd o3.rn)) fun ac w N q5 F6 S up o7 d8 => ?_
 have d9 := Disj.w d8 o3.sub
 replace o3 := o3.up up
 clear up d8
 refine S.gr 4 .nil [slv (f_without b (fun e => f_onHost e host)).length q5.1] fun ac w β S => ?_
 exact ret1_of S (show f_flushHost b host = (f_without b (fun e => f_onHost e host)) by clear S; rfl) rfl o7

theorem k0_impl_invalidate {p : Prop} (h : p := by clear S; ((have hke : k = (el h.mons m.toNat).guests.length := (by omega)); subst hke; subst hX; unfold f_inval; first | (rw [flushIf_yes (by assumption), flushIf_yes (by assumption)]; done) | (rw [flushIf_no (by assumption), flushIf_no (by assumption)]; done))) : p := h
theorem c_impl_invalidate (w0 : World) (h : THost) (qh : LP THost) (F : Bl) (hh : GT.own KK F w0 [h] qh) (hF : ∀ b, F b → b < w0.heap.size) (m : Int) (page : Int) (s : TSlot) (hs : RSlot s) (pre0 : (0 ≤ m ∧ m < h.mons.length) ∧ (el h.mons m.toNat).tables.length = (el h.mons m.toNat).guests.length) : Calls Tryz.prog 120 [pt qh.1.b (qh.1.off + 0 * 4), I m, I page, GT.val s ()].toArray w0 (RetC hdrH F qh w0 (packed []) (f_inval h m page s)) := by
 refine Calls.run F Tryz.func120 ?_
 intro ac β S
 have oh : Ow w0 F w0 (Lt w0.heap.size) F [h] qh := ⟨hh, hF, fun b hb => .inr hb⟩
 have b1 : (el h.mons m.toNat).guests.length ≤ 4194304 := LRd.le (RMon.guests (d := (el h.mons m.toNat)) (LRd.el (capx_mons oh.rn) m.toNat (by omega)))
 refine S.go 28 (.cons (Q_cell oh.rn (t := 28) (k := 0) (j := 1) (v := slv h.mons.length (qh.2 0).mons.1) (Nat.succ_pos 0) (by kernel_rfl) (by kernel_rfl)) (.cons (qt (capx_mons oh.rn) m Tryz.underlying28) (.cons (qc (capx_mons oh.rn) 70 m.toNat 3 (slv (el h.mons m.toNat).guests.length ((qh.2 0).mons.2 m.toNat).guests.1)) .nil))) fun ac w β S => ?_
 refine lp (fun mm ac w => ∃ (k : Nat) (X : List TMon) (q2 : Nat → PHost) (F3 : _) (u : _) (N : _) (β : _), mm = (el h.mons m.toNat).guests.length - k ∧ (k ≤ (el h.mons m.toNat).guests.length) ∧ (X = h.mons.set m.toNat { el h.mons m.toNat with tables := f_tabs (el h.mons m.toNat).tables (el h.mons m.toNat).guests page k }) ∧ St Tryz.prog Tryz.f120.ntmps w0 F u N β ⟨[(0, .v (pt qh.1.b (qh.1.off + 0 * 4))), (2, .v (I page)), (7, .p 0 0), (8, .v (pt (qh.2 0).mons.1.b ((qh.2 0).mons.1.off + m.toNat * 9))), (20, .v (I ((el h.mons m.toNat).guests.length : Int))), (21, .v (I (k : Int)))], [GT.cells s ()]⟩ ac w ∧ Ow w0 F u N F3 ([(⟨h.mem, X, h.buf, h.iobuf⟩ : THost)]) ((qh.1, q2) : LP THost) ∧ (q2 0).mons.1 = (qh.2 0).mons.1) _ ⟨0, h.mons, qh.2, F, _, _, _, rfl, o0, (by exact set_self.symm), S.z, oh, rfl⟩ ?_
 clear S oh
 rintro f6 mm hf7 ac w ⟨k, X, q2, F3, u, N, β, rfl, hk, hX, S, o4, hq5⟩
 refine S.rs fun S => ?_
 obtain ⟨hl, he⟩ := setm_tables hX (show m.toNat < h.mons.length by omega) (tabs_len _ _ _ _)
 refine S.gd 6 .nil (decide ((k : Int) < ((el h.mons m.toNat).guests.length : Int))) (fun ac w β h8 g9 S => ?_) (fun ac w β h8 g9 S => ?_)
 ·refine S.go 11 .nil fun ac w β S => ?_
  refine drw ?_
  refine S.draw0 (f := 24) 23 (by kernel_rfl) (by kernel_rfl) fun w S => ?_
  refine S.hq 0 [0] [] [(24, .v (pt (qh.2 0).mons.1.b ((qh.2 0).mons.1.off + m.toNat * 9)))] .nil fun ac S => ?_
  refine S.hq 1 [1] [] [(25, .v (pt (qh.2 0).mons.1.b ((qh.2 0).mons.1.off + m.toNat * 9)))] .nil fun ac S => ?_
  refine S.hq 2 [2] [] [(26, .v (pt (qh.2 0).mons.1.b ((qh.2 0).mons.1.off + m.toNat * 9 + 7)))] .nil fun ac S => ?_
  refine S.hq 3 [3] [] [(27, .v (slv (el X m.toNat).tables.length (((q2 0).mons.2) m.toNat).tables.1))] (.cons (qc (rd_hdr hq5 (cap_mons o4.rn)) 71 m.toNat 7 (slv (el X m.toNat).tables.length (((q2 0).mons.2) m.toNat).tables.1)) .nil) fun ac S => ?_
  refine S.hq 4 [4] [] [(28, .v (I (k : Int)))] .nil fun ac S => ?_
  refine S.hq 5 [5] [] [(29, .v (pt (qh.2 0).mons.1.b ((qh.2 0).mons.1.off + m.toNat * 9)))] .nil fun ac S => ?_
  refine S.hq 6 [6] [] [(30, .v (pt (qh.2 0).mons.1.b ((qh.2 0).mons.1.off + m.toNat * 9)))] .nil fun ac S => ?_
  refine S.hq 7 [7] [] [(31, .v (pt (qh.2 0).mons.1.b ((qh.2 0).mons.1.off + m.toNat * 9 + 7)))] .nil fun ac S => ?_
  refine S.hq 8 [8] [] [(32, .v (slv (el X m.toNat).tables.length (((q2 0).mons.2) m.toNat).tables.1))] (.cons (qc (rd_hdr hq5 (cap_mons o4.rn)) 71 m.toNat 7 (slv (el X m.toNat).tables.length (((q2 0).mons.2) m.toNat).tables.1)) .nil) fun ac S => ?_
  refine S.hq 9 [9] [] [(33, .v (I (k : Int)))] .nil fun ac S => ?_
  refine S.hq 10 [10] [] [(34, .v (pt (((q2 0).mons.2) m.toNat).tables.1.b ((((q2 0).mons.2) m.toNat).tables.1.off + k * 2)))] (.cons (qn (RMon.tables (d := (el X m.toNat)) (LRd.el (rd_hdr hq5 (cap_mons o4.rn)) m.toNat (by omega))) k Tryz.underlying71) .nil) fun ac S => ?_
  refine S.hq 11 [11] [] [(35, .v (GT.val (el (el X m.toNat).tables k) ((((q2 0).mons.2) m.toNat).tables.2 k)))] (.cons (qs (RMon.tables (d := (el X m.toNat)) (LRd.el (rd_hdr hq5 (cap_mons o4.rn)) m.toNat (by omega))) 96 k) .nil) fun ac S => ?_
  refine S.hq 12 [12] [] [(36, .v (pt (qh.2 0).mons.1.b ((qh.2 0).mons.1.off + m.toNat * 9)))] .nil fun ac S => ?_
  refine S.hq 13 [13] [] [(37, .v (pt (qh.2 0).mons.1.b ((qh.2 0).mons.1.off + m.toNat * 9)))] .nil fun ac S => ?_
  refine S.hq 14 [14] [] [(38, .v (pt (qh.2 0).mons.1.b ((qh.2 0).mons.1.off + m.toNat * 9 + 3)))] .nil fun ac S => ?_
  refine S.hq 15 [15] [] [(39, .v (slv (el X m.toNat).guests.length (((q2 0).mons.2) m.toNat).guests.1))] (.cons (qc (rd_hdr hq5 (cap_mons o4.rn)) 70 m.toNat 3 (slv (el X m.toNat).guests.length (((q2 0).mons.2) m.toNat).guests.1)) .nil) fun ac S => ?_
  refine S.hq 16 [16] [] [(40, .v (I (k : Int)))] .nil fun ac S => ?_
  refine S.hq 17 [17] [] [(41, .v (pt (((q2 0).mons.2) m.toNat).guests.1.b ((((q2 0).mons.2) m.toNat).guests.1.off + k * 15)))] (.cons (qn (RMon.guests (d := (el X m.toNat)) (LRd.el (rd_hdr hq5 (cap_mons o4.rn)) m.toNat (by omega))) k Tryz.underlying70) .nil) fun ac S => ?_
  refine S.hq 18 [18] [] [(42, .v (pt (((q2 0).mons.2) m.toNat).guests.1.b ((((q2 0).mons.2) m.toNat).guests.1.off + k * 15 + 4)))] .nil fun ac S => ?_
  refine S.hq 19 [19] [] [(43, .v (slv (el (el X m.toNat).guests k).live.length ((((q2 0).mons.2) m.toNat).guests.2 k).live.1))] (.cons (qc (RMon.guests (d := (el X m.toNat)) (LRd.el (rd_hdr hq5 (cap_mons o4.rn)) m.toNat (by omega))) 69 k 4 (slv (el (el X m.toNat).guests k).live.length ((((q2 0).mons.2) m.toNat).guests.2 k).live.1)) .nil) fun ac S => ?_
  refine S.hq 20 [20] [] [(44, .v (I page))] .nil fun ac S => ?_
  refine WD.one (i := 21) (by kernel_rfl) ?_
  refine id (S.k1 45 (c_impl_ForgetUses w (el (el X m.toNat).tables k) ((((q2 0).mons.2) m.toNat).tables.2 k) (S.rd (LRd.el (RMon.tables (d := (el X m.toNat)) (LRd.el (rd_hdr hq5 (cap_mons o4.rn)) m.toNat (by omega))) k (by omega))) (el (el X m.toNat).guests k).live ((((q2 0).mons.2) m.toNat).guests.2 k).live (S.rd (RGuest.live (d := (el (el X m.toNat).guests k)) (LRd.el (RMon.guests (d := (el X m.toNat)) (LRd.el (rd_hdr hq5 (cap_mons o4.rn)) m.toNat (by omega))) k (by omega)))) page) fun ac w N q10 F11 S up o12 d13 => ?_)
  refine WD.next S up (by kernel_rfl) ?_
  have d14 := Disj.w d13 o4.sub
  replace o4 := o4.up up
  clear up d13
  obtain ⟨F15, F18, o16, o19, s17, s20, d21⟩ := sp_Kept o12
  refine S.hq 22 [22] [] [(45, .v (GT.val (f_forgetUses (el (el X m.toNat).tables k) (el (el X m.toNat).guests k).live page) q10)), (46, .v (pt (((q2 0).mons.2) m.toNat).tables.1.b ((((q2 0).mons.2) m.toNat).tables.1.off + k * 2)))] (.cons (qn (RMon.tables (d := (el X m.toNat)) (LRd.el (rd_hdr hq5 (cap_mons o4.rn)) m.toNat (by omega))) k Tryz.underlying71) .nil) fun ac S => ?_
  refine WD.one (i := 23) (by kernel_rfl) ?_
  obtain ⟨F22, o23, s24, b25⟩ := foc_cap o4 (fun _ o => foc2_Mon_tables o (k := m.toNat) (show m.toNat < X.length by omega))
  change Ow w0 F _ _ F22 (el X m.toNat).tables (((q2 0).mons.2) m.toNat).tables at o23
  have l26 := LRd.le o23.rn
  have n27 := o23.sub
  have o32 := ow_Kept (x := (f_forgetUses (el (el X m.toNat).tables k) (el (el X m.toNat).guests k).live page)) (p := q10) o16 o19 d21 
  refine id (S.sV (α := TKept) o23 (t := 96) (k := k) (off := (((q2 0).mons.2) m.toNat).tables.1.off + k * 2) o32 (Disj.symm (Disj.or (Disj.symm (Disj.part (Disj.symm (Disj.part (Disj.symm d14) s17)) s24)) (Disj.or (Disj.symm (Disj.part (Disj.symm (Disj.part (Disj.symm d14) s20)) s24)) Disj.nob))) fun w N F29 q30 S up o28 d31 s33 n34 => ?_)
  refine WD.last (by kernel_rfl) ?_
  clear d31 o23
  obtain ⟨p35, o36, hq38⟩ := b25 _ _ _ _ _ (uniB [F15, F18]) up o28 s33 (Disj.symm (Disj.or (Disj.part (Disj.symm d14) s17) (Disj.or (Disj.part (Disj.symm d14) s20) Disj.nob))) List.length_set n34
  obtain ⟨X40, hX41⟩ : ∃ z, z = X.set m.toNat { el X m.toNat with tables := ((el X m.toNat).tables.set k (f_forgetUses (el (el X m.toNat).tables k) (el (el X m.toNat).guests k).live page)) } := ⟨_, rfl⟩
  have o39 : Ow w0 F w N (Or F3 F29) [(⟨h.mem, X40, h.buf, h.iobuf⟩ : THost)] ((qh.1, p35) : LP THost) := by rw [hX41]; exact o36
  obtain ⟨l42, e43⟩ := setm_tables hX41 (show m.toNat < X.length by omega) List.length_set
  change (p35 0).mons.1 = (q2 0).mons.1 at hq38
  clear up o28 n34 o36
  refine WD.done (by kernel_rfl) ?_ _
  refine S.ex fun S => ?_
  refine S.ge 6 (.cons (qp (k : Int) 1) .nil) f6 fun ac w β S => hf7.of ((el h.mons m.toNat).guests.length - (k + 1)) _ _ (by omega) ⟨k + 1, X40, p35, (Or F3 F29), _, _, _, rfl, ?_, ?_, S.z, o39, (hq38.trans hq5)⟩
  ·exact oz
  ·clear S; (subst_vars; rw [List.set_set]; simp only [el_set_self (show m.toNat < h.mons.length by omega), f_tabs, tabs_el _ _ _ (Nat.le_refl _)])
 refine S.gd 13 .nil (s.page != (-1)) (fun ac w β h44 g45 S => ?_) (fun ac w β h44 g45 S => ?_)
 ·refine S.go 2 .nil fun ac w β S => ?_
  refine drw ?_
  refine S.draw0 (f := 11) 10 (by kernel_rfl) (by kernel_rfl) fun w S => ?_
  refine S.hq 0 [0] [] [(51, .v (pt qh.1.b (qh.1.off + 0 * 4)))] .nil fun ac S => ?_
  refine S.hq 1 [1] [] [(52, .v (pt qh.1.b (qh.1.off + 0 * 4)))] .nil fun ac S => ?_
  refine S.hq 2 [2] [] [(53, .v (pt qh.1.b (qh.1.off + 0 * 4)))] .nil fun ac S => ?_
  refine S.hq 3 [3] [] [(54, .v (pt qh.1.b (qh.1.off + 0 * 4 + 2)))] .nil fun ac S => ?_
  refine S.hq 4 [4] [] [(55, .v (slv h.buf.length (q2 0).buf.1))] (.cons (Q_cell o4.rn (t := 29) (k := 0) (j := 2) (v := slv h.buf.length (q2 0).buf.1) (Nat.succ_pos 0) (by kernel_rfl) (by kernel_rfl)) .nil) fun ac S => ?_
  refine S.hq 5 [5] [] [(56, .p 0 0)] .nil fun ac S => ?_
  refine S.hq 6 [6] [] [(57, .v (I s.page))] .nil fun ac S => ?_
  refine WD.one (i := 7) (by kernel_rfl) ?_
  refine id (S.k1 58 (c_impl_FlushHost w h.buf (q2 0).buf (S.rd (cap_buf o4.rn)) s.page (RSlot.page (d := s) hs)) fun ac w N q46 F47 S up o48 d49 => ?_)
  refine WD.next S up (by kernel_rfl) ?_
  have d50 := Disj.w d49 o4.sub
  replace o4 := o4.up up
  clear up d49
  refine S.hq 8 [9, 8] [] [(58, .v (slv (f_flushHost h.buf s.page).length q46.1)), (59, .v (pt qh.1.b (qh.1.off + 0 * 4)))] .nil fun ac S => ?_
  refine S.hq 9 [9] [] [(60, .v (pt qh.1.b (qh.1.off + 0 * 4 + 2)))] .nil fun ac S => ?_
  refine WD.one (i := 10) (by kernel_rfl) ?_
  refine id (S.setElE (α := THost) o4 (t := 29) (v := slv (f_flushHost h.buf s.page).length q46.1) (k := 0) (j := 2) (off := qh.1.off + 0 * 4 + 2) (y := (⟨h.mem, X, (f_flushHost h.buf s.page), h.iobuf⟩ : THost)) (q := ({ (q2 0) with buf := q46 } : PHost)) (Fy := F47) (by kernel_rfl) (by kernel_rfl) (Nat.succ_pos 0) (by kernel_rfl) (by kernel_rfl) (Nat.le_of_ble_eq_true (by kernel_rfl)) (by kernel_rfl) (fun G g_ gF => ⟨_, owl_Host_buf g_ o48.own (fun b h h2 => d50 b (gF b h) h2), fun _ h => h⟩) d50 o48.sub o48.young fun w N F52 S up o51 d54 s55 n56 => ?_)
  refine WD.last (by kernel_rfl) ?_
  obtain ⟨q53, o57, hq58⟩ : ∃ q53 : Nat → PHost, Ow w0 F _ _ F52 [(⟨h.mem, X, (f_flushHost h.buf s.page), h.iobuf⟩ : THost)] ((qh.1, q53) : LP THost) ∧ (q53 0).mons.1 = (q2 0).mons.1 := ⟨_, o51, rfl⟩
  clear up d54 o4 o51 s55 n56
  refine WD.done (by kernel_rfl) ?_ _
  refine S.ex fun S => ?_
  refine S.go 1 .nil fun ac w β S => ?_
  refine drw ?_
  refine S.draw0 (f := 11) 10 (by kernel_rfl) (by kernel_rfl) fun w S => ?_
  refine S.hq 0 [0] [] [(61, .v (pt qh.1.b (qh.1.off + 0 * 4)))] .nil fun ac S => ?_
  refine S.hq 1 [1] [] [(62, .v (pt qh.1.b (qh.1.off + 0 * 4)))] .nil fun ac S => ?_
  refine S.hq 2 [2] [] [(63, .v (pt qh.1.b (qh.1.off + 0 * 4)))] .nil fun ac S => ?_
  refine S.hq 3 [3] [] [(64, .v (pt qh.1.b (qh.1.off + 0 * 4 + 3)))] .nil fun ac S => ?_
  refine S.hq 4 [4] [] [(65, .v (slv h.iobuf.length (q53 0).iobuf.1))] (.cons (Q_cell o57.rn (t := 29) (k := 0) (j := 3) (v := slv h.iobuf.length (q53 0).iobuf.1) (Nat.succ_pos 0) (by kernel_rfl) (by kernel_rfl)) .nil) fun ac S => ?_
  refine S.hq 5 [5] [] [(66, .p 0 0)] .nil fun ac S => ?_
  refine S.hq 6 [6] [] [(67, .v (I s.page))] .nil fun ac S => ?_
  refine WD.one (i := 7) (by kernel_rfl) ?_
  refine id (S.k1 68 (c_impl_FlushHost w h.iobuf (q53 0).iobuf (S.rd (cap_iobuf o57.rn)) s.page (RSlot.page (d := s) hs)) fun ac w N q59 F60 S up o61 d62 => ?_)
  refine WD.next S up (by kernel_rfl) ?_
  have d63 := Disj.w d62 o57.sub
  replace o57 := o57.up up
  clear up d62
  refine S.hq 8 [9, 8] [] [(68, .v (slv (f_flushHost h.iobuf s.page).length q59.1)), (69, .v (pt qh.1.b (qh.1.off + 0 * 4)))] .nil fun ac S => ?_
  refine S.hq 9 [9] [] [(70, .v (pt qh.1.b (qh.1.off + 0 * 4 + 3)))] .nil fun ac S => ?_
  refine WD.one (i := 10) (by kernel_rfl) ?_
  refine id (S.setElE (α := THost) o57 (t := 29) (v := slv (f_flushHost h.iobuf s.page).length q59.1) (k := 0) (j := 3) (off := qh.1.off + 0 * 4 + 3) (y := (⟨h.mem, X, (f_flushHost h.buf s.page), (f_flushHost h.iobuf s.page)⟩ : THost)) (q := ({ (q53 0) with iobuf := q59 } : PHost)) (Fy := F60) (by kernel_rfl) (by kernel_rfl) (Nat.succ_pos 0) (by kernel_rfl) (by kernel_rfl) (Nat.le_of_ble_eq_true (by kernel_rfl)) (by kernel_rfl) (fun G g_ gF => ⟨_, owl_Host_iobuf g_ o61.own (fun b h h2 => d63 b (gF b h) h2), fun _ h => h⟩) d63 o61.sub o61.young fun w N F65 S up o64 d67 s68 n69 => ?_)
  refine WD.last (by kernel_rfl) ?_
  obtain ⟨q66, o70, hq71⟩ : ∃ q66 : Nat → PHost, Ow w0 F _ _ F65 [(⟨h.mem, X, (f_flushHost h.buf s.page), (f_flushHost h.iobuf s.page)⟩ : THost)] ((qh.1, q66) : LP THost) ∧ (q66 0).mons.1 = (q53 0).mons.1 := ⟨_, o64, rfl⟩
  clear up d67 o57 o64 s68 n69
  refine WD.done (by kernel_rfl) ?_ _
  refine S.ex fun S => ?_
  refine S.gr 0 .nil [] fun ac w β S => ?_
  exact retC_of S (show f_inval h m page s = (⟨h.mem, X, (f_flushHost h.buf s.page), (f_flushHost h.iobuf s.page)⟩ : THost) from k0_impl_invalidate) (show hdrH _ _ from (hq71.trans (hq58.trans hq5))) o70
 refine S.gr 2 .nil [] fun ac w β S => ?_
 exact retC_of S (show f_inval h m page s = (⟨h.mem, X, h.buf, h.iobuf⟩ : THost) from k0_impl_invalidate) (show hdrH _ _ from hq5) o4

theorem c_impl_send (w0 : World) (h : THost) (qh : LP THost) (F : Bl) (hh : GT.own KK F w0 [h] qh) (hF : ∀ b, F b → b < w0.heap.size) (m : Int) (page : Int) (pre0 : (0 ≤ m ∧ m < h.mons.length) ∧ (el h.mons m.toNat).tables.length = (el h.mons m.toNat).guests.length ∧ (0 ≤ page ∧ page ≤ 7) ∧ (el h.mons m.toNat).outer.length = 8 ∧ (el h.mons m.toNat).out.length = 8) : Calls Tryz.prog 182 [pt qh.1.b (qh.1.off + 0 * 4), I m, I page].toArray w0 (RetC hdrH F qh w0 (packed []) (f_send h m page)) := by
 refine Calls.run F Tryz.func182 ?_
 intro ac β S
 have oh : Ow w0 F w0 (Lt w0.heap.size) F [h] qh := ⟨hh, hF, fun b hb => .inr hb⟩
 refine S.go 25 (.cons (Q_cell oh.rn (t := 28) (k := 0) (j := 1) (v := slv h.mons.length (qh.2 0).mons.1) (Nat.succ_pos 0) (by kernel_rfl) (by kernel_rfl)) (.cons (qt (capx_mons oh.rn) m Tryz.underlying28) (.cons (qc (capx_mons oh.rn) 69 m.toNat 0 (slv (el h.mons m.toNat).outer.length ((qh.2 0).mons.2 m.toNat).outer.1)) (.cons (qt (RMon.outer (d := (el h.mons m.toNat)) (LRd.el (capx_mons oh.rn) m.toNat (by omega))) page Tryz.underlying69) (.cons (qs (RMon.outer (d := (el h.mons m.toNat)) (LRd.el (capx_mons oh.rn) m.toNat (by omega))) 92 page.toNat) .nil))))) fun ac w β S => ?_
 refine drw ?_
 refine S.draw0 (f := 14) 13 (by kernel_rfl) (by kernel_rfl) fun w S => ?_
 refine S.hq 0 [0] [] [(21, .v (pt (qh.2 0).mons.1.b ((qh.2 0).mons.1.off + m.toNat * 9)))] .nil fun ac S => ?_
 refine S.hq 1 [1] [] [(22, .v (pt (qh.2 0).mons.1.b ((qh.2 0).mons.1.off + m.toNat * 9)))] .nil fun ac S => ?_
 refine S.hq 2 [2] [] [(23, .v (pt (qh.2 0).mons.1.b ((qh.2 0).mons.1.off + m.toNat * 9 + 1)))] .nil fun ac S => ?_
 refine S.hq 3 [3] [] [(24, .v (slv (el h.mons m.toNat).out.length ((qh.2 0).mons.2 m.toNat).out.1))] (.cons (qc (capx_mons oh.rn) 22 m.toNat 1 (slv (el h.mons m.toNat).out.length ((qh.2 0).mons.2 m.toNat).out.1)) .nil) fun ac S => ?_
 refine S.hq 4 [4] [] [(25, .v (I page))] .nil fun ac S => ?_
 refine S.hq 5 [5] [] [(26, .v (pt qh.1.b (qh.1.off + 0 * 4)))] .nil fun ac S => ?_
 refine S.hq 6 [6] [] [(27, .v (pt qh.1.b (qh.1.off + 0 * 4)))] .nil fun ac S => ?_
 refine S.hq 7 [7] [] [(28, .v (pt qh.1.b (qh.1.off + 0 * 4)))] .nil fun ac S => ?_
 refine S.hq 8 [8] [] [(29, .v (slv h.mem.length (qh.2 0).mem.1))] (.cons (Q_cell oh.rn (t := 22) (k := 0) (j := 0) (v := slv h.mem.length (qh.2 0).mem.1) (Nat.succ_pos 0) (by kernel_rfl) (by kernel_rfl)) .nil) fun ac S => ?_
 refine S.hq 9 [9] [] [(30, .p 0 0)] .nil fun ac S => ?_
 refine S.hq 10 [10] [] [(31, .v (I (el (el h.mons m.toNat).outer page.toNat).page))] .nil fun ac S => ?_
 refine WD.one (i := 11) (by kernel_rfl) ?_
 refine id (S.k1 32 (c_impl_PageAt w h.mem (qh.2 0).mem (S.rd (capx_mem oh.rn)) (el (el h.mons m.toNat).outer page.toNat).page) fun ac w N q1 F2 S up o3 d4 => ?_)
 refine WD.next S up (by kernel_rfl) ?_
 have d5 := Disj.w d4 oh.sub
 replace oh := oh.up up
 clear up d4
 refine S.hq 12 [12] [] [(32, .v (slv (f_pageAt h.mem (el (el h.mons m.toNat).outer page.toNat).page).length q1.1)), (33, .v (pt ((qh.2 0).mons.2 m.toNat).out.1.b (((qh.2 0).mons.2 m.toNat).out.1.off + page.toNat * 1)))] (.cons (qt (RMon.out (d := (el h.mons m.toNat)) (LRd.el (capx_mons oh.rn) m.toNat (by omega))) page Tryz.underlying22) .nil) fun ac S => ?_
 refine WD.one (i := 13) (by kernel_rfl) ?_
 obtain ⟨F6, o7, s8, b9⟩ := foc_cap oh (fun _ o => foc2_Mon_out o (k := m.toNat) (show m.toNat < h.mons.length by omega))
 change Ow w0 F _ _ F6 (el h.mons m.toNat).out ((qh.2 0).mons.2 m.toNat).out at o7
 have l10 := LRd.le o7.rn
 have n11 := o7.sub
 refine id (S.sV (α := List Int) o7 (t := 61) (k := page.toNat) (off := ((qh.2 0).mons.2 m.toNat).out.1.off + page.toNat * 1) o3 (Disj.symm (Disj.symm (Disj.part d5 s8))) fun w N F13 q14 S up o12 d15 s16 n17 => ?_)
 refine WD.last (by kernel_rfl) ?_
 clear d15 o7
 obtain ⟨p18, o19, hq21⟩ := b9 _ _ _ _ _ F2 up o12 s16 d5 List.length_set n17
 obtain ⟨X23, hX24⟩ : ∃ z, z = h.mons.set m.toNat { el h.mons m.toNat with out := ((el h.mons m.toNat).out.set page.toNat (f_pageAt h.mem (el (el h.mons m.toNat).outer page.toNat).page)) } := ⟨_, rfl⟩
 have o22 : Ow w0 F w N (Or F F13) [(⟨h.mem, X23, h.buf, h.iobuf⟩ : THost)] ((qh.1, p18) : LP THost) := by rw [hX24]; exact o19
 obtain ⟨l25, e26⟩ := setm_out hX24 (show m.toNat < h.mons.length by omega) List.length_set
 change (p18 0).mons.1 = (qh.2 0).mons.1 at hq21
 clear up o12 n17 o19
 refine WD.done (by kernel_rfl) ?_ _
 refine S.ex fun S => ?_
 refine S.go 2 .nil fun ac w β S => ?_
 refine drw ?_
 refine S.draw0 (f := 8) 7 (by kernel_rfl) (by kernel_rfl) fun w S => ?_
 refine S.hq 0 [0] [] [(34, .v (pt (qh.2 0).mons.1.b ((qh.2 0).mons.1.off + m.toNat * 9)))] .nil fun ac S => ?_
 refine S.hq 1 [1] [] [(35, .v (pt (qh.2 0).mons.1.b ((qh.2 0).mons.1.off + m.toNat * 9)))] .nil fun ac S => ?_
 refine S.hq 2 [2] [] [(36, .v (pt (qh.2 0).mons.1.b ((qh.2 0).mons.1.off + m.toNat * 9)))] .nil fun ac S => ?_
 refine S.hq 3 [3] [] [(37, .v (slv (el X23 m.toNat).outer.length (((p18 0).mons.2) m.toNat).outer.1))] (.cons (qc (rd_hdr hq21 (cap_mons o22.rn)) 69 m.toNat 0 (slv (el X23 m.toNat).outer.length (((p18 0).mons.2) m.toNat).outer.1)) .nil) fun ac S => ?_
 refine S.hq 4 [4] [] [(38, .v (I page))] .nil fun ac S => ?_
 refine WD.one (i := 5) (by kernel_rfl) ?_
 refine S.stepq (i := 5) (keep := [0, 1, 2, 7, 37, 38, 39]) (m := 1) (σ' := ⟨[(0, .v (pt qh.1.b (qh.1.off + 0 * 4))), (1, .v (I m)), (2, .v (I page)), (7, .p 0 0), (37, .v (slv (el X23 m.toNat).outer.length (((p18 0).mons.2) m.toNat).outer.1)), (38, .v (I page)), (39, .v (GT.val (⟨-1, 0⟩ : TSlot) ()))], [GT.cells (el (el h.mons m.toNat).outer page.toNat) ()]⟩) (.cons (Q_call fun w hw => c_impl_NoSlot w ) .nil) (by kernel_rfl) fun ac w β S hβ => ?_
 refine WD.stayq S hβ ?_
 clear hβ
 refine S.hq 6 [6] [] [(40, .v (pt (((p18 0).mons.2) m.toNat).outer.1.b ((((p18 0).mons.2) m.toNat).outer.1.off + page.toNat * 2)))] (.cons (qt (RMon.outer (d := (el X23 m.toNat)) (LRd.el (rd_hdr hq21 (cap_mons o22.rn)) m.toNat (by omega))) page Tryz.underlying69) .nil) fun ac S => ?_
 refine WD.one (i := 7) (by kernel_rfl) ?_
 obtain ⟨F27, o28, s29, b30⟩ := foc_cap o22 (fun _ o => foc2_Mon_outer o (k := m.toNat) (show m.toNat < X23.length by omega))
 change Ow w0 F _ _ F27 (el X23 m.toNat).outer (((p18 0).mons.2) m.toNat).outer at o28
 have l31 := LRd.le o28.rn
 have n32 := o28.sub
 have e33 : RSlot (el (el X23 m.toNat).outer page.toNat) := (LRd.el o28.rn page.toNat (by omega))
 refine id (S.sF (α := TSlot) o28 (t := 92) (k := page.toNat) (j := 0) (off := (((p18 0).mons.2) m.toNat).outer.1.off + page.toNat * 2) (v := GT.val (⟨-1, 0⟩ : TSlot) ()) (y := (⟨-1, 0⟩ : TSlot)) (q := ()) (fun _ _ _ => ⟨NoB, (show RSlot ⟨-1, 0⟩ from ⟨⟨by decide, by decide⟩, ⟨by decide, by decide⟩⟩), fun _ h => False.elim h⟩) fun w N F35 q36 S up o34 d37 s38 n39 => ?_)
 refine WD.last (by kernel_rfl) ?_
 clear d37 o28
 obtain ⟨p40, o41, hq43⟩ := b30 _ _ _ _ _ NoB up o34 s38 (fun b _ h => False.elim h) List.length_set n39
 obtain ⟨X45, hX46⟩ : ∃ z, z = X23.set m.toNat { el X23 m.toNat with outer := ((el X23 m.toNat).outer.set page.toNat (⟨-1, 0⟩ : TSlot)) } := ⟨_, rfl⟩
 have o44 : Ow w0 F w N (Or (Or F F13) F35) [(⟨h.mem, X45, h.buf, h.iobuf⟩ : THost)] ((qh.1, p40) : LP THost) := by rw [hX46]; exact o41
 obtain ⟨l47, e48⟩ := setm_outer hX46 (show m.toNat < X23.length by omega) List.length_set
 change (p40 0).mons.1 = (p18 0).mons.1 at hq43
 clear up o34 n39 o41
 refine WD.done (by kernel_rfl) ?_ _
 refine S.ex fun S => ?_
 refine S.go 6 .nil fun ac w β S => S.KC (d := 45) o44 (c_impl_invalidate w (⟨h.mem, X45, h.buf, h.iobuf⟩ : THost) ((qh.1, p40) : LP THost) (Or (Or F F13) F35) (S.ownw o44) (fun b hb => (S.sep b (o44.sub b hb)).1) m page (el (el h.mons m.toNat).outer page.toNat) (LRd.el (RMon.outer (d := (el h.mons m.toNat)) (LRd.el (capx_mons oh.rn) m.toNat (by omega))) page.toNat (by omega)) (by (first | omega | (dsimp only; omega)))) fun ac w N p49 F50 S up o51 d53 hq52 => ?_
 change (p49 0).mons.1 = (p40 0).mons.1 at hq52
 clear up d53 o44
 obtain ⟨Y54, hY55⟩ : ∃ z, z = (f_inval (⟨h.mem, X45, h.buf, h.iobuf⟩ : THost) m page (el (el h.mons m.toNat).outer page.toNat)) := ⟨_, rfl⟩
 have o56 : Ow w0 F w N F50 [Y54] ((qh.1, p49) : LP THost) := by rw [hY55]; exact o51
 clear o51
 have l57 := inval_bd hY55 (by first | omega | (dsimp only; omega))
 try dsimp only at l57
 refine S.gr 1 .nil [] fun ac w β S => ?_
 exact retC_of S (show f_send h m page = Y54 by clear S; (first | (subst_vars; rfl) | (subst_vars; simp [f_send, f_setM, f_slotTo, f_inval, el_set_self, *]; done))) (show hdrH _ _ from (hq52.trans (hq43.trans hq21))) o56

theorem c_impl_sendFirst (w0 : World) (h : THost) (qh : LP THost) (F : Bl) (hh : GT.own KK F w0 [h] qh) (hF : ∀ b, F b → b < w0.heap.size) (pre0 : f_hostOk h = true) (pre1 : ¬ 0 < (f_freeIn h).length) : Calls Tryz.prog 155 [pt qh.1.b (qh.1.off + 0 * 4)].toArray w0 (RetC hdrH F qh w0 (packed []) (f_sendFirst h)) := by
 refine Calls.run F Tryz.func155 ?_
 intro ac β S
 have oh : Ow w0 F w0 (Lt w0.heap.size) F [h] qh := ⟨hh, hF, fun b hb => .inr hb⟩
 have hsp := sendFirst_pre (h := h) (by assumption) (by assumption)
 refine S.go 17 (.cons (Q_el oh.rn (t := 31) (k := 0) (Nat.succ_pos 0) rfl (by kernel_rfl) (by kernel_rfl)) (.cons (Q_call fun w hw => c_impl_OwnerOfPage w h (qh.2 0) (rd_of (show GT.rd KK _ _ h (qh.2 0) from LRd.el oh.rn 0 (Nat.succ_pos 0)) hw) 0) .nil)) fun ac w β S => S.KC (d := 14) oh (c_impl_send w h qh F (S.ownw oh) (fun b hb => (S.sep b (oh.sub b hb)).1) (f_ownerOfPage h 0).1 (f_ownerOfPage h 0).2 (by (first | omega | (dsimp only; omega)))) fun ac w N p1 F2 S up o3 d5 hq4 => ?_
 change (p1 0).mons.1 = (qh.2 0).mons.1 at hq4
 clear up d5 oh
 obtain ⟨Y6, hY7⟩ : ∃ z, z = (f_send h (f_ownerOfPage h 0).1 (f_ownerOfPage h 0).2) := ⟨_, rfl⟩
 have o8 : Ow w0 F w N F2 [Y6] ((qh.1, p1) : LP THost) := by rw [hY7]; exact o3
 clear o3
 refine S.gr 1 .nil [] fun ac w β S => ?_
 exact retC_of S (show f_sendFirst h = Y6 by clear S; (subst_vars; rfl)) (show hdrH _ _ from hq4) o8

theorem k0_impl_WithPage {p : Prop} (h : p := by clear S; (unfold f_withPage; (repeat' split) <;> first | rfl | (simp; done) | (exfalso; omega) | (exfalso; simp_all; done) | (exfalso; simp_all; omega))) : p := h
theorem c_impl_WithPage (w0 : World) (m : List (List Int)) (pm : LP (List Int)) (hm : RD w0 m pm) (page : Int) (cells : List Int) (pcells : LP Int) (hcells : RD w0 cells pcells) : Calls Tryz.prog 156 [slv m.length pm.1, I page, slv cells.length pcells.1].toArray w0 (Ret1 NoB w0 (f_withPage m page cells : List (List Int))) := by
 refine Calls.run NoB Tryz.func156 ?_
 intro ac β S
 have hlem : m.length ≤ 4194304 := LRd.le hm
 have hlecells : cells.length ≤ 4194304 := LRd.le hcells
 refine S.go 8 .nil fun ac w β S => S.K1 (r := m) (d := 9) (c_impl_copyMem w m pm (S.rd (S.arg hm))) fun ac w N q1 F2 S up o3 d4 => ?_
 clear up d4
 refine S.gb 11 (.cons (Q_call fun w hw => c_impl_has w page (m.length : Int) (by omega)) .nil) (f_within page 0 ((m.length : Int) - 1)) (fun ac w β h5 S => ?_) (fun ac w β h5 S => ?_)
 ·have g6 := within_t h5
  refine S.gb 5 (.cons (Q_call fun w hw => c_impl_PageOk w cells pcells (rd_of (S.arg hcells) hw)) .nil) (f_pageOk cells) (fun ac w β h7 S => ?_) (fun ac w β h7 S => ?_)
  ·refine S.go 5 .nil fun ac w β S => S.K1 (r := cells) (d := 21) (c_impl_copyInts w cells pcells (S.rd (S.arg hcells))) fun ac w N q8 F9 S up o10 d11 => ?_
   have d12 := Disj.w d11 o3.sub
   replace o3 := o3.up up
   clear up d11
   refine S.go 1 (.cons (qt o3.rn page Tryz.underlying22) .nil) fun ac w β S => S.SV (α := List Int) o3 (t := 61) (k := page.toNat) (off := q1.1.off + page.toNat * 1) o10 d12 fun w N F14 q15 S up o13 d16 s17 n18 => ?_
   clear up d16 o3 n18
   have l19 : (m.set page.toNat cells).length = m.length := List.length_set
   refine S.gr 9 .nil [slv m.length q1.1] fun ac w β S => ?_
   exact ret1_of S (show f_withPage m page cells = (m.set page.toNat cells) from k0_impl_WithPage) (by rw [show m.length = (m.set page.toNat cells).length from (by rw [List.length_set])]; rfl) o13
  refine S.gr 10 .nil [slv m.length q1.1] fun ac w β S => ?_
  exact ret1_of S (show f_withPage m page cells = m from k0_impl_WithPage) rfl o3
 have g20 := within_f h5
 refine S.gr 15 .nil [slv m.length q1.1] fun ac w β S => ?_
 exact ret1_of S (show f_withPage m page cells = m from k0_impl_WithPage) rfl o3

theorem c_impl_fetch (w0 : World) (h : THost) (qh : LP THost) (F : Bl) (hh : GT.own KK F w0 [h] qh) (hF : ∀ b, F b → b < w0.heap.size) (m : Int) (page : Int) (pre0 : f_hasPage h m page = true) : Calls Tryz.prog 119 [pt qh.1.b (qh.1.off + 0 * 4), I m, I page].toArray w0 (RetC hdrH F qh w0 (packed []) (f_fetch h m page)) := by
 refine Calls.run F Tryz.func119 ?_
 intro ac β S
 have oh : Ow w0 F w0 (Lt w0.heap.size) F [h] qh := ⟨hh, hF, fun b hb => .inr hb⟩
 have hp := hasPage_t (h := h) (m := m) (page := page) (by assumption)
 refine S.go 6 (.cons (Q_el oh.rn (t := 31) (k := 0) (Nat.succ_pos 0) rfl (by kernel_rfl) (by kernel_rfl)) .nil) fun ac w β S => S.K1 (r := f_freeIn h) (d := 12) (c_impl_FreeIn w h (qh.2 0) (S.rd (show GT.rd KK _ _ h (qh.2 0) from LRd.el oh.rn 0 (Nat.succ_pos 0)))) fun ac w N q1 F2 S up o3 d4 => ?_
 have d5 := Disj.w d4 oh.sub
 replace oh := oh.up up
 clear up d4
 refine S.go 4 .nil fun ac w β S => ?_
 refine cutC S (fun ac w => ∃ (J1 : THost) (q6 : Nat → PHost) (F7 : Bl) (u : _) (N : _) (β : _), (J1 = f_room h) ∧ (q6 0).mons.1 = (qh.2 0).mons.1 ∧ St Tryz.prog Tryz.f119.ntmps w0 F u N β ⟨[(0, .v (pt qh.1.b (qh.1.off + 0 * 4))), (1, .v (I m)), (2, .v (I page))], []⟩ ac w ∧ Ow w0 F u N F7 ([J1]) ((qh.1, q6) : LP THost)) ?_ ?_
 ·clear S; intro S
  refine S.gd 0 .nil (((f_freeIn h).length : Int) == 0) (fun ac w β h10 g11 S => ?_) (fun ac w β h10 g11 S => ?_)
  ·refine S.go 3 .nil fun ac w β S => S.KC (d := 16) oh (c_impl_sendFirst w h qh F (S.ownw oh) (fun b hb => (S.sep b (oh.sub b hb)).1) (by (first | assumption | exact hasPage_ok (by assumption) | omega | (dsimp only; omega))) (by (first | assumption | exact hasPage_ok (by assumption) | omega | (dsimp only; omega)))) fun ac w N p12 F13 S up o14 d16 hq15 => ?_
   change (p12 0).mons.1 = (qh.2 0).mons.1 at hq15
   clear up d16 oh
   obtain ⟨Y17, hY18⟩ : ∃ z, z = (f_sendFirst h) := ⟨_, rfl⟩
   have o19 : Ow w0 F w N F13 [Y17] ((qh.1, p12) : LP THost) := by rw [hY18]; exact o14
   clear o14
   have l20 := sendFirst_bd hY18 (hasPage_ok (by assumption)) (by omega) m.toNat
   try dsimp only at l20
   exact S.gn 1 .nil fun ac w β S => ⟨rfl, Y17, p12, F13, _, _, _, (by clear S; first | exact room_y (by assumption) (by omega) | exact room_n (by omega)), hq15, S.z, o19⟩
  exact S.gn 2 .nil fun ac w β S => ⟨rfl, h, qh.2, F, _, _, _, (by clear S; first | exact room_y (by assumption) (by omega) | exact room_n (by omega)), rfl, S.z, oh⟩
 clear S oh o3
 rintro ac w ⟨J1, q6, F7, u, N, β, hJ1, hq9, S, o8⟩
 have hr := room_bd2 hJ1 (by assumption)
 refine S.ex fun S => ?_
 refine S.go 17 (.cons (Q_cell o8.rn (t := 28) (k := 0) (j := 1) (v := slv J1.mons.length (q6 0).mons.1) (Nat.succ_pos 0) (by kernel_rfl) (by kernel_rfl)) (.cons (qt (capx_mons o8.rn) m Tryz.underlying28) (.cons (Q_el o8.rn (t := 31) (k := 0) (Nat.succ_pos 0) rfl (by kernel_rfl) (by kernel_rfl)) .nil))) fun ac w β S => S.K1 (r := f_freeIn J1) (d := 26) (c_impl_FreeIn w J1 (q6 0) (S.rd (show GT.rd KK _ _ J1 (q6 0) from LRd.el o8.rn 0 (Nat.succ_pos 0)))) fun ac w N q21 F22 S up o23 d24 => ?_
 have d25 := Disj.w d24 o8.sub
 replace o8 := o8.up up
 clear up d24
 have i26 : In64 (el (f_freeIn J1) 0) := (LRd.el o23.rn 0 (by omega))
 refine S.go 6 (.cons (qn o23.rn 0 Tryz.underlying61) (.cons (qx o23.rn 3 0) .nil)) fun ac w β S => ?_
 refine drw ?_
 refine S.draw0 (f := 17) 16 (by kernel_rfl) (by kernel_rfl) fun w S => ?_
 refine S.hq 0 [0] [] [(29, .v (pt qh.1.b (qh.1.off + 0 * 4)))] .nil fun ac S => ?_
 refine S.hq 1 [1] [] [(30, .v (pt qh.1.b (qh.1.off + 0 * 4)))] .nil fun ac S => ?_
 refine S.hq 2 [2] [] [(31, .v (pt qh.1.b (qh.1.off + 0 * 4)))] .nil fun ac S => ?_
 refine S.hq 3 [3] [] [(32, .v (pt qh.1.b (qh.1.off + 0 * 4)))] .nil fun ac S => ?_
 refine S.hq 4 [4] [] [(33, .v (slv J1.mem.length (q6 0).mem.1))] (.cons (Q_cell o8.rn (t := 22) (k := 0) (j := 0) (v := slv J1.mem.length (q6 0).mem.1) (Nat.succ_pos 0) (by kernel_rfl) (by kernel_rfl)) .nil) fun ac S => ?_
 refine S.hq 5 [5] [] [(34, .v (I (el (f_freeIn J1) 0)))] .nil fun ac S => ?_
 refine S.hq 6 [6] [] [(35, .v (pt (q6 0).mons.1.b ((q6 0).mons.1.off + m.toNat * 9)))] .nil fun ac S => ?_
 refine S.hq 7 [7] [] [(36, .v (pt (q6 0).mons.1.b ((q6 0).mons.1.off + m.toNat * 9)))] .nil fun ac S => ?_
 refine S.hq 8 [8] [] [(37, .v (pt (q6 0).mons.1.b ((q6 0).mons.1.off + m.toNat * 9 + 1)))] .nil fun ac S => ?_
 refine S.hq 9 [9] [] [(38, .v (slv (el J1.mons m.toNat).out.length ((q6 0).mons.2 m.toNat).out.1))] (.cons (qc (capx_mons o8.rn) 22 m.toNat 1 (slv (el J1.mons m.toNat).out.length ((q6 0).mons.2 m.toNat).out.1)) .nil) fun ac S => ?_
 refine S.hq 10 [10] [] [(39, .v (I page))] .nil fun ac S => ?_
 refine S.hq 11 [11] [] [(40, .v (pt ((q6 0).mons.2 m.toNat).out.1.b (((q6 0).mons.2 m.toNat).out.1.off + page.toNat * 1)))] (.cons (qt (RMon.out (d := (el J1.mons m.toNat)) (LRd.el (capx_mons o8.rn) m.toNat (by omega))) page Tryz.underlying22) .nil) fun ac S => ?_
 refine S.hq 12 [12] [] [(41, .v (slv (el (el J1.mons m.toNat).out page.toNat).length (((q6 0).mons.2 m.toNat).out.2 page.toNat).1))] (.cons (qx (RMon.out (d := (el J1.mons m.toNat)) (LRd.el (capx_mons o8.rn) m.toNat (by omega))) 61 page.toNat) .nil) fun ac S => ?_
 refine WD.one (i := 13) (by kernel_rfl) ?_
 refine id (S.k1 42 (c_impl_WithPage w J1.mem (q6 0).mem (S.rd (capx_mem o8.rn)) (el (f_freeIn J1) 0) (el (el J1.mons m.toNat).out page.toNat) (((q6 0).mons.2 m.toNat).out.2 page.toNat) (S.rd (LRd.el (RMon.out (d := (el J1.mons m.toNat)) (LRd.el (capx_mons o8.rn) m.toNat (by omega))) page.toNat (by omega)))) fun ac w N q27 F28 S up o29 d30 => ?_)
 refine WD.next S up (by kernel_rfl) ?_
 have d31 := Disj.w d30 o8.sub
 replace o8 := o8.up up
 clear up d30
 refine S.hq 14 [15, 14] [] [(42, .v (slv (f_withPage J1.mem (el (f_freeIn J1) 0) (el (el J1.mons m.toNat).out page.toNat)).length q27.1)), (43, .v (pt qh.1.b (qh.1.off + 0 * 4)))] .nil fun ac S => ?_
 refine S.hq 15 [15] [] [(44, .v (pt qh.1.b (qh.1.off + 0 * 4)))] .nil fun ac S => ?_
 refine WD.one (i := 16) (by kernel_rfl) ?_
 refine id (S.setElE (α := THost) o8 (t := 22) (v := slv (f_withPage J1.mem (el (f_freeIn J1) 0) (el (el J1.mons m.toNat).out page.toNat)).length q27.1) (k := 0) (j := 0) (off := qh.1.off + 0 * 4) (y := (⟨(f_withPage J1.mem (el (f_freeIn J1) 0) (el (el J1.mons m.toNat).out page.toNat)), J1.mons, J1.buf, J1.iobuf⟩ : THost)) (q := ({ (q6 0) with mem := q27 } : PHost)) (Fy := F28) (by kernel_rfl) (by kernel_rfl) (Nat.succ_pos 0) (by kernel_rfl) (by kernel_rfl) (Nat.le_of_ble_eq_true (by kernel_rfl)) (by kernel_rfl) (fun G g_ gF => ⟨_, owl_Host_mem g_ o29.own (fun b h h2 => d31 b (gF b h) h2), fun _ h => h⟩) d31 o29.sub o29.young fun w N F33 S up o32 d35 s36 n37 => ?_)
 refine WD.last (by kernel_rfl) ?_
 obtain ⟨q34, o38, hq39⟩ : ∃ q34 : Nat → PHost, Ow w0 F _ _ F33 [(⟨(f_withPage J1.mem (el (f_freeIn J1) 0) (el (el J1.mons m.toNat).out page.toNat)), J1.mons, J1.buf, J1.iobuf⟩ : THost)] ((qh.1, q34) : LP THost) ∧ (q34 0).mons.1 = (q6 0).mons.1 := ⟨_, o32, rfl⟩
 clear up d35 o8 o32 s36 n37
 refine WD.done (by kernel_rfl) ?_ _
 refine S.ex fun S => ?_
 refine S.go 8 (.cons (qc (rd_hdr hq39 (cap_mons o38.rn)) 22 m.toNat 1 (slv (el J1.mons m.toNat).out.length (((q34 0).mons.2) m.toNat).out.1)) .nil) fun ac w β S => S.B0 (α := Int) (d := 50) fun ac w N q40 F41 S up o42 d43 => ?_
 have d44 := Disj.w d43 o38.sub
 replace o38 := o38.up up
 clear up d43
 obtain ⟨F45, o46, s47, b48⟩ := foc_cap o38 (fun _ o => foc2_Mon_out o (k := m.toNat) (show m.toNat < J1.mons.length by omega))
 change Ow w0 F _ _ F45 (el J1.mons m.toNat).out (((q34 0).mons.2) m.toNat).out at o46
 have l49 := LRd.le o46.rn
 have n50 := o46.sub
 refine S.go 1 (.cons (qt (RMon.out (d := (el J1.mons m.toNat)) (LRd.el (rd_hdr hq39 (cap_mons o38.rn)) m.toNat (by omega))) page Tryz.underlying22) .nil) fun ac w β S => S.SV (α := List Int) o46 (t := 61) (k := page.toNat) (off := (((q34 0).mons.2) m.toNat).out.1.off + page.toNat * 1) o42 (Disj.symm (Disj.symm (Disj.part d44 s47))) fun w N F52 q53 S up o51 d54 s55 n56 => ?_
 clear d54 o46
 obtain ⟨p57, o58, hq60⟩ := b48 _ _ _ _ _ F41 up o51 s55 d44 List.length_set n56
 obtain ⟨X62, hX63⟩ : ∃ z, z = J1.mons.set m.toNat { el J1.mons m.toNat with out := ((el J1.mons m.toNat).out.set page.toNat ([] : List Int)) } := ⟨_, rfl⟩
 have o61 : Ow w0 F w N (Or F33 F52) [(⟨(f_withPage J1.mem (el (f_freeIn J1) 0) (el (el J1.mons m.toNat).out page.toNat)), X62, J1.buf, J1.iobuf⟩ : THost)] ((qh.1, p57) : LP THost) := by rw [hX63]; exact o58
 obtain ⟨l64, e65⟩ := setm_out hX63 (show m.toNat < J1.mons.length by omega) List.length_set
 change (p57 0).mons.1 = (q34 0).mons.1 at hq60
 clear up o51 n56 o58
 obtain ⟨F66, o67, s68, b69⟩ := foc_cap o61 (fun _ o => foc2_Mon_outer o (k := m.toNat) (show m.toNat < X62.length by omega))
 change Ow w0 F _ _ F66 (el X62 m.toNat).outer (((p57 0).mons.2) m.toNat).outer at o67
 have l70 := LRd.le o67.rn
 have n71 := o67.sub
 have e72 : RSlot (el (el X62 m.toNat).outer page.toNat) := (LRd.el o67.rn page.toNat (by omega))
 refine S.go 25 (.cons (qc (rd_hdr (hq60.trans hq39) (cap_mons o61.rn)) 69 m.toNat 0 (slv (el X62 m.toNat).outer.length (((p57 0).mons.2) m.toNat).outer.1)) (.cons (qt (RMon.outer (d := (el X62 m.toNat)) (LRd.el (rd_hdr (hq60.trans hq39) (cap_mons o61.rn)) m.toNat (by omega))) page Tryz.underlying69) (.cons (qs (RMon.outer (d := (el X62 m.toNat)) (LRd.el (rd_hdr (hq60.trans hq39) (cap_mons o61.rn)) m.toNat (by omega))) 92 page.toNat) (.cons (qc (rd_hdr (hq60.trans hq39) (cap_mons o61.rn)) 69 m.toNat 0 (slv (el X62 m.toNat).outer.length (((p57 0).mons.2) m.toNat).outer.1)) (.cons (Q_sem (s := Instr.build 92 [(0, I (el (f_freeIn J1) 0)), (1, I 3)].toArray) (v := .agg [I (el (f_freeIn J1) 0), I 3].toArray) (fun w => by kernel_rfl)) (.cons (qt (RMon.outer (d := (el X62 m.toNat)) (LRd.el (rd_hdr (hq60.trans hq39) (cap_mons o61.rn)) m.toNat (by omega))) page Tryz.underlying69) .nil)))))) fun ac w β S => S.SF (α := TSlot) o67 (t := 92) (k := page.toNat) (j := 0) (off := (((p57 0).mons.2) m.toNat).outer.1.off + page.toNat * 2) (v := GT.val (⟨(el (f_freeIn J1) 0), 3⟩ : TSlot) ()) (y := (⟨(el (f_freeIn J1) 0), 3⟩ : TSlot)) (q := ()) (fun _ _ _ => ⟨NoB, (show RSlot (⟨(el (f_freeIn J1) 0), 3⟩ : TSlot) from ⟨i26, (show In64 3 from ⟨by decide, by decide⟩)⟩), fun _ h => False.elim h⟩) fun w N F74 q75 S up o73 d76 s77 n78 => ?_
 clear d76 o67
 obtain ⟨p79, o80, hq82⟩ := b69 _ _ _ _ _ NoB up o73 s77 (fun b _ h => False.elim h) List.length_set n78
 obtain ⟨X84, hX85⟩ : ∃ z, z = X62.set m.toNat { el X62 m.toNat with outer := ((el X62 m.toNat).outer.set page.toNat (⟨(el (f_freeIn J1) 0), 3⟩ : TSlot)) } := ⟨_, rfl⟩
 have o83 : Ow w0 F w N (Or (Or F33 F52) F74) [(⟨(f_withPage J1.mem (el (f_freeIn J1) 0) (el (el J1.mons m.toNat).out page.toNat)), X84, J1.buf, J1.iobuf⟩ : THost)] ((qh.1, p79) : LP THost) := by rw [hX85]; exact o80
 obtain ⟨l86, e87⟩ := setm_outer hX85 (show m.toNat < X62.length by omega) List.length_set
 change (p79 0).mons.1 = (p57 0).mons.1 at hq82
 clear up o73 n78 o80
 refine S.go 7 .nil fun ac w β S => S.KC (d := 71) o83 (c_impl_invalidate w (⟨(f_withPage J1.mem (el (f_freeIn J1) 0) (el (el J1.mons m.toNat).out page.toNat)), X84, J1.buf, J1.iobuf⟩ : THost) ((qh.1, p79) : LP THost) (Or (Or F33 F52) F74) (S.ownw o83) (fun b hb => (S.sep b (o83.sub b hb)).1) m page (el (el X62 m.toNat).outer page.toNat) (LRd.el (RMon.outer (d := (el X62 m.toNat)) (LRd.el (rd_hdr (hq60.trans hq39) (cap_mons o61.rn)) m.toNat (by omega))) page.toNat (by omega)) (by (first | omega | (dsimp only; omega)))) fun ac w N p88 F89 S up o90 d92 hq91 => ?_
 change (p88 0).mons.1 = (p79 0).mons.1 at hq91
 clear up d92 o83
 obtain ⟨Y93, hY94⟩ : ∃ z, z = (f_inval (⟨(f_withPage J1.mem (el (f_freeIn J1) 0) (el (el J1.mons m.toNat).out page.toNat)), X84, J1.buf, J1.iobuf⟩ : THost) m page (el (el X62 m.toNat).outer page.toNat)) := ⟨_, rfl⟩
 have o95 : Ow w0 F w N F89 [Y93] ((qh.1, p88) : LP THost) := by rw [hY94]; exact o90
 clear o90
 have l96 := inval_bd hY94 (by first | omega | (dsimp only; omega))
 try dsimp only at l96
 refine S.gr 1 .nil [] fun ac w β S => ?_
 exact retC_of S (show f_fetch h m page = Y93 by clear S; (unfold f_fetch; first | (subst_vars; rfl) | (subst_vars; simp [f_putIn, f_setM, f_slotTo, f_inval, el_set_self, *]; done))) (show hdrH _ _ from (hq91.trans (hq82.trans (hq60.trans (hq39.trans hq9))))) o95

theorem k0_impl_mend {p : Prop} (h : p := by clear S; (first | (rw [mend_n (by assumption) hJ1.symm (by assumption)]; done) | (rw [mend_w (by assumption) hJ1.symm (by assumption) (by assumption) (by assumption)]; done) | (exact mend_i (by assumption) hJ1.symm (by assumption) (by assumption) (by assumption) (by assumption) rfl (by assumption)))) : p := h
theorem c_impl_mend (w0 : World) (h : THost) (qh : LP THost) (F : Bl) (hh : GT.own KK F w0 [h] qh) (hF : ∀ b, F b → b < w0.heap.size) (m : Int) (page : Int) (need : Int) (pre0 : f_hasPage h m page = true) : Calls Tryz.prog 73 [pt qh.1.b (qh.1.off + 0 * 4), I m, I page, I need].toArray w0 (RetC hdrH F qh w0 (packed []) (f_mend h m page need)) := by
 refine Calls.run F Tryz.func73 ?_
 intro ac β S
 have oh : Ow w0 F w0 (Lt w0.heap.size) F [h] qh := ⟨hh, hF, fun b hb => .inr hb⟩
 have hp := hasPage_t (h := h) (m := m) (page := page) (by assumption)
 have i1 : In64 (el (el h.mons m.toNat).outer page.toNat).page := (RSlot.page (d := (el (el h.mons m.toNat).outer page.toNat)) (LRd.el (RMon.outer (d := (el h.mons m.toNat)) (LRd.el (capx_mons oh.rn) m.toNat (by omega))) page.toNat (by omega)))
 refine S.go 18 (.cons (Q_cell oh.rn (t := 28) (k := 0) (j := 1) (v := slv h.mons.length (qh.2 0).mons.1) (Nat.succ_pos 0) (by kernel_rfl) (by kernel_rfl)) (.cons (qt (capx_mons oh.rn) m Tryz.underlying28) (.cons (qc (capx_mons oh.rn) 69 m.toNat 0 (slv (el h.mons m.toNat).outer.length ((qh.2 0).mons.2 m.toNat).outer.1)) (.cons (qt (RMon.outer (d := (el h.mons m.toNat)) (LRd.el (capx_mons oh.rn) m.toNat (by omega))) page Tryz.underlying69) (.cons (qc (RMon.outer (d := (el h.mons m.toNat)) (LRd.el (capx_mons oh.rn) m.toNat (by omega))) 3 page.toNat 0 (I (el (el h.mons m.toNat).outer page.toNat).page)) .nil))))) fun ac w β S => ?_
 refine cutC S (fun ac w => ∃ (J1 : THost) (q2 : Nat → PHost) (F3 : Bl) (u : _) (N : _) (β : _), (J1 = f_mid h m page) ∧ (q2 0).mons.1 = (qh.2 0).mons.1 ∧ St Tryz.prog Tryz.f73.ntmps w0 F u N β ⟨[(0, .v (pt qh.1.b (qh.1.off + 0 * 4))), (1, .v (I m)), (2, .v (I page)), (3, .v (I need))], []⟩ ac w ∧ Ow w0 F u N F3 ([J1]) ((qh.1, q2) : LP THost)) ?_ ?_
 ·clear S; intro S
  refine S.gd 0 .nil ((el (el h.mons m.toNat).outer page.toNat).page == (-1)) (fun ac w β h6 g7 S => ?_) (fun ac w β h6 g7 S => ?_)
  ·refine S.go 5 .nil fun ac w β S => S.KC (d := 26) oh (c_impl_fetch w h qh F (S.ownw oh) (fun b hb => (S.sep b (oh.sub b hb)).1) m page (by (first | assumption | exact hasPage_ok (by assumption) | omega | (dsimp only; omega)))) fun ac w N p8 F9 S up o10 d12 hq11 => ?_
   change (p8 0).mons.1 = (qh.2 0).mons.1 at hq11
   clear up d12 oh
   obtain ⟨Y13, hY14⟩ : ∃ z, z = (f_fetch h m page) := ⟨_, rfl⟩
   have o15 : Ow w0 F w N F9 [Y13] ((qh.1, p8) : LP THost) := by rw [hY14]; exact o10
   clear o10
   have l16 := fetch_bd hY14 (by assumption)
   try dsimp only at l16
   exact S.gn 1 .nil fun ac w β S => ⟨rfl, Y13, p8, F9, _, _, _, (by clear S; first | exact (mid_out (by assumption) (by assumption)).symm | exact (mid_in (by assumption)).symm | exact mid_outY (by assumption) (of_decide_eq_true (by assumption)) | exact (mid_inS (by assumption) (of_decide_eq_false (by assumption))).symm | exact mid_outY (by assumption) (by assumption) | exact (mid_inS (by assumption) (by assumption)).symm), hq11, S.z, o15⟩
  exact S.gn 2 .nil fun ac w β S => ⟨rfl, h, qh.2, F, _, _, _, (by clear S; first | exact (mid_out (by assumption) (by assumption)).symm | exact (mid_in (by assumption)).symm | exact mid_outY (by assumption) (of_decide_eq_true (by assumption)) | exact (mid_inS (by assumption) (of_decide_eq_false (by assumption))).symm | exact mid_outY (by assumption) (by assumption) | exact (mid_inS (by assumption) (by assumption)).symm), rfl, S.z, oh⟩
 clear S oh
 rintro ac w ⟨J1, q2, F3, u, N, β, hJ1, hq5, S, o4⟩
 have hr := mid_bd hJ1 (by assumption)
 refine S.ex fun S => ?_
 refine S.gb 9 (.cons (Q_call fun w hw => c_impl_Enough w need 2) .nil) (!(f_enough need 2)) (fun ac w β h17 S => ?_) (fun ac w β h17 S => ?_)
 ·have h18 := not_t h17
  refine S.gr 2 .nil [] fun ac w β S => ?_
  exact retC_of S (show f_mend h m page need = J1 from k0_impl_mend) (show hdrH _ _ from hq5) o4
 have h19 := not_f h17
 have g20 := enough_t h19
 obtain ⟨F21, o22, s23, b24⟩ := foc_cap o4 (fun _ o => foc2_Mon_dirty o (k := m.toNat) (show m.toNat < J1.mons.length by omega))
 change Ow w0 F _ _ F21 (el J1.mons m.toNat).dirty ((q2 0).mons.2 m.toNat).dirty at o22
 have l25 := LRd.le o22.rn
 have n26 := o22.sub
 refine S.go 22 (.cons (Q_cell o4.rn (t := 28) (k := 0) (j := 1) (v := slv J1.mons.length (q2 0).mons.1) (Nat.succ_pos 0) (by kernel_rfl) (by kernel_rfl)) (.cons (qt (capx_mons o4.rn) m Tryz.underlying28) (.cons (qc (capx_mons o4.rn) 64 m.toNat 2 (slv (el J1.mons m.toNat).dirty.length ((q2 0).mons.2 m.toNat).dirty.1)) (.cons (qt (RMon.dirty (d := (el J1.mons m.toNat)) (LRd.el (capx_mons o4.rn) m.toNat (by omega))) page Tryz.underlying64) .nil)))) fun ac w β S => S.SF (α := Bool) o22 (t := 4) (k := page.toNat) (j := 0) (off := ((q2 0).mons.2 m.toNat).dirty.1.off + page.toNat * 1) (v := B true) (y := true) (q := ()) (fun _ _ _ => ⟨NoB, trivial, fun _ h => False.elim h⟩) fun w N F28 q29 S up o27 d30 s31 n32 => ?_
 clear d30 o22
 obtain ⟨p33, o34, hq36⟩ := b24 _ _ _ _ _ NoB up o27 s31 (fun b _ h => False.elim h) List.length_set n32
 obtain ⟨X38, hX39⟩ : ∃ z, z = J1.mons.set m.toNat { el J1.mons m.toNat with dirty := ((el J1.mons m.toNat).dirty.set page.toNat true) } := ⟨_, rfl⟩
 have o37 : Ow w0 F w N (Or F3 F28) [(⟨J1.mem, X38, J1.buf, J1.iobuf⟩ : THost)] ((qh.1, p33) : LP THost) := by rw [hX39]; exact o34
 obtain ⟨l40, e41⟩ := setm_dirty hX39 (show m.toNat < J1.mons.length by omega) List.length_set
 change (p33 0).mons.1 = (q2 0).mons.1 at hq36
 clear up o27 n32 o34
 refine S.gb 23 (.cons (qc (rd_hdr hq36 (cap_mons o37.rn)) 69 m.toNat 0 (slv (el X38 m.toNat).outer.length (((p33 0).mons.2) m.toNat).outer.1)) (.cons (qt (RMon.outer (d := (el X38 m.toNat)) (LRd.el (rd_hdr hq36 (cap_mons o37.rn)) m.toNat (by omega))) page Tryz.underlying69) (.cons (qs (RMon.outer (d := (el X38 m.toNat)) (LRd.el (rd_hdr hq36 (cap_mons o37.rn)) m.toNat (by omega))) 92 page.toNat) (.cons (Q_call fun w hw => c_impl_Enough w (el (el X38 m.toNat).outer page.toNat).rights 2) .nil)))) (!(f_enough (el (el X38 m.toNat).outer page.toNat).rights 2)) (fun ac w β h42 S => ?_) (fun ac w β h42 S => ?_)
 ·have h43 := not_t h42
  obtain ⟨F44, o45, s46, b47⟩ := foc_cap o37 (fun _ o => foc2_Mon_outer o (k := m.toNat) (show m.toNat < X38.length by omega))
  change Ow w0 F _ _ F44 (el X38 m.toNat).outer (((p33 0).mons.2) m.toNat).outer at o45
  have l48 := LRd.le o45.rn
  have n49 := o45.sub
  have e50 : RSlot (el (el X38 m.toNat).outer page.toNat) := (LRd.el o45.rn page.toNat (by omega))
  refine S.go 10 (.cons (qc (rd_hdr hq36 (cap_mons o37.rn)) 69 m.toNat 0 (slv (el X38 m.toNat).outer.length (((p33 0).mons.2) m.toNat).outer.1)) (.cons (qt (RMon.outer (d := (el X38 m.toNat)) (LRd.el (rd_hdr hq36 (cap_mons o37.rn)) m.toNat (by omega))) page Tryz.underlying69) .nil)) fun ac w β S => S.SF (α := TSlot) o45 (t := 3) (k := page.toNat) (j := 1) (off := (((p33 0).mons.2) m.toNat).outer.1.off + page.toNat * 2 + 1) (v := I 3) (y := (⟨(el (el X38 m.toNat).outer page.toNat).page, 3⟩ : TSlot)) (q := ()) (fun _ _ _ => ⟨NoB, (show RSlot (⟨(el (el X38 m.toNat).outer page.toNat).page, 3⟩ : TSlot) from ⟨(RSlot.page (d := (el (el X38 m.toNat).outer page.toNat)) e50), (show In64 3 from ⟨by decide, by decide⟩)⟩), fun _ h => False.elim h⟩) fun w N F52 q53 S up o51 d54 s55 n56 => ?_
  clear d54 o45
  obtain ⟨p57, o58, hq60⟩ := b47 _ _ _ _ _ NoB up o51 s55 (fun b _ h => False.elim h) List.length_set n56
  obtain ⟨X62, hX63⟩ : ∃ z, z = X38.set m.toNat { el X38 m.toNat with outer := ((el X38 m.toNat).outer.set page.toNat (⟨(el (el X38 m.toNat).outer page.toNat).page, 3⟩ : TSlot)) } := ⟨_, rfl⟩
  have o61 : Ow w0 F w N (Or (Or F3 F28) F52) [(⟨J1.mem, X62, J1.buf, J1.iobuf⟩ : THost)] ((qh.1, p57) : LP THost) := by rw [hX63]; exact o58
  obtain ⟨l64, e65⟩ := setm_outer hX63 (show m.toNat < X38.length by omega) List.length_set
  change (p57 0).mons.1 = (p33 0).mons.1 at hq60
  clear up o51 n56 o58
  refine S.go 7 .nil fun ac w β S => S.KC (d := 64) o61 (c_impl_invalidate w (⟨J1.mem, X62, J1.buf, J1.iobuf⟩ : THost) ((qh.1, p57) : LP THost) (Or (Or F3 F28) F52) (S.ownw o61) (fun b hb => (S.sep b (o61.sub b hb)).1) m page (el (el X38 m.toNat).outer page.toNat) (LRd.el (RMon.outer (d := (el X38 m.toNat)) (LRd.el (rd_hdr hq36 (cap_mons o37.rn)) m.toNat (by omega))) page.toNat (by omega)) (by (first | omega | (dsimp only; omega)))) fun ac w N p66 F67 S up o68 d70 hq69 => ?_
  change (p66 0).mons.1 = (p57 0).mons.1 at hq69
  clear up d70 o61
  obtain ⟨Y71, hY72⟩ : ∃ z, z = (f_inval (⟨J1.mem, X62, J1.buf, J1.iobuf⟩ : THost) m page (el (el X38 m.toNat).outer page.toNat)) := ⟨_, rfl⟩
  have o73 : Ow w0 F w N F67 [Y71] ((qh.1, p66) : LP THost) := by rw [hY72]; exact o68
  clear o68
  have l74 := inval_bd hY72 (by first | omega | (dsimp only; omega))
  try dsimp only at l74
  refine S.gr 1 .nil [] fun ac w β S => ?_
  exact retC_of S (show f_mend h m page need = Y71 from k0_impl_mend) (show hdrH _ _ from (hq69.trans (hq60.trans (hq36.trans hq5)))) o73
 have h75 := not_f h42
 have g76 := enough_t h75
 refine S.gr 2 .nil [] fun ac w β S => ?_
 exact retC_of S (show f_mend h m page need = (⟨J1.mem, X38, J1.buf, J1.iobuf⟩ : THost) from k0_impl_mend) (show hdrH _ _ from (hq36.trans hq5)) o37

theorem k0_impl_BothRights {p : Prop} (h : p := by clear S; (unfold f_bothRights; (repeat' split) <;> first | rfl | (exfalso; omega) | (exfalso; simp_all; done) | (exfalso; simp_all; omega) | (simp_all; done))) : p := h
theorem c_impl_BothRights (w0 : World) (a : Int) (b : Int) : Calls Tryz.prog 159 [I a, I b].toArray w0 (fun e w' => e = .returned (I (f_bothRights a b)) ∧ Chg NoB w0 w') := by
 refine Calls.run NoB Tryz.func159 ?_
 intro ac β S
 refine S.gb 12 (.cons (Q_call fun w hw => c_impl_RightsOk w a) .nil) (!(f_within a 0 3)) (fun ac w β h1 S => ?_) (fun ac w β h1 S => ?_)
 ·have h2 := not_t h1
  have g3 := within_f h2
  exact S.gf 13 .nil [I 0] (retI k0_impl_BothRights)
 have h4 := not_f h1
 have g5 := within_t h4
 refine S.gb 6 (.cons (Q_call fun w hw => c_impl_RightsOk w b) .nil) (!(f_within b 0 3)) (fun ac w β h6 S => ?_) (fun ac w β h6 S => ?_)
 ·have h7 := not_t h6
  have g8 := within_f h7
  exact S.gf 7 .nil [I 0] (retI k0_impl_BothRights)
 have h9 := not_f h6
 have g10 := within_t h9
 exact S.gf 12 (.cons (Q_land64 (x := a) (y := b)) .nil) [I (land64 a b)] (retI k0_impl_BothRights)

theorem k0_impl_ComposeSlot {p : Prop} (h : p := by clear S; (unfold f_composeSlot; (repeat' split) <;> first | rfl | (exfalso; omega) | (exfalso; simp_all; done) | (exfalso; simp_all; omega) | (simp_all; done))) : p := h
theorem c_impl_ComposeSlot (w0 : World) (inner : TSlot) (outer : List TSlot) (pouter : LP TSlot) (houter : RD w0 outer pouter) : Calls Tryz.prog 122 [GT.val inner (), slv outer.length pouter.1].toArray w0 (fun e w' => e = .returned (GT.val (f_composeSlot inner outer) ()) ∧ Chg NoB w0 w') := by
 refine Calls.run NoB Tryz.func122 ?_
 intro ac β S
 have hleouter : outer.length ≤ 4194304 := LRd.le houter
 refine S.gd 33 (.cons (Q_call fun w hw => c_impl_SlotAt w outer pouter (rd_of (S.arg houter) hw) inner.page) (.cons (Q_call fun w hw => c_impl_BothRights w inner.rights (f_slotAt outer inner.page).rights) .nil)) (inner.page == (-1)) (fun ac w β h1 g2 S => ?_) (fun ac w β h1 g2 S => ?_)
 ·exact S.gf 18 (.cons (Q_call fun w hw => c_impl_NoSlot w ) .nil) [GT.val (⟨-1, 0⟩ : TSlot) ()] (retV (p := ()) k0_impl_ComposeSlot)
 refine S.gd 5 .nil ((f_slotAt outer inner.page).page == (-1)) (fun ac w β h3 g4 S => ?_) (fun ac w β h3 g4 S => ?_)
 ·exact S.gf 13 (.cons (Q_call fun w hw => c_impl_NoSlot w ) .nil) [GT.val (⟨-1, 0⟩ : TSlot) ()] (retV (p := ()) k0_impl_ComposeSlot)
 refine S.gd 5 .nil ((f_bothRights inner.rights (f_slotAt outer inner.page).rights) == 0) (fun ac w β h5 g6 S => ?_) (fun ac w β h5 g6 S => ?_)
 ·exact S.gf 8 (.cons (Q_call fun w hw => c_impl_NoSlot w ) .nil) [GT.val (⟨-1, 0⟩ : TSlot) ()] (retV (p := ()) k0_impl_ComposeSlot)
 exact S.gf 13 (.cons (Q_sem (s := Instr.build 92 [(0, I (f_slotAt outer inner.page).page), (1, I (f_bothRights inner.rights (f_slotAt outer inner.page).rights))].toArray) (v := .agg [I (f_slotAt outer inner.page).page, I (f_bothRights inner.rights (f_slotAt outer inner.page).rights)].toArray) (fun w => by kernel_rfl)) .nil) [GT.val (⟨(f_slotAt outer inner.page).page, (f_bothRights inner.rights (f_slotAt outer inner.page).rights)⟩ : TSlot) ()] (retV (p := ()) k0_impl_ComposeSlot)

theorem k0_impl_Fill {p : Prop} (h : p := by clear S; (unfold f_fill; (repeat' split) <;> first | rfl | (exfalso; omega) | (exfalso; simp_all; done) | (exfalso; simp_all; omega) | (simp_all; done))) : p := h
theorem c_impl_Fill (w0 : World) (k : TKept) (pk : PKept) (hk : RD w0 k pk) (inner : List TSlot) (pinner : LP TSlot) (hinner : RD w0 inner pinner) (outer : List TSlot) (pouter : LP TSlot) (houter : RD w0 outer pouter) (page : Int) : Calls Tryz.prog 74 [GT.val k pk, slv inner.length pinner.1, slv outer.length pouter.1, I page].toArray w0 (Ret1 NoB w0 (f_fill k inner outer page : TKept)) := by
 refine Calls.run NoB Tryz.func74 ?_
 intro ac β S
 have hlek_known : k.known.length ≤ 4194304 := LRd.le (RKept.known (d := k) hk)
 have hlek_slots : k.slots.length ≤ 4194304 := LRd.le (RKept.slots (d := k) hk)
 have hleinner : inner.length ≤ 4194304 := LRd.le hinner
 have hleouter : outer.length ≤ 4194304 := LRd.le houter
 refine S.go 9 .nil fun ac w β S => S.K1 (r := k) (d := 11) (c_impl_copyKept w k pk (S.rd (S.arg hk))) fun ac w N q1 F2 S up o3 d4 => ?_
 clear up d4
 obtain ⟨F5, F8, o6, o9, s7, s10, d11⟩ := sp_Kept o3
 refine S.gb 13 (.cons (Q_call fun w hw => c_impl_has w page (k.known.length : Int) (by omega)) .nil) (f_within page 0 ((k.known.length : Int) - 1)) (fun ac w β h12 S => ?_) (fun ac w β h12 S => ?_)
 ·have g13 := within_t h12
  refine S.gb 7 (.cons (Q_call fun w hw => c_impl_has w page (k.slots.length : Int) (by omega)) .nil) (f_within page 0 ((k.slots.length : Int) - 1)) (fun ac w β h14 S => ?_) (fun ac w β h14 S => ?_)
  ·have g15 := within_t h14
   refine S.gb 7 (.cons (Q_call fun w hw => c_impl_has w page (inner.length : Int) (by omega)) .nil) (f_within page 0 ((inner.length : Int) - 1)) (fun ac w β h16 S => ?_) (fun ac w β h16 S => ?_)
   ·have g17 := within_t h16
    refine S.go 7 (.cons (qt o6.rn page Tryz.underlying64) .nil) fun ac w β S => S.SF (α := Bool) o6 (t := 4) (k := page.toNat) (j := 0) (off := q1.known.1.off + page.toNat * 1) (v := B true) (y := true) (q := ()) (fun _ _ _ => ⟨NoB, trivial, fun _ h => False.elim h⟩) fun w N F19 q20 S up o18 d21 s22 n23 => ?_
    have d24 := d21 _ (Disj.symm d11) (fun b _ h => False.elim h) o9.sub
    replace o9 := o9.upF (Disj.symm d11) up
    clear up d21 o6 n23
    have l25 : (k.known.set page.toNat true).length = k.known.length := List.length_set
    replace S := S.z (σ' := ⟨[(1, .v (slv inner.length pinner.1)), (2, .v (slv outer.length pouter.1)), (3, .v (I page)), (8, .p 1 0), (9, .p 2 0), (33, .v (pt q1.known.1.b (q1.known.1.off + page.toNat * 1)))], [GT.cells k pk, Zc TKept, [slv k.known.length q1.known.1, slv k.slots.length q1.slots.1]]⟩)
    replace S := S.cast (σ' := ⟨[(1, .v (slv inner.length pinner.1)), (2, .v (slv outer.length pouter.1)), (3, .v (I page)), (8, .p 1 0), (9, .p 2 0), (33, .v (pt q1.known.1.b (q1.known.1.off + page.toNat * 1)))], [GT.cells k pk, Zc TKept, [slv (k.known.set page.toNat true).length q1.known.1, slv k.slots.length q1.slots.1]]⟩) (by rw [show (k.known.set page.toNat true).length = k.known.length by omega])
    refine S.is fun S => ?_
    refine S.go 2 .nil fun ac w β S => ?_
    refine drw ?_
    refine S.draw0 (f := 11) 10 (by kernel_rfl) (by kernel_rfl) fun w S => ?_
    refine S.hq 0 [0] [] [(34, .p 2 1)] .nil fun ac S => ?_
    refine S.hq 1 [1] [] [(35, .v (slv k.slots.length q1.slots.1))] .nil fun ac S => ?_
    refine S.hq 2 [2] [] [(36, .v (I page))] .nil fun ac S => ?_
    refine S.hq 3 [3] [] [(37, .v (slv inner.length pinner.1))] .nil fun ac S => ?_
    refine S.hq 4 [4] [] [(38, .v (I page))] .nil fun ac S => ?_
    refine S.hq 5 [5] [] [(39, .v (pt pinner.1.b (pinner.1.off + page.toNat * 2)))] (.cons (qt (S.arg hinner) page Tryz.underlying69) .nil) fun ac S => ?_
    refine S.hq 6 [6] [] [(40, .v (GT.val (el inner page.toNat) ()))] (.cons (qs (S.arg hinner) 92 page.toNat) .nil) fun ac S => ?_
    refine S.hq 7 [7] [] [(41, .v (slv outer.length pouter.1))] .nil fun ac S => ?_
    refine WD.one (i := 8) (by kernel_rfl) ?_
    refine S.stepq (i := 8) (keep := [8, 9, 35, 36, 42]) (m := 3) (σ' := ⟨[(8, .p 1 0), (9, .p 2 0), (35, .v (slv k.slots.length q1.slots.1)), (36, .v (I page)), (42, .v (GT.val (f_composeSlot (el inner page.toNat) outer) ()))], [GT.cells k pk, Zc TKept, [slv (k.known.set page.toNat true).length q1.known.1, slv k.slots.length q1.slots.1]]⟩) (.cons (Q_call fun w hw => c_impl_ComposeSlot w (el inner page.toNat) outer pouter (rd_of (S.arg houter) hw)) .nil) (by kernel_rfl) fun ac w β S hβ => ?_
    refine WD.stayq S hβ ?_
    clear hβ
    refine S.hq 9 [9] [] [(43, .v (pt q1.slots.1.b (q1.slots.1.off + page.toNat * 2)))] (.cons (qt o9.rn page Tryz.underlying69) .nil) fun ac S => ?_
    refine WD.one (i := 10) (by kernel_rfl) ?_
    have e26 : RSlot (el k.slots page.toNat) := (LRd.el o9.rn page.toNat (by omega))
    refine id (S.sF (α := TSlot) o9 (t := 92) (k := page.toNat) (j := 0) (off := q1.slots.1.off + page.toNat * 2) (v := GT.val (f_composeSlot (el inner page.toNat) outer) ()) (y := (f_composeSlot (el inner page.toNat) outer)) (q := ()) (fun _ _ _ => ⟨NoB, (compose_r (S.arg houter) (el inner page.toNat)), fun _ h => False.elim h⟩) fun w N F28 q29 S up o27 d30 s31 n32 => ?_)
    refine WD.last (by kernel_rfl) ?_
    have d33 := d30 _ (Disj.symm d24) (fun b _ h => False.elim h) o18.sub
    replace o18 := o18.upF (Disj.symm d24) up
    clear up d30 o9 n32
    have l34 : (k.slots.set page.toNat (f_composeSlot (el inner page.toNat) outer)).length = k.slots.length := List.length_set
    replace S := S.z (σ' := ⟨[(8, .p 1 0), (9, .p 2 0), (42, .v (GT.val (f_composeSlot (el inner page.toNat) outer) ())), (43, .v (pt q1.slots.1.b (q1.slots.1.off + page.toNat * 2)))], [GT.cells k pk, Zc TKept, [slv (k.known.set page.toNat true).length q1.known.1, slv k.slots.length q1.slots.1]]⟩)
    replace S := S.cast (σ' := ⟨[(8, .p 1 0), (9, .p 2 0), (42, .v (GT.val (f_composeSlot (el inner page.toNat) outer) ())), (43, .v (pt q1.slots.1.b (q1.slots.1.off + page.toNat * 2)))], [GT.cells k pk, Zc TKept, [slv (k.known.set page.toNat true).length q1.known.1, slv (k.slots.set page.toNat (f_composeSlot (el inner page.toNat) outer)).length q1.slots.1]]⟩) (by rw [show (k.slots.set page.toNat (f_composeSlot (el inner page.toNat) outer)).length = k.slots.length by omega])
    refine WD.done (by kernel_rfl) ?_ _
    refine S.ex fun S => ?_
    refine S.gr 8 .nil [GT.val (⟨(k.known.set page.toNat true), (k.slots.set page.toNat (f_composeSlot (el inner page.toNat) outer))⟩ : TKept) (⟨(q1.known.1, q20), (q1.slots.1, q29)⟩ : PKept)] fun ac w β S => ?_
    have o35 := ow_Kept (x := (⟨(k.known.set page.toNat true), (k.slots.set page.toNat (f_composeSlot (el inner page.toNat) outer))⟩ : TKept)) (p := (⟨(q1.known.1, q20), (q1.slots.1, q29)⟩ : PKept)) o18 o27 d33 
    exact ret1_of S (show f_fill k inner outer page = (⟨(k.known.set page.toNat true), (k.slots.set page.toNat (f_composeSlot (el inner page.toNat) outer))⟩ : TKept) from k0_impl_Fill) rfl o35
   have g36 := within_f h16
   refine S.gr 10 .nil [GT.val k q1] fun ac w β S => ?_
   have o37 := ow_Kept (x := k) (p := q1) o6 o9 d11 
   exact ret1_of S (show f_fill k inner outer page = k from k0_impl_Fill) rfl o37
  have g38 := within_f h14
  refine S.gr 17 .nil [GT.val k q1] fun ac w β S => ?_
  have o39 := ow_Kept (x := k) (p := q1) o6 o9 d11 
  exact ret1_of S (show f_fill k inner outer page = k from k0_impl_Fill) rfl o39
 have g40 := within_f h12
 refine S.gr 24 .nil [GT.val k q1] fun ac w β S => ?_
 have o41 := ow_Kept (x := k) (p := q1) o6 o9 d11 
 exact ret1_of S (show f_fill k inner outer page = k from k0_impl_Fill) rfl o41

theorem c_impl_FlushPage (w0 : World) (b : List TEntry) (pb : LP TEntry) (hb : RD w0 b pb) (tag : Int) (htag : In64 tag) (page : Int) (hpage : In64 page) : Calls Tryz.prog 123 [slv b.length pb.1, I tag, I page].toArray w0 (Ret1 NoB w0 (f_flushPage b tag page : List TEntry)) := by
 refine Calls.run NoB Tryz.func123 ?_
 intro ac β S
 have hleb : b.length ≤ 4194304 := LRd.le hb
 have hlotag := htag.lo; have hhitag := htag.hi
 have hlopage := hpage.lo; have hhipage := hpage.hi
 refine S.go 8 .nil fun ac w β S => ?_
 refine S.Frz 0 tag () htag fun β N b1 F2 S up o3 d4 => ?_
 clear up d4
 refine S.Frz 0 page () hpage fun β N b5 F6 S up o7 d8 => ?_
 have d9 := Disj.w d8 o3.sub
 replace o3 := o3.up up
 clear up d8
 refine S.go 3 .nil fun ac w β S => S.K1 (r := f_without b (fun e => f_samePg e tag page)) (d := 9) (c_impl_without_impl_FlushPage_1 w b pb (S.rd (S.arg hb)) tag (cap1 b1 () : LP Int) (S.rd o3.rn) page (cap1 b5 () : LP Int) (S.rd o7.rn)) fun ac w N q10 F11 S up o12 d13 => ?_
 have d14 := Disj.w d13 o3.sub
 have d15 := Disj.w d13 o7.sub
 replace o3 := o3.up up
 replace o7 := o7.up up
 clear up d13
 refine S.gr 4 .nil [slv (f_without b (fun e => f_samePg e tag page)).length q10.1] fun ac w β S => ?_
 exact ret1_of S (show f_flushPage b tag page = (f_without b (fun e => f_samePg e tag page)) by clear S; rfl) rfl o12

theorem c_impl_PutEntry (w0 : World) (b : List TEntry) (pb : LP TEntry) (hb : RD w0 b pb) (e : TEntry) (he : REntry e) (pre0 : b.length ≤ 6) : Calls Tryz.prog 75 [slv b.length pb.1, GT.val e ()].toArray w0 (Ret1 NoB w0 (f_putEntry b e : List TEntry)) := by
 refine Calls.run NoB Tryz.func75 ?_
 intro ac β S
 have hfl : (f_flushPage b e.tag e.page).length ≤ b.length := without_len _ _
 have hfa : (f_flushPage b e.tag e.page ++ [e]).length = (f_flushPage b e.tag e.page).length + 1 := by simp
 have hleb : b.length ≤ 4194304 := LRd.le hb
 refine S.go 7 .nil fun ac w β S => ?_
 refine drw ?_
 let σ1 : Sy := ⟨[(0, .v (slv b.length pb.1)), (3, .p 0 0)], [GT.cells e ()]⟩
 obtain ⟨u0, N0, β0, S⟩ : ∃ u0 N0 β0, St Tryz.prog Tryz.f75.ntmps w0 NoB u0 N0 β0 σ1 ac w := ⟨_, _, _, S.z⟩
 refine wp_region_cut (fun ac w => ∃ q37 F38 u N β, St Tryz.prog Tryz.f75.ntmps w0 NoB u N β (σ1.dl [0, 3] [(5, .v (slv ((f_flushPage b e.tag e.page) ++ [e]).length q37.1))] 0 []) ac w ∧ Ow w0 NoB u N F38 ((f_flushPage b e.tag e.page) ++ [e]) q37) ?_ ?_
 ·refine S.draw0 (f := 10) 10 (by kernel_rfl) (by kernel_rfl) fun w S => ?_
  refine S.hq 0 [] [] [(6, .v (slv b.length pb.1))] .nil fun ac S => ?_
  refine S.hq 1 [] [] [(7, .p 0 0)] .nil fun ac S => ?_
  refine S.hq 2 [] [] [(8, .v (I e.tag))] .nil fun ac S => ?_
  refine S.hq 3 [] [] [(9, .p 0 1)] .nil fun ac S => ?_
  refine S.hq 4 [] [] [(10, .v (I e.page))] .nil fun ac S => ?_
  refine S.hq 6 [] [] [(12, .v (GT.val e ()))] .nil fun ac S => ?_
  refine WD.nameW fun W hW => ?_
  refine WD.castW (l' := mkL 10 [0, 1, 2, 3, 4, 6]) (by kernel_rfl) ?_
  have hK39 ac w q37 F38 u N β (S : St Tryz.prog Tryz.f75.ntmps w0 NoB u N β (σ1.dl [0, 3] [(5, .v (slv ((f_flushPage b e.tag e.page) ++ [e]).length q37.1))] 1 []) ac w) (o36 : Ow w0 NoB u N F38 ((f_flushPage b e.tag e.page) ++ [e]) q37) (hNN : NN N0 u0 N u) (hBB : BB σ1.bx.length β0 β) : W 0 (mkL 10 [0, 1, 2, 3, 4, 5, 6, 7, 8, 9]) ac w := by
   exact od hW ⟨rfl, q37, F38, _, _, _, S.z, o36⟩
  have hK40 ac w q8 F9 q16 F17 u N β (S : St Tryz.prog Tryz.f75.ntmps w0 NoB u N β (σ1.dl [0, 3] [(11, .v (slv (f_flushPage b e.tag e.page).length q8.1)), (13, .v (slv 1 q16.1))] 1 []) ac w) (o7 : Ow w0 NoB u N F9 (f_flushPage b e.tag e.page) q8) (o15 : Ow w0 NoB u N F17 ([e]) q16) (d41 : Disj F9 F17) (hNN : ∀ b, N0 b → N b ∧ u.heap[b]? = u0.heap[b]? ∧ ¬ F9 b) (hBB : BB σ1.bx.length β0 β) : W 2 (mkL 10 [0, 1, 2, 3, 4, 5, 6, 7]) ac w := by
   refine ox1 hW 8 ?_
   refine id (S.appFlat (α := TEntry) o7 o15.rn (fun _ _ h => h) (by' := 32) (d := 14) (lx := (f_flushPage b e.tag e.page).length) (ly := 1) rfl rfl (by kernel_rfl) (show _ ≤ 4194304 by simp only [List.length_append, List.length_cons, List.length_nil]; omega) fun ac w N q42 F43 S up o44 d45 => ?_)
   have hb46 := fun b h => (⟨(up b (hNN b h).1 (hNN b h).2.2).1, (up b (hNN b h).1 (hNN b h).2.2).2.trans (hNN b h).2.1⟩ : _ ∧ _)
   refine WD.sc S hb46 hBB fun hC => ?_
   have d47 := d45 _ (Disj.symm d41) o15.sub
   replace o15 := o15.upF (Disj.symm d41) up
   clear up d45
   exact S.wh hW [9] hC fun _ S => hK39 _ _ q42 F43 _ _ _ S o44 hb46 hBB
  have hK48 ac w q8 F9 u N β (S : St Tryz.prog Tryz.f75.ntmps w0 NoB u N β (σ1.dl [0, 3] [(11, .v (slv (f_flushPage b e.tag e.page).length q8.1)), (12, .v (GT.val e ()))] 1 []) ac w) (o7 : Ow w0 NoB u N F9 (f_flushPage b e.tag e.page) q8) (hNN : ∀ b, N0 b → N b ∧ u.heap[b]? = u0.heap[b]? ∧ ¬ F9 b) (hBB : BB σ1.bx.length β0 β) : W 3 (mkL 10 [0, 1, 2, 3, 4, 5, 6]) ac w := by
   refine ox1 hW 7 ?_
   refine id (S.bs1 (α := TEntry) (x := e) (p := ()) (F := NoB) he (fun b h => False.elim h) (fun b h => False.elim h) (d := 13) (by kernel_rfl) fun ac w N q49 F50 S up o51 d52 => ?_)
   have hb53 := fun b h => (⟨(up b (hNN b h).1).1, (up b (hNN b h).1).2.trans (hNN b h).2.1, (hNN b h).2.2⟩ : _ ∧ _ ∧ _)
   refine WD.sc S (fun b h => ⟨(hb53 b h).1, (hb53 b h).2.1⟩) hBB fun hC => ?_
   have d54 := d52 _ (fun b _ h => False.elim h) o7.sub
   replace o7 := o7.up up
   clear up d52
   exact S.wh hW [] hC fun _ S => hK40 _ _ q8 F9 q49 F50 _ _ _ S o7 o51 d54 hb53 hBB
  have hK55 ac w q16 F17 u N β (S : St Tryz.prog Tryz.f75.ntmps w0 NoB u N β (σ1.dl [0, 3] [(6, .v (slv b.length pb.1)), (8, .v (I e.tag)), (10, .v (I e.page)), (13, .v (slv 1 q16.1))] 1 []) ac w) (o15 : Ow w0 NoB u N F17 ([e]) q16) (hNN : NN N0 u0 N u) (hBB : BB σ1.bx.length β0 β) : W 3 (mkL 10 [0, 1, 2, 3, 4, 6, 7]) ac w := by
   refine ox1 hW 5 ?_
   refine id (S.k1 11 (c_impl_FlushPage w b pb (S.rd (S.arg hb)) e.tag (REntry.tag (d := e) he) e.page (REntry.page (d := e) he)) fun ac w N q56 F57 S up o58 d59 => ?_)
   have hb60 := fun b h => (⟨(up b (hNN b h).1).1, (up b (hNN b h).1).2.trans (hNN b h).2, d59 b (hNN b h).1⟩ : _ ∧ _ ∧ _)
   refine WD.sc S (fun b h => ⟨(hb60 b h).1, (hb60 b h).2.1⟩) hBB fun hC => ?_
   have d61 := Disj.w d59 o15.sub
   replace o15 := o15.up up
   clear up d59
   exact S.wh hW [] hC fun _ S => hK40 _ _ q56 F57 q16 F17 _ _ _ S o58 o15 (Disj.symm d61) hb60 hBB
  have hNN : NN N0 u0 N0 u0 := fun b h => ⟨h, rfl⟩
  have hBB : BB σ1.bx.length β0 β0 := fun _ _ => rfl
  refine ox2 hW 5 7 ?_ ?_
  ·refine id (S.k1 11 (c_impl_FlushPage w b pb (S.rd (S.arg hb)) e.tag (REntry.tag (d := e) he) e.page (REntry.page (d := e) he)) fun ac w N q62 F63 S up o64 d65 => ?_)
   have hb66 := fun b h => (⟨(up b (hNN b h).1).1, (up b (hNN b h).1).2.trans (hNN b h).2, d65 b (hNN b h).1⟩ : _ ∧ _ ∧ _)
   refine WD.sc S (fun b h => ⟨(hb66 b h).1, (hb66 b h).2.1⟩) hBB fun hC => ?_
   clear up d65
   exact S.wh hW [] hC fun _ S => hK48 _ _ q62 F63 _ _ _ S o64 hb66 hBB
  ·refine id (S.bs1 (α := TEntry) (x := e) (p := ()) (F := NoB) he (fun b h => False.elim h) (fun b h => False.elim h) (d := 13) (by kernel_rfl) fun ac w N q67 F68 S up o69 d70 => ?_)
   have hb71 := fun b h => (⟨(up b (hNN b h).1).1, (up b (hNN b h).1).2.trans (hNN b h).2⟩ : _ ∧ _)
   refine WD.sc S hb71 hBB fun hC => ?_
   clear up d70
   exact S.wh hW [] hC fun _ S => hK55 _ _ q67 F68 _ _ _ S o69 hb71 hBB
 clear S
 rintro ac w ⟨q37, F38, u, N, β, S, o36⟩
 refine S.ex fun S => ?_
 refine S.go 8 (.cons (qm (((f_flushPage b e.tag e.page) ++ [e]).length : Int) 6) .nil) fun ac w β S => ?_
 replace S := S.z (σ' := ⟨[(15, .v (slv ((f_flushPage b e.tag e.page) ++ [e]).length q37.1)), (19, .v (I (if ((((f_flushPage b e.tag e.page) ++ [e]).length : Int) - 6) > 0 then ((((f_flushPage b e.tag e.page) ++ [e]).length : Int) - 6) else 0)))], []⟩)
 replace S := S.cast (σ' := ⟨[(15, .v (slv ((f_flushPage b e.tag e.page) ++ [e]).length q37.1)), (19, .v (I (((f_flushPage b e.tag e.page ++ [e]).length - 6 : Nat) : Int)))], []⟩) (by rw [show (((f_flushPage b e.tag e.page ++ [e]).length - 6 : Nat) : Int) = (if ((((f_flushPage b e.tag e.page) ++ [e]).length : Int) - 6) > 0 then ((((f_flushPage b e.tag e.page) ++ [e]).length : Int) - 6) else 0) by (repeat' split) <;> omega])
 have l72 : ((((f_flushPage b e.tag e.page) ++ [e]).drop ((f_flushPage b e.tag e.page ++ [e]).length - 6)).take (((f_flushPage b e.tag e.page) ++ [e]).length - ((f_flushPage b e.tag e.page ++ [e]).length - 6))).length = ((f_flushPage b e.tag e.page) ++ [e]).length - ((f_flushPage b e.tag e.page ++ [e]).length - 6) := by first | (simp; done) | (simp; omega)
 refine S.is fun S => ?_
 refine S.gr 5 (.cons (Q_slice o36.rn (l := ((f_flushPage b e.tag e.page) ++ [e]).length) (a := ((f_flushPage b e.tag e.page ++ [e]).length - 6)) (b := ((f_flushPage b e.tag e.page) ++ [e]).length) rfl (.inr rfl) (.inl ⟨rfl, rfl⟩) (by omega) (by omega) Tryz.underlying29 (by kernel_rfl)) .nil) [slv (((f_flushPage b e.tag e.page) ++ [e]).length - ((f_flushPage b e.tag e.page ++ [e]).length - 6) : Nat) (q37.1.sl ((f_flushPage b e.tag e.page ++ [e]).length - 6) 4)] fun ac w β S => ?_
 have o73 : Ow w0 NoB _ _ F38 ((((f_flushPage b e.tag e.page) ++ [e]).drop ((f_flushPage b e.tag e.page ++ [e]).length - 6)).take (((f_flushPage b e.tag e.page) ++ [e]).length - ((f_flushPage b e.tag e.page ++ [e]).length - 6))) (q37.1.sl ((f_flushPage b e.tag e.page ++ [e]).length - 6) 4, fun i => q37.2 (((f_flushPage b e.tag e.page ++ [e]).length - 6) + i)) := Ow.sl o36 (a := ((f_flushPage b e.tag e.page ++ [e]).length - 6)) (b := ((f_flushPage b e.tag e.page) ++ [e]).length) (by omega) (by omega)
 exact ret1_of S (show f_putEntry b e = ((((f_flushPage b e.tag e.page) ++ [e]).drop ((f_flushPage b e.tag e.page ++ [e]).length - 6)).take (((f_flushPage b e.tag e.page) ++ [e]).length - ((f_flushPage b e.tag e.page ++ [e]).length - 6))) by clear S; (first | exact put_eq (by omega) | exact put_all (by omega))) (show slv (((f_flushPage b e.tag e.page) ++ [e]).length - ((f_flushPage b e.tag e.page ++ [e]).length - 6) : Nat) (q37.1.sl ((f_flushPage b e.tag e.page ++ [e]).length - 6) 4) = GT.val ((((f_flushPage b e.tag e.page) ++ [e]).drop ((f_flushPage b e.tag e.page ++ [e]).length - 6)).take (((f_flushPage b e.tag e.page) ++ [e]).length - ((f_flushPage b e.tag e.page ++ [e]).length - 6))) ((q37.1.sl ((f_flushPage b e.tag e.page ++ [e]).length - 6) 4, fun i => q37.2 (((f_flushPage b e.tag e.page ++ [e]).length - 6) + i)) : LP TEntry) from congrArg (fun z => slv z (q37.1.sl ((f_flushPage b e.tag e.page ++ [e]).length - 6) 4)) (show (((f_flushPage b e.tag e.page) ++ [e]).length - ((f_flushPage b e.tag e.page ++ [e]).length - 6) : Nat) = ((((f_flushPage b e.tag e.page) ++ [e]).drop ((f_flushPage b e.tag e.page ++ [e]).length - 6)).take (((f_flushPage b e.tag e.page) ++ [e]).length - ((f_flushPage b e.tag e.page ++ [e]).length - 6))).length by omega)) o73

theorem k0_impl_lookup {p : Prop} (h : p := by clear S; (first | (rw [lkO1 (by assumption)]; done) | (rw [lkO2 (by assumption) (by assumption)]; done) | (rw [lkI (by assumption) (by assumption) (by omega) (by omega) (by assumption) hJ3, lkTo_f (by assumption)]; first | done | rfl) | (rw [lkI (by assumption) (by assumption) (by omega) (by omega) (by assumption) hJ3, lkTo_k (by assumption) (by assumption)]; first | done | rfl) | (rw [lkI (by assumption) (by assumption) (by omega) (by omega) (by assumption) hJ3, lkTo_m (by assumption) (by assumption) (by assumption) (by assumption)]; first | done | rfl))) : p := h
theorem c_impl_lookup (w0 : World) (h : THost) (ph : PHost) (hh : RD w0 h ph) (m : Int) (g : Int) (page : Int) (hpage : In64 page) (need : Int) (io : Bool) (pre0 : io = true) : Calls Tryz.prog 28 [GT.val h ph, I m, I g, I page, I need, B io].toArray w0 (Ret3 NoB w0 ((f_lookup h m g page need io).1 : THost) ((f_lookup h m g page need io).2.1 : Int) ((f_lookup h m g page need io).2.2 : Bool)) := by
 refine Calls.run NoB Tryz.func28 ?_
 intro ac β S
 have hlio : io = true := by assumption
 subst hlio
 have hleh_mem : h.mem.length ≤ 4194304 := LRd.le (RHost.mem (d := h) hh)
 have hleh_mons : h.mons.length ≤ 4194304 := LRd.le (RHost.mons (d := h) hh)
 have hleh_buf : h.buf.length ≤ 4194304 := LRd.le (RHost.buf (d := h) hh)
 have hleh_iobuf : h.iobuf.length ≤ 4194304 := LRd.le (RHost.iobuf (d := h) hh)
 have hlopage := hpage.lo; have hhipage := hpage.hi
 refine S.go 11 .nil fun ac w β S => S.K1 (r := h) (d := 28) (c_impl_copyHost w h ph (S.rd (S.arg hh))) fun ac w N q1 F2 S up o3 d4 => ?_
 clear up d4
 obtain ⟨F5, F8, F11, F14, o6, o9, o12, o15, s7, s10, s13, s16, d17, d18, d19, d20, d21, d22⟩ := sp_Host o3
 refine S.go 5 .nil fun ac w β S => ?_
 have o23 := ow_Host (x := h) (p := q1) o6 o9 o12 o15 d17 d18 d19 d20 d21 d22 
 refine S.FrzO 2 o23 fun β N b24 F25 S up o26 d27 => ?_
 clear up d27 o23
 refine S.go 3 .nil fun ac w β S => S.K2 (r := (f_monAt h m).1) (r' := (f_monAt h m).2) (d := 32) (c_impl_MonAt w h ph (S.rd (S.arg hh)) m) fun ac w N q28 q29 F30 F31 S up o32 o33 d34 d35 d36 => ?_
 have d37 := Disj.w d35 o26.sub
 have d38 := Disj.w d34 o26.sub
 replace o26 := o26.up up
 clear up d34
 clear d35
 have i54 : In64 (f_monAt h m).1.pend := RMon.pend (d := (f_monAt h m).1) o32.rn
 have i55 : In64 (f_monAt h m).1.traps := RMon.traps (d := (f_monAt h m).1) o32.rn
 have i59 : In64 (f_monAt h m).1.owned := RMon.owned (d := (f_monAt h m).1) o32.rn
 obtain ⟨F39, F42, F45, F48, F51, F56, o40, o43, o46, o49, o52, o57, s41, s44, s47, s50, s53, s58, d60, d61, d62, d63, d64, d65, d66, d67, d68, d69, d70, d71, d72, d73, d74⟩ := sp_Mon o32
 refine S.go 10 .nil fun ac w β S => ?_
 refine S.cq ⟨[(1, .v (I m)), (2, .v (I g)), (3, .v (I page)), (4, .v (I need)), (5, .v (B true)), (12, .p 1 0), (15, .v (pt (cap1 b24 q1 : LP THost).1.b ((cap1 b24 q1 : LP THost).1.off + 0 * 4))), (16, .p 2 0), (57, .v (B ((((!(f_hostOk h)) || (!(f_monAt h m).2)) || (!(f_within g 0 (((f_monAt h m).1.guests.length : Int) - 1)))) || ((need != 1) && (need != 2)))))], [GT.cells h ph, Zc THost, [slv (f_monAt h m).1.outer.length q28.outer.1, slv (f_monAt h m).1.out.length q28.out.1, slv (f_monAt h m).1.dirty.length q28.dirty.1, slv (f_monAt h m).1.guests.length q28.guests.1, slv (f_monAt h m).1.outs.length q28.outs.1, I (f_monAt h m).1.pend, I (f_monAt h m).1.traps, slv (f_monAt h m).1.tables.length q28.tables.1, I (f_monAt h m).1.owned]]⟩ ?_ ?_
 ·clear S; intro S
  refine S.gb 5 (.cons (Q_call fun w hw => c_impl_HostOk w h ph (rd_of (S.arg hh) hw)) .nil) (!(f_hostOk h)) (fun ac w β h75 S => ?_) (fun ac w β h75 S => ?_)
  ·have h76 := not_t h75
   exact S.gn 20 .nil fun ac w β S => ⟨rfl, _, by rw [h75]; exact S.z⟩
  have h77 := not_f h75
  have g78 := hostOk_t h77
  refine S.gb 4 .nil (!(f_monAt h m).2) (fun ac w β h79 S => ?_) (fun ac w β h79 S => ?_)
  ·have h80 := not_t h79
   exact S.gn 16 .nil fun ac w β S => ⟨rfl, _, by rw [h75, h79]; exact S.z⟩
  have h81 := not_f h79
  have g82 := monAt_tt h81
  refine S.gb 8 (.cons (Q_call fun w hw => c_impl_has w g ((f_monAt h m).1.guests.length : Int) (by omega)) .nil) (!(f_within g 0 (((f_monAt h m).1.guests.length : Int) - 1))) (fun ac w β h83 S => ?_) (fun ac w β h83 S => ?_)
  ·have h84 := not_t h83
   have g85 := within_f h84
   exact S.gn 8 .nil fun ac w β S => ⟨rfl, _, by rw [h75, h79, h83]; exact S.z⟩
  have h86 := not_f h83
  have g87 := within_t h86
  refine S.gd 3 .nil (need != 1) (fun ac w β h88 g89 S => ?_) (fun ac w β h88 g89 S => ?_)
  ·exact S.gn 5 .nil fun ac w β S => ⟨rfl, _, by rw [h75, h79, h83, h88]; exact S.z⟩
  exact S.gn 5 .nil fun ac w β S => ⟨rfl, _, by rw [h75, h79, h83, h88]; exact S.z⟩
 clear S; intro ac w β S
 refine S.gb 1 .nil ((((!(f_hostOk h)) || (!(f_monAt h m).2)) || (!(f_within g 0 (((f_monAt h m).1.guests.length : Int) - 1)))) || ((need != 1) && (need != 2))) (fun ac w β h90 S => ?_) (fun ac w β h90 S => ?_)
 ·refine S.gr 10 (.cons (Q_el o26.rn (t := 31) (k := 0) (Nat.succ_pos 0) rfl (by kernel_rfl) (by kernel_rfl)) .nil) [GT.val h ((cap1 b24 q1 : LP THost).2 0), I (-1), B false] fun ac w β S => ?_
  obtain ⟨F91, o92, s93, _⟩ := foc2_id o26 (k := 0) (Nat.succ_pos 0)
  change Ow w0 NoB _ _ F91 h ((cap1 b24 q1 : LP THost).2 0) at o92
  exact ret3_of (p' := ()) (p'' := ()) S (show (f_lookup h m g page need true).1 = h from k0_impl_lookup) (show (f_lookup h m g page need true).2.1 = (-1) from k0_impl_lookup) (show (f_lookup h m g page need true).2.2 = false from k0_impl_lookup) rfl rfl rfl o92 (show In64 (-1) from ⟨by decide, by decide⟩) trivial
 obtain ⟨h94, h95⟩ := or_f h90
 obtain ⟨h96, h97⟩ := or_f h94
 obtain ⟨h98, h99⟩ := or_f h96
 have h100 := not_f h98
 have g101 := hostOk_t h100
 have h102 := not_f h99
 have g103 := monAt_tt h102
 have h104 := not_f h97
 have g105 := within_t h104
 have g106 := ne_or h95
 refine S.gb 28 (.cons (qt o49.rn g Tryz.underlying70) (.cons (qc o49.rn 69 g.toNat 4 (slv (el (f_monAt h m).1.guests g.toNat).live.length (q28.guests.2 g.toNat).live.1)) (.cons (Q_call fun w hw => c_impl_WalkInner w (el (f_monAt h m).1.guests g.toNat).live (q28.guests.2 g.toNat).live (rd_of (RGuest.live (d := (el (f_monAt h m).1.guests g.toNat)) (LRd.el o49.rn g.toNat (by omega))) hw) page need) .nil))) (!(f_walkInner (el (f_monAt h m).1.guests g.toNat).live page need).2) (fun ac w β h107 S => ?_) (fun ac w β h107 S => ?_)
 ·have h108 := not_t h107
  refine S.gr 10 (.cons (Q_el o26.rn (t := 31) (k := 0) (Nat.succ_pos 0) rfl (by kernel_rfl) (by kernel_rfl)) .nil) [GT.val h ((cap1 b24 q1 : LP THost).2 0), I (-1), B false] fun ac w β S => ?_
  obtain ⟨F109, o110, s111, _⟩ := foc2_id o26 (k := 0) (Nat.succ_pos 0)
  change Ow w0 NoB _ _ F109 h ((cap1 b24 q1 : LP THost).2 0) at o110
  exact ret3_of (p' := ()) (p'' := ()) S (show (f_lookup h m g page need true).1 = h from k0_impl_lookup) (show (f_lookup h m g page need true).2.1 = (-1) from k0_impl_lookup) (show (f_lookup h m g page need true).2.2 = false from k0_impl_lookup) rfl rfl rfl o110 (show In64 (-1) from ⟨by decide, by decide⟩) trivial
 have h112 := not_f h107
 have g113 := walkI h112
 refine S.go 10 .nil fun ac w β S => ?_
 refine cutC S (fun ac w => ∃ (J3 : THost) (q114 : Nat → PHost) (F115 : Bl) (u : _) (N : _) (β : _), (J3 = f_dirtIf h m (f_walkInner (el (f_monAt h m).1.guests g.toNat).live page need).1 need) ∧ (q114 0).mons.1 = q1.mons.1 ∧ St Tryz.prog Tryz.f28.ntmps w0 NoB u N β ⟨[(1, .v (I m)), (2, .v (I g)), (3, .v (I page)), (4, .v (I need)), (5, .v (B true)), (12, .p 1 0), (15, .v (pt ((cap1 b24 q1 : LP THost).1).b (((cap1 b24 q1 : LP THost).1).off + 0 * 4))), (18, .v (I (f_walkInner (el (f_monAt h m).1.guests g.toNat).live page need).1))], [GT.cells h ph, Zc THost]⟩ ac w ∧ Ow w0 NoB u N F115 ([J3]) (((cap1 b24 q1 : LP THost).1, q114) : LP THost)) ?_ ?_
 ·clear S; intro S
  refine S.gd 0 .nil (need == 2) (fun ac w β h118 g119 S => ?_) (fun ac w β h118 g119 S => ?_)
  ·obtain ⟨F120, o121, s122, b123⟩ := foc_cap o26 (fun _ o => foc2_Mon_dirty o (k := m.toNat) (show m.toNat < h.mons.length by omega))
   change Ow w0 NoB _ _ F120 (el h.mons m.toNat).dirty (((cap1 b24 q1 : LP THost).2 0).mons.2 m.toNat).dirty at o121
   have l124 := LRd.le o121.rn
   have n125 := o121.sub
   refine S.go 10 (.cons (Q_cell o26.rn (t := 28) (k := 0) (j := 1) (v := slv h.mons.length ((cap1 b24 q1 : LP THost).2 0).mons.1) (Nat.succ_pos 0) (by kernel_rfl) (by kernel_rfl)) (.cons (qt (cap_mons o26.rn) m Tryz.underlying28) (.cons (qc (cap_mons o26.rn) 64 m.toNat 2 (slv (el h.mons m.toNat).dirty.length (((cap1 b24 q1 : LP THost).2 0).mons.2 m.toNat).dirty.1)) (.cons (Q_idx (RMon.dirty (d := (el h.mons m.toNat)) (LRd.el (cap_mons o26.rn) m.toNat (by omega))) (l := (el h.mons m.toNat).dirty.length) (k := (f_walkInner (el (f_monAt h m).1.guests g.toNat).live page need).1.toNat) (i := (f_walkInner (el (f_monAt h m).1.guests g.toNat).live page need).1) rfl (by omega) (by omega) Tryz.underlying64 (by kernel_rfl)) .nil)))) fun ac w β S => S.SF (α := Bool) o121 (t := 4) (k := (f_walkInner (el (f_monAt h m).1.guests g.toNat).live page need).1.toNat) (j := 0) (off := (((cap1 b24 q1 : LP THost).2 0).mons.2 m.toNat).dirty.1.off + (f_walkInner (el (f_monAt h m).1.guests g.toNat).live page need).1.toNat * 1) (v := B true) (y := true) (q := ()) (fun _ _ _ => ⟨NoB, trivial, fun _ h => False.elim h⟩) fun w N F127 q128 S up o126 d129 s130 n131 => ?_
   clear d129 o121
   obtain ⟨p132, o133, hq135⟩ := b123 _ _ _ _ _ NoB up o126 s130 (fun b _ h => False.elim h) List.length_set n131
   obtain ⟨X137, hX138⟩ : ∃ z, z = h.mons.set m.toNat { el h.mons m.toNat with dirty := ((el h.mons m.toNat).dirty.set (f_walkInner (el (f_monAt h m).1.guests g.toNat).live page need).1.toNat true) } := ⟨_, rfl⟩
   have o136 : Ow w0 NoB w N (Or F25 F127) [(⟨h.mem, X137, h.buf, h.iobuf⟩ : THost)] (((cap1 b24 q1 : LP THost).1, p132) : LP THost) := by rw [hX138]; exact o133
   obtain ⟨l139, e140⟩ := setm_dirty hX138 (show m.toNat < h.mons.length by omega) List.length_set
   change (p132 0).mons.1 = ((cap1 b24 q1 : LP THost).2 0).mons.1 at hq135
   clear up o126 n131 o133
   exact S.gn 1 .nil fun ac w β S => ⟨rfl, (⟨h.mem, X137, h.buf, h.iobuf⟩ : THost), p132, (Or F25 F127), _, _, _, (by clear S; first | exact dirtIf_y (by assumption) (by assumption) | exact dirtIf_n (by assumption)), hq135, S.z, o136⟩
  exact S.gn 2 .nil fun ac w β S => ⟨rfl, h, (cap1 b24 q1 : LP THost).2, F25, _, _, _, (by clear S; first | exact dirtIf_y (by assumption) (by assumption) | exact dirtIf_n (by assumption)), rfl, S.z, o26⟩
 clear S o26 o33 o40 o43 o46 o49 o52 o57
 rintro ac w ⟨J3, q114, F115, u, N, β, hJ3, hq117, S, o116⟩
 have hr := dirtIf_bd hJ3 (walkI (by assumption)).1
 refine S.ex fun S => ?_
 have i141 : REntry (f_findEntry J3.iobuf (f_tagOf m g) page).1 := (findEntry_r (capx_iobuf o116.rn) (f_tagOf m g) page)
 refine S.go 45 (.cons (Q_call fun w hw => c_impl_TagOf w m g) (.cons (Q_cell o116.rn (t := 29) (k := 0) (j := 3) (v := slv J3.iobuf.length (q114 0).iobuf.1) (Nat.succ_pos 0) (by kernel_rfl) (by kernel_rfl)) (.cons (Q_call fun w hw => c_impl_FindEntry w J3.iobuf (q114 0).iobuf (rd_of (capx_iobuf o116.rn) hw) (f_tagOf m g) page) .nil))) fun ac w β S => ?_
 refine S.cq ⟨[(1, .v (I m)), (2, .v (I g)), (3, .v (I page)), (4, .v (I need)), (12, .p 1 0), (15, .v (pt ((cap1 b24 q1 : LP THost).1).b (((cap1 b24 q1 : LP THost).1).off + 0 * 4))), (18, .v (I (f_walkInner (el (f_monAt h m).1.guests g.toNat).live page need).1)), (20, .v (pt ((cap1 b24 q1 : LP THost).1).b (((cap1 b24 q1 : LP THost).1).off + 0 * 4 + 3))), (21, .v (I (f_tagOf m g))), (22, .p 2 0), (105, .v (B ((f_findEntry J3.iobuf (f_tagOf m g) page).2 && (f_enough (f_findEntry J3.iobuf (f_tagOf m g) page).1.rights need))))], [GT.cells h ph, Zc THost, GT.cells (f_findEntry J3.iobuf (f_tagOf m g) page).1 ()]⟩ ?_ ?_
 ·clear S; intro S
  refine S.gb 3 .nil (f_findEntry J3.iobuf (f_tagOf m g) page).2 (fun ac w β h142 S => ?_) (fun ac w β h142 S => ?_)
  ·exact S.gn 6 (.cons (Q_call fun w hw => c_impl_Enough w (f_findEntry J3.iobuf (f_tagOf m g) page).1.rights need) .nil) fun ac w β S => ⟨rfl, _, by rw [h142]; exact S.z⟩
  exact S.gn 6 .nil fun ac w β S => ⟨rfl, _, by rw [h142]; exact S.z⟩
 clear S; intro ac w β S
 refine S.gb 1 .nil ((f_findEntry J3.iobuf (f_tagOf m g) page).2 && (f_enough (f_findEntry J3.iobuf (f_tagOf m g) page).1.rights need)) (fun ac w β h143 S => ?_) (fun ac w β h143 S => ?_)
 ·obtain ⟨h144, h145⟩ := and_t h143
  have g146 := enough_t h145
  refine S.go 2 .nil fun ac w β S => ?_
  refine drw ?_
  let σ147 : Sy := ⟨[(1, .v (I m)), (2, .v (I g)), (3, .v (I page)), (4, .v (I need)), (12, .p 1 0), (15, .v (pt ((cap1 b24 q1 : LP THost).1).b (((cap1 b24 q1 : LP THost).1).off + 0 * 4))), (18, .v (I (f_walkInner (el (f_monAt h m).1.guests g.toNat).live page need).1)), (20, .v (pt ((cap1 b24 q1 : LP THost).1).b (((cap1 b24 q1 : LP THost).1).off + 0 * 4 + 3))), (21, .v (I (f_tagOf m g))), (22, .p 2 0), (105, .v (B true))], [GT.cells h ph, Zc THost, GT.cells (f_findEntry J3.iobuf (f_tagOf m g) page).1 ()]⟩
  obtain ⟨u0, N0, β0, S, o116⟩ : ∃ u0 N0 β0, St Tryz.prog Tryz.f28.ntmps w0 NoB u0 N0 β0 σ147 ac w ∧ Ow w0 NoB u0 N0 F115 ([J3]) (((cap1 b24 q1 : LP THost).1, q114) : LP THost) := ⟨_, _, _, S.z, o116⟩
  refine wp_region_cut (fun ac w => ∃  u N β, St Tryz.prog Tryz.f28.ntmps w0 NoB u N β (σ147.dl [1, 2, 3, 4, 15, 18, 20, 21, 22, 105] [(13, .v (I (f_findEntry J3.iobuf (f_tagOf m g) page).1.host)), (14, .v (B true))] 2 [(1, [slv J3.mem.length (q114 0).mem.1, slv J3.mons.length (q114 0).mons.1, slv J3.buf.length (q114 0).buf.1, slv J3.iobuf.length (q114 0).iobuf.1])]) ac w ∧ Ow w0 NoB u N F115 ([J3]) (((cap1 b24 q1 : LP THost).1, q114) : LP THost)) ?_ ?_
  ·refine S.draw0 (f := 6) 3 (by kernel_rfl) (by kernel_rfl) fun w S => ?_
   refine S.hq 0 [0] [] [(106, .v (GT.val J3 (q114 0)))] (.cons (Q_el o116.rn (t := 31) (k := 0) (Nat.succ_pos 0) rfl (by kernel_rfl) (by kernel_rfl)) .nil) fun ac S => ?_
   refine WD.nameW fun W hW => ?_
   refine WD.castW (l' := mkL 6 [0]) (by kernel_rfl) ?_
   have hK148 ac w u N β (S : St Tryz.prog Tryz.f28.ntmps w0 NoB u N β (σ147.dl [1, 2, 3, 4, 15, 18, 20, 21, 22, 105] [(13, .v (I (f_findEntry J3.iobuf (f_tagOf m g) page).1.host)), (14, .v (B true))] 3 [(1, [slv J3.mem.length (q114 0).mem.1, slv J3.mons.length (q114 0).mons.1, slv J3.buf.length (q114 0).buf.1, slv J3.iobuf.length (q114 0).iobuf.1])]) ac w) (o116 : Ow w0 NoB u N F115 ([J3]) (((cap1 b24 q1 : LP THost).1, q114) : LP THost)) : W 0 (mkL 6 [0, 1, 2, 3, 4, 5]) ac w := by
    exact od hW ⟨rfl, _, _, _, S.z, o116⟩
   have hK149 ac w u N β (S : St Tryz.prog Tryz.f28.ntmps w0 NoB u N β (σ147.dl [1, 2, 3, 4, 15, 18, 20, 21, 22, 105] [(106, .v (GT.val J3 (q114 0))), (108, .v (I (f_findEntry J3.iobuf (f_tagOf m g) page).1.host))] 3 []) ac w) (o116 : Ow w0 NoB u N F115 ([J3]) (((cap1 b24 q1 : LP THost).1, q114) : LP THost)) (hNN : NN N0 u0 N u) (hBB : BB σ147.bx.length β0 β) : W 3 (mkL 6 [0, 1, 2]) ac w := by
    exact ox1 hW 3 (S.wl hW [4, 5] .nil fun _ _ _ S => hK148 _ _ _ _ _ S o116)
   have hK150 ac w u N β (S : St Tryz.prog Tryz.f28.ntmps w0 NoB u N β (σ147.dl [1, 2, 3, 4, 15, 18, 20, 21, 22, 105] [(107, .p 2 2)] 3 [(1, [slv J3.mem.length (q114 0).mem.1, slv J3.mons.length (q114 0).mons.1, slv J3.buf.length (q114 0).buf.1, slv J3.iobuf.length (q114 0).iobuf.1])]) ac w) (o116 : Ow w0 NoB u N F115 ([J3]) (((cap1 b24 q1 : LP THost).1, q114) : LP THost)) : W 3 (mkL 6 [0, 1, 3]) ac w := by
    exact ox1 hW 2 (S.wl hW [4, 5] .nil fun _ _ _ S => hK148 _ _ _ _ _ S o116)
   have hK151 ac w u N β (S : St Tryz.prog Tryz.f28.ntmps w0 NoB u N β (σ147.dl [1, 2, 3, 4, 15, 18, 20, 21, 22, 105] [(106, .v (GT.val J3 (q114 0))), (107, .p 2 2)] 3 []) ac w) (o116 : Ow w0 NoB u N F115 ([J3]) (((cap1 b24 q1 : LP THost).1, q114) : LP THost)) (hNN : NN N0 u0 N u) (hBB : BB σ147.bx.length β0 β) : W 4 (mkL 6 [0, 1]) ac w := by
    exact ox2 hW 2 3 (S.wq hW hNN hBB [] .nil fun _ _ _ S hB => hK149 _ _ _ _ _ S o116 hNN hB) (S.wl hW [] .nil fun _ _ _ S => hK150 _ _ _ _ _ S o116)
   rw [hW]
   exact S.wh hW [1] (fun _ => S.rcx) fun _ S => hK151 _ _ _ _ _ S o116 (fun _ h => ⟨h, rfl⟩) (fun _ _ => rfl)
  clear S o116
  rintro ac w ⟨u, N, β, S, o116⟩
  refine S.ex fun S => ?_
  refine S.gr 2 .nil [GT.val J3 (q114 0), I (f_findEntry J3.iobuf (f_tagOf m g) page).1.host, B true] fun ac w β S => ?_
  obtain ⟨F152, o153, s154, _⟩ := foc2_id o116 (k := 0) (Nat.succ_pos 0)
  change Ow w0 NoB _ _ F152 J3 (q114 0) at o153
  exact ret3_of (p' := ()) (p'' := ()) S (show (f_lookup h m g page need true).1 = J3 from k0_impl_lookup) (show (f_lookup h m g page need true).2.1 = (f_findEntry J3.iobuf (f_tagOf m g) page).1.host from k0_impl_lookup) (show (f_lookup h m g page need true).2.2 = true from k0_impl_lookup) rfl rfl rfl o153 (REntry.host (d := (f_findEntry J3.iobuf (f_tagOf m g) page).1) i141) trivial
 have i155 : RSlot (f_ask (el (el J3.mons m.toNat).tables g.toNat) page).1 := (ask_r (LRd.el (RMon.tables (d := (el J3.mons m.toNat)) (LRd.el (capx_mons o116.rn) m.toNat (by omega))) g.toNat (by omega)) page)
 refine S.go 26 (.cons (Q_cell o116.rn (t := 28) (k := 0) (j := 1) (v := slv J3.mons.length (q114 0).mons.1) (Nat.succ_pos 0) (by kernel_rfl) (by kernel_rfl)) (.cons (qt (capx_mons o116.rn) m Tryz.underlying28) (.cons (qc (capx_mons o116.rn) 71 m.toNat 7 (slv (el J3.mons m.toNat).tables.length ((q114 0).mons.2 m.toNat).tables.1)) (.cons (qt (RMon.tables (d := (el J3.mons m.toNat)) (LRd.el (capx_mons o116.rn) m.toNat (by omega))) g Tryz.underlying71) (.cons (qs (RMon.tables (d := (el J3.mons m.toNat)) (LRd.el (capx_mons o116.rn) m.toNat (by omega))) 96 g.toNat) (.cons (Q_call fun w hw => c_impl_Ask w (el (el J3.mons m.toNat).tables g.toNat) (((q114 0).mons.2 m.toNat).tables.2 g.toNat) (rd_of (LRd.el (RMon.tables (d := (el J3.mons m.toNat)) (LRd.el (capx_mons o116.rn) m.toNat (by omega))) g.toNat (by omega)) hw) page) .nil)))))) fun ac w β S => ?_
 refine S.cq ⟨[(1, .v (I m)), (2, .v (I g)), (3, .v (I page)), (4, .v (I need)), (12, .p 1 0), (15, .v (pt ((cap1 b24 q1 : LP THost).1).b (((cap1 b24 q1 : LP THost).1).off + 0 * 4))), (18, .v (I (f_walkInner (el (f_monAt h m).1.guests g.toNat).live page need).1)), (20, .v (pt ((cap1 b24 q1 : LP THost).1).b (((cap1 b24 q1 : LP THost).1).off + 0 * 4 + 3))), (21, .v (I (f_tagOf m g))), (24, .p 3 0), (136, .v (B (((!(f_ask (el (el J3.mons m.toNat).tables g.toNat) page).2) || ((f_ask (el (el J3.mons m.toNat).tables g.toNat) page).1.page == (-1))) || (!(f_enough (f_ask (el (el J3.mons m.toNat).tables g.toNat) page).1.rights need)))))], [GT.cells h ph, Zc THost, GT.cells (f_findEntry J3.iobuf (f_tagOf m g) page).1 (), GT.cells (f_ask (el (el J3.mons m.toNat).tables g.toNat) page).1 ()]⟩ ?_ ?_
 ·clear S; intro S
  refine S.gb 4 .nil (!(f_ask (el (el J3.mons m.toNat).tables g.toNat) page).2) (fun ac w β h156 S => ?_) (fun ac w β h156 S => ?_)
  ·have h157 := not_t h156
   exact S.gn 12 .nil fun ac w β S => ⟨rfl, _, by rw [h156]; exact S.z⟩
  have h158 := not_f h156
  refine S.gd 5 .nil ((f_ask (el (el J3.mons m.toNat).tables g.toNat) page).1.page == (-1)) (fun ac w β h159 g160 S => ?_) (fun ac w β h159 g160 S => ?_)
  ·exact S.gn 7 .nil fun ac w β S => ⟨rfl, _, by rw [h156, h159]; exact S.z⟩
  exact S.gn 7 (.cons (Q_call fun w hw => c_impl_Enough w (f_ask (el (el J3.mons m.toNat).tables g.toNat) page).1.rights need) .nil) fun ac w β S => ⟨rfl, _, by rw [h156, h159]; exact S.z⟩
 clear S; intro ac w β S
 refine S.gb 1 .nil (((!(f_ask (el (el J3.mons m.toNat).tables g.toNat) page).2) || ((f_ask (el (el J3.mons m.toNat).tables g.toNat) page).1.page == (-1))) || (!(f_enough (f_ask (el (el J3.mons m.toNat).tables g.toNat) page).1.rights need))) (fun ac w β h161 S => ?_) (fun ac w β h161 S => ?_)
 ·refine S.go 6 .nil fun ac w β S => S.KC (d := 140) o116 (c_impl_mend w J3 (((cap1 b24 q1 : LP THost).1, q114) : LP THost) F115 (S.ownw o116) (fun b hb => (S.sep b (o116.sub b hb)).1) m (f_walkInner (el (f_monAt h m).1.guests g.toNat).live page need).1 need (by exact (dirtIf_bd hJ3 (walkI (by assumption)).1).1)) fun ac w N p162 F163 S up o164 d166 hq165 => ?_
  change (p162 0).mons.1 = (q114 0).mons.1 at hq165
  clear up d166 o116
  obtain ⟨Y167, hY168⟩ : ∃ z, z = (f_mend J3 m (f_walkInner (el (f_monAt h m).1.guests g.toNat).live page need).1 need) := ⟨_, rfl⟩
  have o169 : Ow w0 NoB w N F163 [Y167] ((((cap1 b24 q1 : LP THost).1), p162) : LP THost) := by rw [hY168]; exact o164
  clear o164
  have l170 := mend_bd2 hY168 (dirtIf_bd hJ3 (walkI (by assumption)).1).1
  try dsimp only at l170
  refine S.go 12 (.cons (Q_cell o169.rn (t := 28) (k := 0) (j := 1) (v := slv Y167.mons.length (p162 0).mons.1) (Nat.succ_pos 0) (by kernel_rfl) (by kernel_rfl)) (.cons (qt (capx_mons o169.rn) m Tryz.underlying28) .nil)) fun ac w β S => ?_
  refine drw ?_
  refine S.draw0 (f := 28) 27 (by kernel_rfl) (by kernel_rfl) fun w S => ?_
  refine S.hq 0 [0] [] [(145, .v (pt (p162 0).mons.1.b ((p162 0).mons.1.off + m.toNat * 9)))] .nil fun ac S => ?_
  refine S.hq 1 [1] [] [(146, .v (pt (p162 0).mons.1.b ((p162 0).mons.1.off + m.toNat * 9)))] .nil fun ac S => ?_
  refine S.hq 2 [2] [] [(147, .v (pt (p162 0).mons.1.b ((p162 0).mons.1.off + m.toNat * 9 + 7)))] .nil fun ac S => ?_
  refine S.hq 3 [3] [] [(148, .v (slv (el Y167.mons m.toNat).tables.length ((p162 0).mons.2 m.toNat).tables.1))] (.cons (qc (capx_mons o169.rn) 71 m.toNat 7 (slv (el Y167.mons m.toNat).tables.length ((p162 0).mons.2 m.toNat).tables.1)) .nil) fun ac S => ?_
  refine S.hq 4 [4] [] [(149, .v (I g))] .nil fun ac S => ?_
  refine S.hq 5 [5] [] [(150, .v (pt (p162 0).mons.1.b ((p162 0).mons.1.off + m.toNat * 9)))] .nil fun ac S => ?_
  refine S.hq 6 [6] [] [(151, .v (pt (p162 0).mons.1.b ((p162 0).mons.1.off + m.toNat * 9)))] .nil fun ac S => ?_
  refine S.hq 7 [7] [] [(152, .v (pt (p162 0).mons.1.b ((p162 0).mons.1.off + m.toNat * 9 + 7)))] .nil fun ac S => ?_
  refine S.hq 8 [8] [] [(153, .v (slv (el Y167.mons m.toNat).tables.length ((p162 0).mons.2 m.toNat).tables.1))] (.cons (qc (capx_mons o169.rn) 71 m.toNat 7 (slv (el Y167.mons m.toNat).tables.length ((p162 0).mons.2 m.toNat).tables.1)) .nil) fun ac S => ?_
  refine S.hq 9 [9] [] [(154, .v (I g))] .nil fun ac S => ?_
  refine S.hq 10 [10] [] [(155, .v (pt ((p162 0).mons.2 m.toNat).tables.1.b (((p162 0).mons.2 m.toNat).tables.1.off + g.toNat * 2)))] (.cons (qt (RMon.tables (d := (el Y167.mons m.toNat)) (LRd.el (capx_mons o169.rn) m.toNat (by omega))) g Tryz.underlying71) .nil) fun ac S => ?_
  refine S.hq 11 [11] [] [(156, .v (GT.val (el (el Y167.mons m.toNat).tables g.toNat) (((p162 0).mons.2 m.toNat).tables.2 g.toNat)))] (.cons (qs (RMon.tables (d := (el Y167.mons m.toNat)) (LRd.el (capx_mons o169.rn) m.toNat (by omega))) 96 g.toNat) .nil) fun ac S => ?_
  refine S.hq 12 [12] [] [(157, .v (pt (p162 0).mons.1.b ((p162 0).mons.1.off + m.toNat * 9)))] .nil fun ac S => ?_
  refine S.hq 13 [13] [] [(158, .v (pt (p162 0).mons.1.b ((p162 0).mons.1.off + m.toNat * 9)))] .nil fun ac S => ?_
  refine S.hq 14 [14] [] [(159, .v (pt (p162 0).mons.1.b ((p162 0).mons.1.off + m.toNat * 9 + 3)))] .nil fun ac S => ?_
  refine S.hq 15 [15] [] [(160, .v (slv (el Y167.mons m.toNat).guests.length ((p162 0).mons.2 m.toNat).guests.1))] (.cons (qc (capx_mons o169.rn) 70 m.toNat 3 (slv (el Y167.mons m.toNat).guests.length ((p162 0).mons.2 m.toNat).guests.1)) .nil) fun ac S => ?_
  refine S.hq 16 [16] [] [(161, .v (I g))] .nil fun ac S => ?_
  refine S.hq 17 [17] [] [(162, .v (pt ((p162 0).mons.2 m.toNat).guests.1.b (((p162 0).mons.2 m.toNat).guests.1.off + g.toNat * 15)))] (.cons (qt (RMon.guests (d := (el Y167.mons m.toNat)) (LRd.el (capx_mons o169.rn) m.toNat (by omega))) g Tryz.underlying70) .nil) fun ac S => ?_
  refine S.hq 18 [18] [] [(163, .v (pt ((p162 0).mons.2 m.toNat).guests.1.b (((p162 0).mons.2 m.toNat).guests.1.off + g.toNat * 15 + 4)))] .nil fun ac S => ?_
  refine S.hq 19 [19] [] [(164, .v (slv (el (el Y167.mons m.toNat).guests g.toNat).live.length (((p162 0).mons.2 m.toNat).guests.2 g.toNat).live.1))] (.cons (qc (RMon.guests (d := (el Y167.mons m.toNat)) (LRd.el (capx_mons o169.rn) m.toNat (by omega))) 69 g.toNat 4 (slv (el (el Y167.mons m.toNat).guests g.toNat).live.length (((p162 0).mons.2 m.toNat).guests.2 g.toNat).live.1)) .nil) fun ac S => ?_
  refine S.hq 20 [20] [] [(165, .v (pt (p162 0).mons.1.b ((p162 0).mons.1.off + m.toNat * 9)))] .nil fun ac S => ?_
  refine S.hq 21 [21] [] [(166, .v (pt (p162 0).mons.1.b ((p162 0).mons.1.off + m.toNat * 9)))] .nil fun ac S => ?_
  refine S.hq 22 [22] [] [(167, .v (pt (p162 0).mons.1.b ((p162 0).mons.1.off + m.toNat * 9)))] .nil fun ac S => ?_
  refine S.hq 23 [23] [] [(168, .v (slv (el Y167.mons m.toNat).outer.length ((p162 0).mons.2 m.toNat).outer.1))] (.cons (qc (capx_mons o169.rn) 69 m.toNat 0 (slv (el Y167.mons m.toNat).outer.length ((p162 0).mons.2 m.toNat).outer.1)) .nil) fun ac S => ?_
  refine S.hq 24 [24] [] [(169, .v (I page))] .nil fun ac S => ?_
  refine WD.one (i := 25) (by kernel_rfl) ?_
  refine id (S.k1 170 (c_impl_Fill w (el (el Y167.mons m.toNat).tables g.toNat) (((p162 0).mons.2 m.toNat).tables.2 g.toNat) (S.rd (LRd.el (RMon.tables (d := (el Y167.mons m.toNat)) (LRd.el (capx_mons o169.rn) m.toNat (by omega))) g.toNat (by omega))) (el (el Y167.mons m.toNat).guests g.toNat).live (((p162 0).mons.2 m.toNat).guests.2 g.toNat).live (S.rd (RGuest.live (d := (el (el Y167.mons m.toNat).guests g.toNat)) (LRd.el (RMon.guests (d := (el Y167.mons m.toNat)) (LRd.el (capx_mons o169.rn) m.toNat (by omega))) g.toNat (by omega)))) (el Y167.mons m.toNat).outer ((p162 0).mons.2 m.toNat).outer (S.rd (RMon.outer (d := (el Y167.mons m.toNat)) (LRd.el (capx_mons o169.rn) m.toNat (by omega)))) page) fun ac w N q171 F172 S up o173 d174 => ?_)
  refine WD.next S up (by kernel_rfl) ?_
  have d175 := Disj.w d174 o169.sub
  replace o169 := o169.up up
  clear up d174
  obtain ⟨F176, F179, o177, o180, s178, s181, d182⟩ := sp_Kept o173
  refine S.hq 26 [26] [] [(170, .v (GT.val (f_fill (el (el Y167.mons m.toNat).tables g.toNat) (el (el Y167.mons m.toNat).guests g.toNat).live (el Y167.mons m.toNat).outer page) q171)), (171, .v (pt ((p162 0).mons.2 m.toNat).tables.1.b (((p162 0).mons.2 m.toNat).tables.1.off + g.toNat * 2)))] (.cons (qt (RMon.tables (d := (el Y167.mons m.toNat)) (LRd.el (capx_mons o169.rn) m.toNat (by omega))) g Tryz.underlying71) .nil) fun ac S => ?_
  refine WD.one (i := 27) (by kernel_rfl) ?_
  obtain ⟨F183, o184, s185, b186⟩ := foc_cap o169 (fun _ o => foc2_Mon_tables o (k := m.toNat) (show m.toNat < Y167.mons.length by omega))
  change Ow w0 NoB _ _ F183 (el Y167.mons m.toNat).tables ((p162 0).mons.2 m.toNat).tables at o184
  have l187 := LRd.le o184.rn
  have n188 := o184.sub
  have o193 := ow_Kept (x := (f_fill (el (el Y167.mons m.toNat).tables g.toNat) (el (el Y167.mons m.toNat).guests g.toNat).live (el Y167.mons m.toNat).outer page)) (p := q171) o177 o180 d182 
  refine id (S.sV (α := TKept) o184 (t := 96) (k := g.toNat) (off := ((p162 0).mons.2 m.toNat).tables.1.off + g.toNat * 2) o193 (Disj.symm (Disj.or (Disj.symm (Disj.part (Disj.symm (Disj.part (Disj.symm d175) s178)) s185)) (Disj.or (Disj.symm (Disj.part (Disj.symm (Disj.part (Disj.symm d175) s181)) s185)) Disj.nob))) fun w N F190 q191 S up o189 d192 s194 n195 => ?_)
  refine WD.last (by kernel_rfl) ?_
  clear d192 o184
  obtain ⟨p196, o197, hq199⟩ := b186 _ _ _ _ _ (uniB [F176, F179]) up o189 s194 (Disj.symm (Disj.or (Disj.part (Disj.symm d175) s178) (Disj.or (Disj.part (Disj.symm d175) s181) Disj.nob))) List.length_set n195
  obtain ⟨X201, hX202⟩ : ∃ z, z = Y167.mons.set m.toNat { el Y167.mons m.toNat with tables := ((el Y167.mons m.toNat).tables.set g.toNat (f_fill (el (el Y167.mons m.toNat).tables g.toNat) (el (el Y167.mons m.toNat).guests g.toNat).live (el Y167.mons m.toNat).outer page)) } := ⟨_, rfl⟩
  have o200 : Ow w0 NoB w N (Or F163 F190) [(⟨Y167.mem, X201, Y167.buf, Y167.iobuf⟩ : THost)] (((((cap1 b24 q1 : LP THost).1)), p196) : LP THost) := by rw [hX202]; exact o197
  obtain ⟨l203, e204⟩ := setm_tables hX202 (show m.toNat < Y167.mons.length by omega) List.length_set
  change (p196 0).mons.1 = (p162 0).mons.1 at hq199
  clear up o189 n195 o197
  refine WD.done (by kernel_rfl) ?_ _
  refine S.ex fun S => ?_
  have i205 : RSlot (f_ask (el (el X201 m.toNat).tables g.toNat) page).1 := (ask_r (LRd.el (RMon.tables (d := (el X201 m.toNat)) (LRd.el (rd_hdr hq199 (cap_mons o200.rn)) m.toNat (by omega))) g.toNat (by omega)) page)
  refine S.go 18 (.cons (qc (rd_hdr hq199 (cap_mons o200.rn)) 71 m.toNat 7 (slv (el X201 m.toNat).tables.length (((p196 0).mons.2) m.toNat).tables.1)) (.cons (qt (RMon.tables (d := (el X201 m.toNat)) (LRd.el (rd_hdr hq199 (cap_mons o200.rn)) m.toNat (by omega))) g Tryz.underlying71) (.cons (qs (RMon.tables (d := (el X201 m.toNat)) (LRd.el (rd_hdr hq199 (cap_mons o200.rn)) m.toNat (by omega))) 96 g.toNat) (.cons (Q_call fun w hw => c_impl_Ask w (el (el X201 m.toNat).tables g.toNat) ((((p196 0).mons.2) m.toNat).tables.2 g.toNat) (rd_of (LRd.el (RMon.tables (d := (el X201 m.toNat)) (LRd.el (rd_hdr hq199 (cap_mons o200.rn)) m.toNat (by omega))) g.toNat (by omega)) hw) page) .nil)))) fun ac w β S => ?_
  refine drw ?_
  refine S.draw0 (f := 14) 13 (by kernel_rfl) (by kernel_rfl) fun w S => ?_
  refine S.hq 0 [0] [] [(184, .v (pt ((((cap1 b24 q1 : LP THost).1))).b (((((cap1 b24 q1 : LP THost).1))).off + 0 * 4 + 3)))] .nil fun ac S => ?_
  refine S.hq 1 [1] [] [(185, .v (pt ((((cap1 b24 q1 : LP THost).1))).b (((((cap1 b24 q1 : LP THost).1))).off + 0 * 4 + 3)))] .nil fun ac S => ?_
  refine S.hq 2 [2] [] [(186, .v (pt ((((cap1 b24 q1 : LP THost).1))).b (((((cap1 b24 q1 : LP THost).1))).off + 0 * 4 + 3)))] .nil fun ac S => ?_
  refine S.hq 3 [3] [] [(187, .v (slv Y167.iobuf.length (p196 0).iobuf.1))] (.cons (Q_cell o200.rn (t := 29) (k := 0) (j := 3) (v := slv Y167.iobuf.length (p196 0).iobuf.1) (Nat.succ_pos 0) (by kernel_rfl) (by kernel_rfl)) .nil) fun ac S => ?_
  refine S.hq 4 [4] [] [(188, .v (I (f_tagOf m g)))] .nil fun ac S => ?_
  refine S.hq 5 [5] [] [(189, .v (I page))] .nil fun ac S => ?_
  refine S.hq 6 [6] [] [(190, .p 3 0)] .nil fun ac S => ?_
  refine S.hq 7 [7] [] [(191, .v (I (f_ask (el (el X201 m.toNat).tables g.toNat) page).1.page))] .nil fun ac S => ?_
  refine S.hq 8 [8] [] [(192, .p 3 1)] .nil fun ac S => ?_
  refine S.hq 9 [9] [] [(193, .v (I (f_ask (el (el X201 m.toNat).tables g.toNat) page).1.rights))] .nil fun ac S => ?_
  refine S.hq 10 [10] [] [(194, .v (GT.val (⟨(f_tagOf m g), page, (f_ask (el (el X201 m.toNat).tables g.toNat) page).1.page, (f_ask (el (el X201 m.toNat).tables g.toNat) page).1.rights⟩ : TEntry) ()))] (.cons (Q_sem (s := Instr.build 87 [(0, I (f_tagOf m g)), (1, I page), (2, I (f_ask (el (el X201 m.toNat).tables g.toNat) page).1.page), (3, I (f_ask (el (el X201 m.toNat).tables g.toNat) page).1.rights)].toArray) (v := .agg [I (f_tagOf m g), I page, I (f_ask (el (el X201 m.toNat).tables g.toNat) page).1.page, I (f_ask (el (el X201 m.toNat).tables g.toNat) page).1.rights].toArray) (fun w => by kernel_rfl)) .nil) fun ac S => ?_
  refine WD.one (i := 11) (by kernel_rfl) ?_
  refine id (S.k1 195 (c_impl_PutEntry w Y167.iobuf (p196 0).iobuf (S.rd (cap_iobuf o200.rn)) (⟨(f_tagOf m g), page, (f_ask (el (el X201 m.toNat).tables g.toNat) page).1.page, (f_ask (el (el X201 m.toNat).tables g.toNat) page).1.rights⟩ : TEntry) (show REntry (⟨(f_tagOf m g), page, (f_ask (el (el X201 m.toNat).tables g.toNat) page).1.page, (f_ask (el (el X201 m.toNat).tables g.toNat) page).1.rights⟩ : TEntry) from ⟨(tagOf_in64 m g), hpage, (RSlot.page (d := (f_ask (el (el X201 m.toNat).tables g.toNat) page).1) i205), (RSlot.rights (d := (f_ask (el (el X201 m.toNat).tables g.toNat) page).1) i205)⟩) (by (first | omega | (dsimp only; omega)))) fun ac w N q206 F207 S up o208 d209 => ?_)
  refine WD.next S up (by kernel_rfl) ?_
  have d210 := Disj.w d209 o200.sub
  replace o200 := o200.up up
  clear up d209
  refine S.hq 12 [12] [] [(195, .v (slv (f_putEntry Y167.iobuf (⟨(f_tagOf m g), page, (f_ask (el (el X201 m.toNat).tables g.toNat) page).1.page, (f_ask (el (el X201 m.toNat).tables g.toNat) page).1.rights⟩ : TEntry)).length q206.1)), (196, .v (pt ((((cap1 b24 q1 : LP THost).1))).b (((((cap1 b24 q1 : LP THost).1))).off + 0 * 4 + 3)))] .nil fun ac S => ?_
  refine WD.one (i := 13) (by kernel_rfl) ?_
  refine id (S.setElE (α := THost) o200 (t := 29) (v := slv (f_putEntry Y167.iobuf (⟨(f_tagOf m g), page, (f_ask (el (el X201 m.toNat).tables g.toNat) page).1.page, (f_ask (el (el X201 m.toNat).tables g.toNat) page).1.rights⟩ : TEntry)).length q206.1) (k := 0) (j := 3) (off := ((((cap1 b24 q1 : LP THost).1))).off + 0 * 4 + 3) (y := (⟨Y167.mem, X201, Y167.buf, (f_putEntry Y167.iobuf (⟨(f_tagOf m g), page, (f_ask (el (el X201 m.toNat).tables g.toNat) page).1.page, (f_ask (el (el X201 m.toNat).tables g.toNat) page).1.rights⟩ : TEntry))⟩ : THost)) (q := ({ (p196 0) with iobuf := q206 } : PHost)) (Fy := F207) (by kernel_rfl) (by kernel_rfl) (Nat.succ_pos 0) (by kernel_rfl) (by kernel_rfl) (Nat.le_of_ble_eq_true (by kernel_rfl)) (by kernel_rfl) (fun G g_ gF => ⟨_, owl_Host_iobuf g_ o208.own (fun b h h2 => d210 b (gF b h) h2), fun _ h => h⟩) d210 o208.sub o208.young fun w N F212 S up o211 d214 s215 n216 => ?_)
  refine WD.last (by kernel_rfl) ?_
  obtain ⟨q213, o217, hq218⟩ : ∃ q213 : Nat → PHost, Ow w0 NoB _ _ F212 [(⟨Y167.mem, X201, Y167.buf, (f_putEntry Y167.iobuf (⟨(f_tagOf m g), page, (f_ask (el (el X201 m.toNat).tables g.toNat) page).1.page, (f_ask (el (el X201 m.toNat).tables g.toNat) page).1.rights⟩ : TEntry))⟩ : THost)] ((((((cap1 b24 q1 : LP THost).1))), q213) : LP THost) ∧ (q213 0).mons.1 = (p196 0).mons.1 := ⟨_, o211, rfl⟩
  clear up d214 o200 o211 s215 n216
  refine WD.done (by kernel_rfl) ?_ _
  refine S.ex fun S => ?_
  refine S.go 2 .nil fun ac w β S => ?_
  refine drw ?_
  let σ219 : Sy := ⟨[(12, .p 1 0), (15, .v (pt (((((cap1 b24 q1 : LP THost).1)))).b ((((((cap1 b24 q1 : LP THost).1)))).off + 0 * 4))), (24, .p 3 0)], [GT.cells h ph, Zc THost, GT.cells (f_findEntry J3.iobuf (f_tagOf m g) page).1 (), GT.cells (f_ask (el (el X201 m.toNat).tables g.toNat) page).1 ()]⟩
  obtain ⟨u0, N0, β0, S, o217⟩ : ∃ u0 N0 β0, St Tryz.prog Tryz.f28.ntmps w0 NoB u0 N0 β0 σ219 ac w ∧ Ow w0 NoB u0 N0 F212 ([(⟨Y167.mem, X201, Y167.buf, (f_putEntry Y167.iobuf (⟨(f_tagOf m g), page, (f_ask (el (el X201 m.toNat).tables g.toNat) page).1.page, (f_ask (el (el X201 m.toNat).tables g.toNat) page).1.rights⟩ : TEntry))⟩ : THost)]) ((((((cap1 b24 q1 : LP THost).1))), q213) : LP THost) := ⟨_, _, _, S.z, o217⟩
  refine wp_region_cut (fun ac w => ∃  u N β, St Tryz.prog Tryz.f28.ntmps w0 NoB u N β (σ219.dl [15, 24] [(13, .v (I (f_ask (el (el X201 m.toNat).tables g.toNat) page).1.page)), (14, .v (B true))] 2 [(1, [slv Y167.mem.length (q213 0).mem.1, slv X201.length (q213 0).mons.1, slv Y167.buf.length (q213 0).buf.1, slv (f_putEntry Y167.iobuf (⟨(f_tagOf m g), page, (f_ask (el (el X201 m.toNat).tables g.toNat) page).1.page, (f_ask (el (el X201 m.toNat).tables g.toNat) page).1.rights⟩ : TEntry)).length (q213 0).iobuf.1])]) ac w ∧ Ow w0 NoB u N F212 ([(⟨Y167.mem, X201, Y167.buf, (f_putEntry Y167.iobuf (⟨(f_tagOf m g), page, (f_ask (el (el X201 m.toNat).tables g.toNat) page).1.page, (f_ask (el (el X201 m.toNat).tables g.toNat) page).1.rights⟩ : TEntry))⟩ : THost)]) ((((((cap1 b24 q1 : LP THost).1))), q213) : LP THost)) ?_ ?_
  ·refine S.draw0 (f := 6) 3 (by kernel_rfl) (by kernel_rfl) fun w S => ?_
   refine S.hq 0 [0] [] [(197, .v (GT.val (⟨Y167.mem, X201, Y167.buf, (f_putEntry Y167.iobuf (⟨(f_tagOf m g), page, (f_ask (el (el X201 m.toNat).tables g.toNat) page).1.page, (f_ask (el (el X201 m.toNat).tables g.toNat) page).1.rights⟩ : TEntry))⟩ : THost) (q213 0)))] (.cons (Q_el o217.rn (t := 31) (k := 0) (Nat.succ_pos 0) rfl (by kernel_rfl) (by kernel_rfl)) .nil) fun ac S => ?_
   refine WD.nameW fun W hW => ?_
   refine WD.castW (l' := mkL 6 [0]) (by kernel_rfl) ?_
   have hK220 ac w u N β (S : St Tryz.prog Tryz.f28.ntmps w0 NoB u N β (σ219.dl [15, 24] [(13, .v (I (f_ask (el (el X201 m.toNat).tables g.toNat) page).1.page)), (14, .v (B true))] 4 [(1, [slv Y167.mem.length (q213 0).mem.1, slv X201.length (q213 0).mons.1, slv Y167.buf.length (q213 0).buf.1, slv (f_putEntry Y167.iobuf (⟨(f_tagOf m g), page, (f_ask (el (el X201 m.toNat).tables g.toNat) page).1.page, (f_ask (el (el X201 m.toNat).tables g.toNat) page).1.rights⟩ : TEntry)).length (q213 0).iobuf.1])]) ac w) (o217 : Ow w0 NoB u N F212 ([(⟨Y167.mem, X201, Y167.buf, (f_putEntry Y167.iobuf (⟨(f_tagOf m g), page, (f_ask (el (el X201 m.toNat).tables g.toNat) page).1.page, (f_ask (el (el X201 m.toNat).tables g.toNat) page).1.rights⟩ : TEntry))⟩ : THost)]) ((((((cap1 b24 q1 : LP THost).1))), q213) : LP THost)) : W 0 (mkL 6 [0, 1, 2, 3, 4, 5]) ac w := by
    exact od hW ⟨rfl, _, _, _, S.z, o217⟩
   have hK221 ac w u N β (S : St Tryz.prog Tryz.f28.ntmps w0 NoB u N β (σ219.dl [15, 24] [(197, .v (GT.val (⟨Y167.mem, X201, Y167.buf, (f_putEntry Y167.iobuf (⟨(f_tagOf m g), page, (f_ask (el (el X201 m.toNat).tables g.toNat) page).1.page, (f_ask (el (el X201 m.toNat).tables g.toNat) page).1.rights⟩ : TEntry))⟩ : THost) (q213 0))), (199, .v (I (f_ask (el (el X201 m.toNat).tables g.toNat) page).1.page))] 4 []) ac w) (o217 : Ow w0 NoB u N F212 ([(⟨Y167.mem, X201, Y167.buf, (f_putEntry Y167.iobuf (⟨(f_tagOf m g), page, (f_ask (el (el X201 m.toNat).tables g.toNat) page).1.page, (f_ask (el (el X201 m.toNat).tables g.toNat) page).1.rights⟩ : TEntry))⟩ : THost)]) ((((((cap1 b24 q1 : LP THost).1))), q213) : LP THost)) (hNN : NN N0 u0 N u) (hBB : BB σ219.bx.length β0 β) : W 3 (mkL 6 [0, 1, 2]) ac w := by
    exact ox1 hW 3 (S.wl hW [4, 5] .nil fun _ _ _ S => hK220 _ _ _ _ _ S o217)
   have hK222 ac w u N β (S : St Tryz.prog Tryz.f28.ntmps w0 NoB u N β (σ219.dl [15, 24] [(198, .p 3 0)] 4 [(1, [slv Y167.mem.length (q213 0).mem.1, slv X201.length (q213 0).mons.1, slv Y167.buf.length (q213 0).buf.1, slv (f_putEntry Y167.iobuf (⟨(f_tagOf m g), page, (f_ask (el (el X201 m.toNat).tables g.toNat) page).1.page, (f_ask (el (el X201 m.toNat).tables g.toNat) page).1.rights⟩ : TEntry)).length (q213 0).iobuf.1])]) ac w) (o217 : Ow w0 NoB u N F212 ([(⟨Y167.mem, X201, Y167.buf, (f_putEntry Y167.iobuf (⟨(f_tagOf m g), page, (f_ask (el (el X201 m.toNat).tables g.toNat) page).1.page, (f_ask (el (el X201 m.toNat).tables g.toNat) page).1.rights⟩ : TEntry))⟩ : THost)]) ((((((cap1 b24 q1 : LP THost).1))), q213) : LP THost)) : W 3 (mkL 6 [0, 1, 3]) ac w := by
    exact ox1 hW 2 (S.wl hW [4, 5] .nil fun _ _ _ S => hK220 _ _ _ _ _ S o217)
   have hK223 ac w u N β (S : St Tryz.prog Tryz.f28.ntmps w0 NoB u N β (σ219.dl [15, 24] [(197, .v (GT.val (⟨Y167.mem, X201, Y167.buf, (f_putEntry Y167.iobuf (⟨(f_tagOf m g), page, (f_ask (el (el X201 m.toNat).tables g.toNat) page).1.page, (f_ask (el (el X201 m.toNat).tables g.toNat) page).1.rights⟩ : TEntry))⟩ : THost) (q213 0))), (198, .p 3 0)] 4 []) ac w) (o217 : Ow w0 NoB u N F212 ([(⟨Y167.mem, X201, Y167.buf, (f_putEntry Y167.iobuf (⟨(f_tagOf m g), page, (f_ask (el (el X201 m.toNat).tables g.toNat) page).1.page, (f_ask (el (el X201 m.toNat).tables g.toNat) page).1.rights⟩ : TEntry))⟩ : THost)]) ((((((cap1 b24 q1 : LP THost).1))), q213) : LP THost)) (hNN : NN N0 u0 N u) (hBB : BB σ219.bx.length β0 β) : W 4 (mkL 6 [0, 1]) ac w := by
    exact ox2 hW 2 3 (S.wq hW hNN hBB [] .nil fun _ _ _ S hB => hK221 _ _ _ _ _ S o217 hNN hB) (S.wl hW [] .nil fun _ _ _ S => hK222 _ _ _ _ _ S o217)
   rw [hW]
   exact S.wh hW [1] (fun _ => S.rcx) fun _ S => hK223 _ _ _ _ _ S o217 (fun _ h => ⟨h, rfl⟩) (fun _ _ => rfl)
  clear S o217
  rintro ac w ⟨u, N, β, S, o217⟩
  refine S.ex fun S => ?_
  refine S.gr 2 .nil [GT.val (⟨Y167.mem, X201, Y167.buf, (f_putEntry Y167.iobuf (⟨(f_tagOf m g), page, (f_ask (el (el X201 m.toNat).tables g.toNat) page).1.page, (f_ask (el (el X201 m.toNat).tables g.toNat) page).1.rights⟩ : TEntry))⟩ : THost) (q213 0), I (f_ask (el (el X201 m.toNat).tables g.toNat) page).1.page, B true] fun ac w β S => ?_
  obtain ⟨F224, o225, s226, _⟩ := foc2_id o217 (k := 0) (Nat.succ_pos 0)
  change Ow w0 NoB _ _ F224 (⟨Y167.mem, X201, Y167.buf, (f_putEntry Y167.iobuf (⟨(f_tagOf m g), page, (f_ask (el (el X201 m.toNat).tables g.toNat) page).1.page, (f_ask (el (el X201 m.toNat).tables g.toNat) page).1.rights⟩ : TEntry))⟩ : THost) (q213 0) at o225
  exact ret3_of (p' := ()) (p'' := ()) S (show (f_lookup h m g page need true).1 = (⟨Y167.mem, X201, Y167.buf, (f_putEntry Y167.iobuf (⟨(f_tagOf m g), page, (f_ask (el (el X201 m.toNat).tables g.toNat) page).1.page, (f_ask (el (el X201 m.toNat).tables g.toNat) page).1.rights⟩ : TEntry))⟩ : THost) from k0_impl_lookup) (show (f_lookup h m g page need true).2.1 = (f_ask (el (el X201 m.toNat).tables g.toNat) page).1.page from k0_impl_lookup) (show (f_lookup h m g page need true).2.2 = true from k0_impl_lookup) rfl rfl rfl o225 (RSlot.page (d := (f_ask (el (el X201 m.toNat).tables g.toNat) page).1) i205) trivial
 obtain ⟨h227, h228⟩ := or_f h161
 obtain ⟨h229, h230⟩ := or_f h227
 have h231 := not_f h229
 have g232 : ¬ ((f_ask (el (el J3.mons m.toNat).tables g.toNat) page).1.page = (-1)) := ne_of_beq_false h230
 have h233 := not_f h228
 have g234 := enough_t h233
 refine S.go 4 .nil fun ac w β S => ?_
 refine drw ?_
 refine S.draw0 (f := 14) 13 (by kernel_rfl) (by kernel_rfl) fun w S => ?_
 refine S.hq 0 [0] [] [(184, .v (pt ((cap1 b24 q1 : LP THost).1).b (((cap1 b24 q1 : LP THost).1).off + 0 * 4 + 3)))] .nil fun ac S => ?_
 refine S.hq 1 [1] [] [(185, .v (pt ((cap1 b24 q1 : LP THost).1).b (((cap1 b24 q1 : LP THost).1).off + 0 * 4 + 3)))] .nil fun ac S => ?_
 refine S.hq 2 [2] [] [(186, .v (pt ((cap1 b24 q1 : LP THost).1).b (((cap1 b24 q1 : LP THost).1).off + 0 * 4 + 3)))] .nil fun ac S => ?_
 refine S.hq 3 [3] [] [(187, .v (slv J3.iobuf.length (q114 0).iobuf.1))] (.cons (Q_cell o116.rn (t := 29) (k := 0) (j := 3) (v := slv J3.iobuf.length (q114 0).iobuf.1) (Nat.succ_pos 0) (by kernel_rfl) (by kernel_rfl)) .nil) fun ac S => ?_
 refine S.hq 4 [4] [] [(188, .v (I (f_tagOf m g)))] .nil fun ac S => ?_
 refine S.hq 5 [5] [] [(189, .v (I page))] .nil fun ac S => ?_
 refine S.hq 6 [6] [] [(190, .p 3 0)] .nil fun ac S => ?_
 refine S.hq 7 [7] [] [(191, .v (I (f_ask (el (el J3.mons m.toNat).tables g.toNat) page).1.page))] .nil fun ac S => ?_
 refine S.hq 8 [8] [] [(192, .p 3 1)] .nil fun ac S => ?_
 refine S.hq 9 [9] [] [(193, .v (I (f_ask (el (el J3.mons m.toNat).tables g.toNat) page).1.rights))] .nil fun ac S => ?_
 refine S.hq 10 [10] [] [(194, .v (GT.val (⟨(f_tagOf m g), page, (f_ask (el (el J3.mons m.toNat).tables g.toNat) page).1.page, (f_ask (el (el J3.mons m.toNat).tables g.toNat) page).1.rights⟩ : TEntry) ()))] (.cons (Q_sem (s := Instr.build 87 [(0, I (f_tagOf m g)), (1, I page), (2, I (f_ask (el (el J3.mons m.toNat).tables g.toNat) page).1.page), (3, I (f_ask (el (el J3.mons m.toNat).tables g.toNat) page).1.rights)].toArray) (v := .agg [I (f_tagOf m g), I page, I (f_ask (el (el J3.mons m.toNat).tables g.toNat) page).1.page, I (f_ask (el (el J3.mons m.toNat).tables g.toNat) page).1.rights].toArray) (fun w => by kernel_rfl)) .nil) fun ac S => ?_
 refine WD.one (i := 11) (by kernel_rfl) ?_
 refine id (S.k1 195 (c_impl_PutEntry w J3.iobuf (q114 0).iobuf (S.rd (capx_iobuf o116.rn)) (⟨(f_tagOf m g), page, (f_ask (el (el J3.mons m.toNat).tables g.toNat) page).1.page, (f_ask (el (el J3.mons m.toNat).tables g.toNat) page).1.rights⟩ : TEntry) (show REntry (⟨(f_tagOf m g), page, (f_ask (el (el J3.mons m.toNat).tables g.toNat) page).1.page, (f_ask (el (el J3.mons m.toNat).tables g.toNat) page).1.rights⟩ : TEntry) from ⟨(tagOf_in64 m g), hpage, (RSlot.page (d := (f_ask (el (el J3.mons m.toNat).tables g.toNat) page).1) i155), (RSlot.rights (d := (f_ask (el (el J3.mons m.toNat).tables g.toNat) page).1) i155)⟩) (by (first | omega | (dsimp only; omega)))) fun ac w N q235 F236 S up o237 d238 => ?_)
 refine WD.next S up (by kernel_rfl) ?_
 have d239 := Disj.w d238 o116.sub
 replace o116 := o116.up up
 clear up d238
 refine S.hq 12 [12] [] [(195, .v (slv (f_putEntry J3.iobuf (⟨(f_tagOf m g), page, (f_ask (el (el J3.mons m.toNat).tables g.toNat) page).1.page, (f_ask (el (el J3.mons m.toNat).tables g.toNat) page).1.rights⟩ : TEntry)).length q235.1)), (196, .v (pt ((cap1 b24 q1 : LP THost).1).b (((cap1 b24 q1 : LP THost).1).off + 0 * 4 + 3)))] .nil fun ac S => ?_
 refine WD.one (i := 13) (by kernel_rfl) ?_
 refine id (S.setElE (α := THost) o116 (t := 29) (v := slv (f_putEntry J3.iobuf (⟨(f_tagOf m g), page, (f_ask (el (el J3.mons m.toNat).tables g.toNat) page).1.page, (f_ask (el (el J3.mons m.toNat).tables g.toNat) page).1.rights⟩ : TEntry)).length q235.1) (k := 0) (j := 3) (off := ((cap1 b24 q1 : LP THost).1).off + 0 * 4 + 3) (y := (⟨J3.mem, J3.mons, J3.buf, (f_putEntry J3.iobuf (⟨(f_tagOf m g), page, (f_ask (el (el J3.mons m.toNat).tables g.toNat) page).1.page, (f_ask (el (el J3.mons m.toNat).tables g.toNat) page).1.rights⟩ : TEntry))⟩ : THost)) (q := ({ (q114 0) with iobuf := q235 } : PHost)) (Fy := F236) (by kernel_rfl) (by kernel_rfl) (Nat.succ_pos 0) (by kernel_rfl) (by kernel_rfl) (Nat.le_of_ble_eq_true (by kernel_rfl)) (by kernel_rfl) (fun G g_ gF => ⟨_, owl_Host_iobuf g_ o237.own (fun b h h2 => d239 b (gF b h) h2), fun _ h => h⟩) d239 o237.sub o237.young fun w N F241 S up o240 d243 s244 n245 => ?_)
 refine WD.last (by kernel_rfl) ?_
 obtain ⟨q242, o246, hq247⟩ : ∃ q242 : Nat → PHost, Ow w0 NoB _ _ F241 [(⟨J3.mem, J3.mons, J3.buf, (f_putEntry J3.iobuf (⟨(f_tagOf m g), page, (f_ask (el (el J3.mons m.toNat).tables g.toNat) page).1.page, (f_ask (el (el J3.mons m.toNat).tables g.toNat) page).1.rights⟩ : TEntry))⟩ : THost)] ((((cap1 b24 q1 : LP THost).1), q242) : LP THost) ∧ (q242 0).mons.1 = (q114 0).mons.1 := ⟨_, o240, rfl⟩
 clear up d243 o116 o240 s244 n245
 refine WD.done (by kernel_rfl) ?_ _
 refine S.ex fun S => ?_
 refine S.go 2 .nil fun ac w β S => ?_
 refine drw ?_
 let σ248 : Sy := ⟨[(12, .p 1 0), (15, .v (pt (((cap1 b24 q1 : LP THost).1)).b ((((cap1 b24 q1 : LP THost).1)).off + 0 * 4))), (24, .p 3 0)], [GT.cells h ph, Zc THost, GT.cells (f_findEntry J3.iobuf (f_tagOf m g) page).1 (), GT.cells (f_ask (el (el J3.mons m.toNat).tables g.toNat) page).1 ()]⟩
 obtain ⟨u0, N0, β0, S, o246⟩ : ∃ u0 N0 β0, St Tryz.prog Tryz.f28.ntmps w0 NoB u0 N0 β0 σ248 ac w ∧ Ow w0 NoB u0 N0 F241 ([(⟨J3.mem, J3.mons, J3.buf, (f_putEntry J3.iobuf (⟨(f_tagOf m g), page, (f_ask (el (el J3.mons m.toNat).tables g.toNat) page).1.page, (f_ask (el (el J3.mons m.toNat).tables g.toNat) page).1.rights⟩ : TEntry))⟩ : THost)]) ((((cap1 b24 q1 : LP THost).1), q242) : LP THost) := ⟨_, _, _, S.z, o246⟩
 refine wp_region_cut (fun ac w => ∃  u N β, St Tryz.prog Tryz.f28.ntmps w0 NoB u N β (σ248.dl [15, 24] [(13, .v (I (f_ask (el (el J3.mons m.toNat).tables g.toNat) page).1.page)), (14, .v (B true))] 2 [(1, [slv J3.mem.length (q242 0).mem.1, slv J3.mons.length (q242 0).mons.1, slv J3.buf.length (q242 0).buf.1, slv (f_putEntry J3.iobuf (⟨(f_tagOf m g), page, (f_ask (el (el J3.mons m.toNat).tables g.toNat) page).1.page, (f_ask (el (el J3.mons m.toNat).tables g.toNat) page).1.rights⟩ : TEntry)).length (q242 0).iobuf.1])]) ac w ∧ Ow w0 NoB u N F241 ([(⟨J3.mem, J3.mons, J3.buf, (f_putEntry J3.iobuf (⟨(f_tagOf m g), page, (f_ask (el (el J3.mons m.toNat).tables g.toNat) page).1.page, (f_ask (el (el J3.mons m.toNat).tables g.toNat) page).1.rights⟩ : TEntry))⟩ : THost)]) ((((cap1 b24 q1 : LP THost).1), q242) : LP THost)) ?_ ?_
 ·refine S.draw0 (f := 6) 3 (by kernel_rfl) (by kernel_rfl) fun w S => ?_
  refine S.hq 0 [0] [] [(197, .v (GT.val (⟨J3.mem, J3.mons, J3.buf, (f_putEntry J3.iobuf (⟨(f_tagOf m g), page, (f_ask (el (el J3.mons m.toNat).tables g.toNat) page).1.page, (f_ask (el (el J3.mons m.toNat).tables g.toNat) page).1.rights⟩ : TEntry))⟩ : THost) (q242 0)))] (.cons (Q_el o246.rn (t := 31) (k := 0) (Nat.succ_pos 0) rfl (by kernel_rfl) (by kernel_rfl)) .nil) fun ac S => ?_
  refine WD.nameW fun W hW => ?_
  refine WD.castW (l' := mkL 6 [0]) (by kernel_rfl) ?_
  have hK249 ac w u N β (S : St Tryz.prog Tryz.f28.ntmps w0 NoB u N β (σ248.dl [15, 24] [(13, .v (I (f_ask (el (el J3.mons m.toNat).tables g.toNat) page).1.page)), (14, .v (B true))] 4 [(1, [slv J3.mem.length (q242 0).mem.1, slv J3.mons.length (q242 0).mons.1, slv J3.buf.length (q242 0).buf.1, slv (f_putEntry J3.iobuf (⟨(f_tagOf m g), page, (f_ask (el (el J3.mons m.toNat).tables g.toNat) page).1.page, (f_ask (el (el J3.mons m.toNat).tables g.toNat) page).1.rights⟩ : TEntry)).length (q242 0).iobuf.1])]) ac w) (o246 : Ow w0 NoB u N F241 ([(⟨J3.mem, J3.mons, J3.buf, (f_putEntry J3.iobuf (⟨(f_tagOf m g), page, (f_ask (el (el J3.mons m.toNat).tables g.toNat) page).1.page, (f_ask (el (el J3.mons m.toNat).tables g.toNat) page).1.rights⟩ : TEntry))⟩ : THost)]) ((((cap1 b24 q1 : LP THost).1), q242) : LP THost)) : W 0 (mkL 6 [0, 1, 2, 3, 4, 5]) ac w := by
   exact od hW ⟨rfl, _, _, _, S.z, o246⟩
  have hK250 ac w u N β (S : St Tryz.prog Tryz.f28.ntmps w0 NoB u N β (σ248.dl [15, 24] [(197, .v (GT.val (⟨J3.mem, J3.mons, J3.buf, (f_putEntry J3.iobuf (⟨(f_tagOf m g), page, (f_ask (el (el J3.mons m.toNat).tables g.toNat) page).1.page, (f_ask (el (el J3.mons m.toNat).tables g.toNat) page).1.rights⟩ : TEntry))⟩ : THost) (q242 0))), (199, .v (I (f_ask (el (el J3.mons m.toNat).tables g.toNat) page).1.page))] 4 []) ac w) (o246 : Ow w0 NoB u N F241 ([(⟨J3.mem, J3.mons, J3.buf, (f_putEntry J3.iobuf (⟨(f_tagOf m g), page, (f_ask (el (el J3.mons m.toNat).tables g.toNat) page).1.page, (f_ask (el (el J3.mons m.toNat).tables g.toNat) page).1.rights⟩ : TEntry))⟩ : THost)]) ((((cap1 b24 q1 : LP THost).1), q242) : LP THost)) (hNN : NN N0 u0 N u) (hBB : BB σ248.bx.length β0 β) : W 3 (mkL 6 [0, 1, 2]) ac w := by
   exact ox1 hW 3 (S.wl hW [4, 5] .nil fun _ _ _ S => hK249 _ _ _ _ _ S o246)
  have hK251 ac w u N β (S : St Tryz.prog Tryz.f28.ntmps w0 NoB u N β (σ248.dl [15, 24] [(198, .p 3 0)] 4 [(1, [slv J3.mem.length (q242 0).mem.1, slv J3.mons.length (q242 0).mons.1, slv J3.buf.length (q242 0).buf.1, slv (f_putEntry J3.iobuf (⟨(f_tagOf m g), page, (f_ask (el (el J3.mons m.toNat).tables g.toNat) page).1.page, (f_ask (el (el J3.mons m.toNat).tables g.toNat) page).1.rights⟩ : TEntry)).length (q242 0).iobuf.1])]) ac w) (o246 : Ow w0 NoB u N F241 ([(⟨J3.mem, J3.mons, J3.buf, (f_putEntry J3.iobuf (⟨(f_tagOf m g), page, (f_ask (el (el J3.mons m.toNat).tables g.toNat) page).1.page, (f_ask (el (el J3.mons m.toNat).tables g.toNat) page).1.rights⟩ : TEntry))⟩ : THost)]) ((((cap1 b24 q1 : LP THost).1), q242) : LP THost)) : W 3 (mkL 6 [0, 1, 3]) ac w := by
   exact ox1 hW 2 (S.wl hW [4, 5] .nil fun _ _ _ S => hK249 _ _ _ _ _ S o246)
  have hK252 ac w u N β (S : St Tryz.prog Tryz.f28.ntmps w0 NoB u N β (σ248.dl [15, 24] [(197, .v (GT.val (⟨J3.mem, J3.mons, J3.buf, (f_putEntry J3.iobuf (⟨(f_tagOf m g), page, (f_ask (el (el J3.mons m.toNat).tables g.toNat) page).1.page, (f_ask (el (el J3.mons m.toNat).tables g.toNat) page).1.rights⟩ : TEntry))⟩ : THost) (q242 0))), (198, .p 3 0)] 4 []) ac w) (o246 : Ow w0 NoB u N F241 ([(⟨J3.mem, J3.mons, J3.buf, (f_putEntry J3.iobuf (⟨(f_tagOf m g), page, (f_ask (el (el J3.mons m.toNat).tables g.toNat) page).1.page, (f_ask (el (el J3.mons m.toNat).tables g.toNat) page).1.rights⟩ : TEntry))⟩ : THost)]) ((((cap1 b24 q1 : LP THost).1), q242) : LP THost)) (hNN : NN N0 u0 N u) (hBB : BB σ248.bx.length β0 β) : W 4 (mkL 6 [0, 1]) ac w := by
   exact ox2 hW 2 3 (S.wq hW hNN hBB [] .nil fun _ _ _ S hB => hK250 _ _ _ _ _ S o246 hNN hB) (S.wl hW [] .nil fun _ _ _ S => hK251 _ _ _ _ _ S o246)
  rw [hW]
  exact S.wh hW [1] (fun _ => S.rcx) fun _ S => hK252 _ _ _ _ _ S o246 (fun _ h => ⟨h, rfl⟩) (fun _ _ => rfl)
 clear S o246
 rintro ac w ⟨u, N, β, S, o246⟩
 refine S.ex fun S => ?_
 refine S.gr 2 .nil [GT.val (⟨J3.mem, J3.mons, J3.buf, (f_putEntry J3.iobuf (⟨(f_tagOf m g), page, (f_ask (el (el J3.mons m.toNat).tables g.toNat) page).1.page, (f_ask (el (el J3.mons m.toNat).tables g.toNat) page).1.rights⟩ : TEntry))⟩ : THost) (q242 0), I (f_ask (el (el J3.mons m.toNat).tables g.toNat) page).1.page, B true] fun ac w β S => ?_
 obtain ⟨F253, o254, s255, _⟩ := foc2_id o246 (k := 0) (Nat.succ_pos 0)
 change Ow w0 NoB _ _ F253 (⟨J3.mem, J3.mons, J3.buf, (f_putEntry J3.iobuf (⟨(f_tagOf m g), page, (f_ask (el (el J3.mons m.toNat).tables g.toNat) page).1.page, (f_ask (el (el J3.mons m.toNat).tables g.toNat) page).1.rights⟩ : TEntry))⟩ : THost) (q242 0) at o254
 exact ret3_of (p' := ()) (p'' := ()) S (show (f_lookup h m g page need true).1 = (⟨J3.mem, J3.mons, J3.buf, (f_putEntry J3.iobuf (⟨(f_tagOf m g), page, (f_ask (el (el J3.mons m.toNat).tables g.toNat) page).1.page, (f_ask (el (el J3.mons m.toNat).tables g.toNat) page).1.rights⟩ : TEntry))⟩ : THost) from k0_impl_lookup) (show (f_lookup h m g page need true).2.1 = (f_ask (el (el J3.mons m.toNat).tables g.toNat) page).1.page from k0_impl_lookup) (show (f_lookup h m g page need true).2.2 = true from k0_impl_lookup) rfl rfl rfl o254 (RSlot.page (d := (f_ask (el (el J3.mons m.toNat).tables g.toNat) page).1) i155) trivial

theorem c_impl_IoLookup (w0 : World) (h : THost) (ph : PHost) (hh : RD w0 h ph) (m : Int) (g : Int) (page : Int) (hpage : In64 page) (need : Int) : Calls Tryz.prog 10 [GT.val h ph, I m, I g, I page, I need].toArray w0 (Ret3 NoB w0 ((f_lookup h m g page need true).1 : THost) ((f_lookup h m g page need true).2.1 : Int) ((f_lookup h m g page need true).2.2 : Bool)) := by
 refine Calls.run NoB Tryz.func10 ?_
 intro ac β S
 have hleh_mem : h.mem.length ≤ 4194304 := LRd.le (RHost.mem (d := h) hh)
 have hleh_mons : h.mons.length ≤ 4194304 := LRd.le (RHost.mons (d := h) hh)
 have hleh_buf : h.buf.length ≤ 4194304 := LRd.le (RHost.buf (d := h) hh)
 have hleh_iobuf : h.iobuf.length ≤ 4194304 := LRd.le (RHost.iobuf (d := h) hh)
 have hlopage := hpage.lo; have hhipage := hpage.hi
 refine S.go 15 .nil fun ac w β S => S.K3 (r := (f_lookup h m g page need true).1) (r' := (f_lookup h m g page need true).2.1) (r'' := (f_lookup h m g page need true).2.2) (d := 18) (c_impl_lookup w h ph (S.rd (S.arg hh)) m g page hpage need true (by rfl)) fun ac w N q1 F2 S up o3 d4 i5 => ?_
 clear up d4
 obtain ⟨F6, F9, F12, F15, o7, o10, o13, o16, s8, s11, s14, s17, d18, d19, d20, d21, d22, d23⟩ := sp_Host o3
 refine S.gr 9 .nil [GT.val (f_lookup h m g page need true).1 q1, I (f_lookup h m g page need true).2.1, B (f_lookup h m g page need true).2.2] fun ac w β S => ?_
 have o24 := ow_Host (x := (f_lookup h m g page need true).1) (p := q1) o7 o10 o13 o16 d18 d19 d20 d21 d22 d23 
 exact ret3_of (p' := ()) (p'' := ()) S (show (f_lookup h m g page need true).1 = (f_lookup h m g page need true).1 by clear S; rfl) (show (f_lookup h m g page need true).2.1 = (f_lookup h m g page need true).2.1 by clear S; rfl) (show (f_lookup h m g page need true).2.2 = (f_lookup h m g page need true).2.2 by clear S; rfl) rfl rfl rfl o24 i5 trivial

theorem k0_impl_AddrCell {p : Prop} (h : p := by clear S; (first | (unfold f_addrCell; rw [if_pos (by omega)]; done) | (unfold f_addrCell; rw [if_pos (by omega)]; first | rfl | (simp; done)) | (unfold f_addrCell; rw [if_neg (by omega)]; done) | (unfold f_addrCell; rw [if_neg (by omega)]; first | rfl | (simp; done)))) : p := h
theorem c_impl_AddrCell (w0 : World) (addr : Int) (haddr : In64 addr) : Calls Tryz.prog 46 [I addr].toArray w0 (fun e w' => e = .returned (I (f_addrCell addr)) ∧ Chg NoB w0 w') := by
 refine Calls.run NoB Tryz.func46 ?_
 intro ac β S
 have hloaddr := haddr.lo; have hhiaddr := haddr.hi
 refine S.gd 12 .nil (decide (addr < 0)) (fun ac w β h1 g2 S => ?_) (fun ac w β h1 g2 S => ?_)
 ·exact S.gf 7 .nil [I (-1)] (retI k0_impl_AddrCell)
 exact S.gf 11 (.cons (Q_rem (x := addr) (y := 4) (by decide)) .nil) [I (Int.tmod addr 4)] (retI k0_impl_AddrCell)

theorem k0_impl_WithCell {p : Prop} (h : p := by clear S; (unfold f_withCell; (repeat' split) <;> first | rfl | (simp; done) | (exfalso; omega) | (exfalso; simp_all; done) | (exfalso; simp_all; omega))) : p := h
theorem c_impl_WithCell (w0 : World) (m : List (List Int)) (pm : LP (List Int)) (hm : RD w0 m pm) (page : Int) (cell : Int) (v : Int) (hv : In64 v) : Calls Tryz.prog 48 [slv m.length pm.1, I page, I cell, I v].toArray w0 (Ret1 NoB w0 (f_withCell m page cell v : List (List Int))) := by
 refine Calls.run NoB Tryz.func48 ?_
 intro ac β S
 have hlem : m.length ≤ 4194304 := LRd.le hm
 have hlov := hv.lo; have hhiv := hv.hi
 refine S.go 8 .nil fun ac w β S => S.K1 (r := m) (d := 11) (c_impl_copyMem w m pm (S.rd (S.arg hm))) fun ac w N q1 F2 S up o3 d4 => ?_
 clear up d4
 refine S.gb 11 (.cons (Q_call fun w hw => c_impl_has w page (m.length : Int) (by omega)) .nil) (f_within page 0 ((m.length : Int) - 1)) (fun ac w β h5 S => ?_) (fun ac w β h5 S => ?_)
 ·have g6 := within_t h5
  have b7 : (el m page.toNat).length ≤ 4194304 := LRd.le (LRd.el (S.arg hm) page.toNat (by omega))
  refine S.gb 9 (.cons (qt (S.arg hm) page Tryz.underlying22) (.cons (qx (S.arg hm) 61 page.toNat) (.cons (Q_call fun w hw => c_impl_has w cell ((el m page.toNat).length : Int) (by omega)) .nil))) (f_within cell 0 (((el m page.toNat).length : Int) - 1)) (fun ac w β h8 S => ?_) (fun ac w β h8 S => ?_)
  ·have g9 := within_t h8
   refine S.gb 5 (.cons (Q_call fun w hw => c_impl_within w v 0 99) .nil) (f_within v 0 99) (fun ac w β h10 S => ?_) (fun ac w β h10 S => ?_)
   ·have g11 := within_t h10
    obtain ⟨F12, o13, s14, b15⟩ := foc2_id o3 (k := page.toNat) (show page.toNat < m.length by omega)
    have l16 := LRd.le o13.rn
    have n17 := o13.sub
    refine S.go 9 (.cons (qt o3.rn page Tryz.underlying22) (.cons (qx o3.rn 61 page.toNat) (.cons (qt (LRd.el o3.rn page.toNat (by omega)) cell Tryz.underlying61) .nil))) fun ac w β S => S.SF (α := Int) o13 (t := 3) (k := cell.toNat) (j := 0) (off := (q1.2 page.toNat).1.off + cell.toNat * 1) (v := I v) (y := v) (q := ()) (fun _ _ _ => ⟨NoB, hv, fun _ h => False.elim h⟩) fun w N F19 q20 S up o18 d21 s22 n23 => ?_
    clear d21 o13
    obtain ⟨p24, o25, c26⟩ := b15 _ _ _ _ _ NoB up o18 s22 (fun b _ h => False.elim h) (by show [slv _ _] = [slv _ _]; rw [List.length_set]) (fun b h => n23 b (n17 b h))
    clear up o18 n23
    have l27 : (m.set page.toNat ((el m page.toNat).set cell.toNat v)).length = m.length := List.length_set
    refine S.gr 9 .nil [slv m.length q1.1] fun ac w β S => ?_
    exact ret1_of S (show f_withCell m page cell v = (m.set page.toNat ((el m page.toNat).set cell.toNat v)) from k0_impl_WithCell) (by rw [show m.length = (m.set page.toNat ((el m page.toNat).set cell.toNat v)).length from (by omega)]; rfl) o25
   have g28 := within_f h10
   refine S.gr 10 .nil [slv m.length q1.1] fun ac w β S => ?_
   exact ret1_of S (show f_withCell m page cell v = m from k0_impl_WithCell) rfl o3
  have g29 := within_f h8
  refine S.gr 15 .nil [slv m.length q1.1] fun ac w β S => ?_
  exact ret1_of S (show f_withCell m page cell v = m from k0_impl_WithCell) rfl o3
 have g30 := within_f h5
 refine S.gr 24 .nil [slv m.length q1.1] fun ac w β S => ?_
 exact ret1_of S (show f_withCell m page cell v = m from k0_impl_WithCell) rfl o3

theorem k0_impl_HostDma {p : Prop} (h : p := by clear S; (first | (rw [dma_out (.inl (by assumption))]; done) | (rw [dma_out (.inr (.inl (by assumption)))]; done) | (rw [dma_out (.inr (.inr (by assumption)))]; done) | (rw [dma_no rfl (by assumption)]; done) | (rw [dma_no (by assumption) (by assumption)]; done) | (rw [dma_yes rfl (by assumption) (by assumption) (by assumption)]; done) | (rw [dma_yes (by assumption) (by assumption) (by assumption) (by assumption)]; done))) : p := h
theorem c_impl_HostDma (w0 : World) (h : THost) (ph : PHost) (hh : RD w0 h ph) (m : Int) (g : Int) (addr : Int) (haddr : In64 addr) (v : Int) (hv : In64 v) : Calls Tryz.prog 19 [GT.val h ph, I m, I g, I addr, I v].toArray w0 (Ret2 NoB w0 ((f_hostDma h m g addr v).1 : THost) ((f_hostDma h m g addr v).2 : Bool)) := by
 refine Calls.run NoB Tryz.func19 ?_
 intro ac β S
 have hleh_mem : h.mem.length ≤ 4194304 := LRd.le (RHost.mem (d := h) hh)
 have hleh_mons : h.mons.length ≤ 4194304 := LRd.le (RHost.mons (d := h) hh)
 have hleh_buf : h.buf.length ≤ 4194304 := LRd.le (RHost.buf (d := h) hh)
 have hleh_iobuf : h.iobuf.length ≤ 4194304 := LRd.le (RHost.iobuf (d := h) hh)
 have hloaddr := haddr.lo; have hhiaddr := haddr.hi
 have hlov := hv.lo; have hhiv := hv.hi
 refine S.go 8 .nil fun ac w β S => ?_
 refine drw ?_
 let σ1 : Sy := ⟨[(1, .v (I m)), (2, .v (I g)), (3, .v (I addr)), (4, .v (I v)), (5, .p 0 0), (10, .p 1 0)], [GT.cells h ph, Zc THost]⟩
 obtain ⟨u0, N0, β0, S⟩ : ∃ u0 N0 β0, St Tryz.prog Tryz.f19.ntmps w0 NoB u0 N0 β0 σ1 ac w := ⟨_, _, _, S.z⟩
 refine wp_region_cut (fun ac w => ∃ q69 F70 q72 F73 q63 F64 q66 F67 u N β, St Tryz.prog Tryz.f19.ntmps w0 NoB u N β (σ1.dl [1, 2] [(12, .p 2 0), (13, .v (I (f_lookup h m g (f_addrPage addr) 2 true).2.1)), (14, .v (B (f_lookup h m g (f_addrPage addr) 2 true).2.2))] 3 [(2, [slv (f_lookup h m g (f_addrPage addr) 2 true).1.mem.length q63.1, slv (f_lookup h m g (f_addrPage addr) 2 true).1.mons.length q66.1, slv (f_lookup h m g (f_addrPage addr) 2 true).1.buf.length q69.1, slv (f_lookup h m g (f_addrPage addr) 2 true).1.iobuf.length q72.1])]) ac w ∧ Ow w0 NoB u N F70 (f_lookup h m g (f_addrPage addr) 2 true).1.buf q69 ∧ Ow w0 NoB u N F73 (f_lookup h m g (f_addrPage addr) 2 true).1.iobuf q72 ∧ Ow w0 NoB u N F64 (f_lookup h m g (f_addrPage addr) 2 true).1.mem q63 ∧ Ow w0 NoB u N F67 (f_lookup h m g (f_addrPage addr) 2 true).1.mons q66 ∧ Disj F70 F73 ∧ Disj F70 F64 ∧ Disj F70 F67 ∧ Disj F73 F64 ∧ Disj F73 F67 ∧ Disj F64 F67) ?_ ?_
 ·refine S.draw0 (f := 14) 11 (by kernel_rfl) (by kernel_rfl) fun w S => ?_
  refine S.hq 0 [0] [] [(16, .v (GT.val h ph))] .nil fun ac S => ?_
  refine S.hq 1 [1] [] [(17, .v (I m))] .nil fun ac S => ?_
  refine S.hq 2 [2] [] [(18, .v (I g))] .nil fun ac S => ?_
  refine S.hq 3 [3] [] [(19, .v (I addr))] .nil fun ac S => ?_
  refine WD.nameW fun W hW => ?_
  refine WD.castW (l' := mkL 14 [0, 1, 2, 3]) (by kernel_rfl) ?_
  have hK74 ac w q69 F70 q72 F73 q63 F64 q66 F67 u N β (S : St Tryz.prog Tryz.f19.ntmps w0 NoB u N β (σ1.dl [1, 2] [(12, .p 2 0), (13, .v (I (f_lookup h m g (f_addrPage addr) 2 true).2.1)), (14, .v (B (f_lookup h m g (f_addrPage addr) 2 true).2.2))] 3 [(2, [slv (f_lookup h m g (f_addrPage addr) 2 true).1.mem.length q63.1, slv (f_lookup h m g (f_addrPage addr) 2 true).1.mons.length q66.1, slv (f_lookup h m g (f_addrPage addr) 2 true).1.buf.length q69.1, slv (f_lookup h m g (f_addrPage addr) 2 true).1.iobuf.length q72.1])]) ac w) (o68 : Ow w0 NoB u N F70 (f_lookup h m g (f_addrPage addr) 2 true).1.buf q69) (o71 : Ow w0 NoB u N F73 (f_lookup h m g (f_addrPage addr) 2 true).1.iobuf q72) (o62 : Ow w0 NoB u N F64 (f_lookup h m g (f_addrPage addr) 2 true).1.mem q63) (o65 : Ow w0 NoB u N F67 (f_lookup h m g (f_addrPage addr) 2 true).1.mons q66) (d75 : Disj F70 F73) (d76 : Disj F70 F64) (d77 : Disj F70 F67) (d78 : Disj F73 F64) (d79 : Disj F73 F67) (d80 : Disj F64 F67) : W 0 (mkL 14 [0, 1, 2, 3, 4, 5, 6, 7, 8, 9, 10, 11, 12, 13]) ac w := by
   exact od hW ⟨rfl, q69, F70, q72, F73, q63, F64, q66, F67, _, _, _, S.z, o68, o71, o62, o65, d75, d76, d77, d78, d79, d80⟩
  have hK81 ac w q33 F34 q36 F37 q27 F28 q30 F31 u N β (S : St Tryz.prog Tryz.f19.ntmps w0 NoB u N β (σ1.dl [1, 2] [(12, .p 2 0), (22, .v (GT.val (f_lookup h m g (f_addrPage addr) 2 true).1 (⟨q27, q30, q33, q36⟩ : PHost))), (23, .v (I (f_lookup h m g (f_addrPage addr) 2 true).2.1)), (24, .v (B (f_lookup h m g (f_addrPage addr) 2 true).2.2))] 3 [(2, Zc THost)]) ac w) (o32 : Ow w0 NoB u N F34 (f_lookup h m g (f_addrPage addr) 2 true).1.buf q33) (o35 : Ow w0 NoB u N F37 (f_lookup h m g (f_addrPage addr) 2 true).1.iobuf q36) (o26 : Ow w0 NoB u N F28 (f_lookup h m g (f_addrPage addr) 2 true).1.mem q27) (o29 : Ow w0 NoB u N F31 (f_lookup h m g (f_addrPage addr) 2 true).1.mons q30) (d82 : Disj F34 F37) (d83 : Disj F34 F28) (d84 : Disj F34 F31) (d85 : Disj F37 F28) (d86 : Disj F37 F31) (d87 : Disj F28 F31) (hNN : NN N0 u0 N u) (hBB : BB σ1.bx.length β0 β) : W 3 (mkL 14 [0, 1, 2, 3, 4, 5, 6, 7, 8, 9, 10]) ac w := by
   exact ox1 hW 11 (S.wl hW [12, 13] .nil fun _ _ _ S => hK74 _ _ q33 F34 q36 F37 q27 F28 q30 F31 _ _ _ S o32 o35 o26 o29 d82 d83 d84 d85 d86 d87)
  have hK88 ac w q33 F34 q36 F37 q27 F28 q30 F31 u N β (S : St Tryz.prog Tryz.f19.ntmps w0 NoB u N β (σ1.dl [1, 2] [(22, .v (GT.val (f_lookup h m g (f_addrPage addr) 2 true).1 (⟨q27, q30, q33, q36⟩ : PHost))), (23, .v (I (f_lookup h m g (f_addrPage addr) 2 true).2.1)), (24, .v (B (f_lookup h m g (f_addrPage addr) 2 true).2.2))] 2 []) ac w) (o32 : Ow w0 NoB u N F34 (f_lookup h m g (f_addrPage addr) 2 true).1.buf q33) (o35 : Ow w0 NoB u N F37 (f_lookup h m g (f_addrPage addr) 2 true).1.iobuf q36) (o26 : Ow w0 NoB u N F28 (f_lookup h m g (f_addrPage addr) 2 true).1.mem q27) (o29 : Ow w0 NoB u N F31 (f_lookup h m g (f_addrPage addr) 2 true).1.mons q30) (d89 : Disj F34 F37) (d90 : Disj F34 F28) (d91 : Disj F34 F31) (d92 : Disj F37 F28) (d93 : Disj F37 F31) (d94 : Disj F28 F31) (hNN : NN N0 u0 N u) (hBB : BB σ1.bx.length β0 β) : W 4 (mkL 14 [0, 1, 2, 3, 4, 5, 6, 7, 8, 9]) ac w := by
   exact ox1 hW 10 (S.wq hW hNN hBB [] .nil fun _ _ _ S hB => hK81 _ _ q33 F34 q36 F37 q27 F28 q30 F31 _ _ _ S o32 o35 o26 o29 d89 d90 d91 d92 d93 d94 hNN hB)
  have hK95 ac w u N β (S : St Tryz.prog Tryz.f19.ntmps w0 NoB u N β (σ1.dl [1, 2] [(12, .p 2 0), (16, .v (GT.val h ph)), (17, .v (I m)), (18, .v (I g)), (20, .v (I (f_addrPage addr)))] 3 [(2, Zc THost)]) ac w) (hNN : NN N0 u0 N u) (hBB : BB σ1.bx.length β0 β) : W 8 (mkL 14 [0, 1, 2, 3, 4, 10]) ac w := by
   refine ox1 hW 5 ?_
   refine id (S.call3 (r := (f_lookup h m g (f_addrPage addr) 2 true).1) (r' := (f_lookup h m g (f_addrPage addr) 2 true).2.1) (r'' := (f_lookup h m g (f_addrPage addr) 2 true).2.2) (d := 21) (c_impl_IoLookup w h ph (S.rd (S.arg hh)) m g (f_addrPage addr) (addrPage_in64 haddr) 2) (by kernel_rfl) rfl fun ac w N q96 F97 S up o98 d99 i100 => ?_)
   have hb101 := fun b h => (⟨(up b (hNN b h).1).1, (up b (hNN b h).1).2.trans (hNN b h).2⟩ : _ ∧ _)
   refine WD.sc S hb101 hBB fun hC => ?_
   clear up d99
   obtain ⟨F102, F105, F108, F111, o103, o106, o109, o112, s104, s107, s110, s113, d114, d115, d116, d117, d118, d119⟩ := sp_Host o98
   exact S.wh hW [6, 7, 8, 9] hC fun _ S => hK81 _ _ q96.buf F108 q96.iobuf F111 q96.mem F102 q96.mons F105 _ _ _ S o109 o112 o103 o106 d119 (Disj.symm d115) (Disj.symm d117) (Disj.symm d116) (Disj.symm d118) d114 hb101 hBB
  have hK120 ac w u N β (S : St Tryz.prog Tryz.f19.ntmps w0 NoB u N β (σ1.dl [1, 2] [(16, .v (GT.val h ph)), (17, .v (I m)), (18, .v (I g)), (20, .v (I (f_addrPage addr)))] 2 []) ac w) (hNN : NN N0 u0 N u) (hBB : BB σ1.bx.length β0 β) : W 9 (mkL 14 [0, 1, 2, 3, 4]) ac w := by
   refine ox2 hW 5 10 ?_ (S.wq hW hNN hBB [] .nil fun _ _ _ S hB => hK95 _ _ _ _ _ S hNN hB)
   refine id (S.call3 (r := (f_lookup h m g (f_addrPage addr) 2 true).1) (r' := (f_lookup h m g (f_addrPage addr) 2 true).2.1) (r'' := (f_lookup h m g (f_addrPage addr) 2 true).2.2) (d := 21) (c_impl_IoLookup w h ph (S.rd (S.arg hh)) m g (f_addrPage addr) (addrPage_in64 haddr) 2) (by kernel_rfl) rfl fun ac w N q121 F122 S up o123 d124 i125 => ?_)
   have hb126 := fun b h => (⟨(up b (hNN b h).1).1, (up b (hNN b h).1).2.trans (hNN b h).2⟩ : _ ∧ _)
   refine WD.sc S hb126 hBB fun hC => ?_
   clear up d124
   obtain ⟨F127, F130, F133, F136, o128, o131, o134, o137, s129, s132, s135, s138, d139, d140, d141, d142, d143, d144⟩ := sp_Host o123
   exact S.wh hW [6, 7, 8, 9] hC fun _ S => hK88 _ _ q121.buf F133 q121.iobuf F136 q121.mem F127 q121.mons F130 _ _ _ S o134 o137 o128 o131 d144 (Disj.symm d140) (Disj.symm d142) (Disj.symm d141) (Disj.symm d143) d139 hb126 hBB
  have hK145 ac w u N β (S : St Tryz.prog Tryz.f19.ntmps w0 NoB u N β (σ1.dl [1, 2] [(12, .p 2 0), (16, .v (GT.val h ph)), (17, .v (I m)), (18, .v (I g)), (19, .v (I addr))] 3 [(2, Zc THost)]) ac w) (hNN : NN N0 u0 N u) (hBB : BB σ1.bx.length β0 β) : W 9 (mkL 14 [0, 1, 2, 3, 10]) ac w := by
   exact ox1 hW 4 (S.wq hW hNN hBB [] (.cons (Q_call fun w hw => c_impl_AddrPage w addr haddr) .nil) fun _ _ _ S hB => hK95 _ _ _ _ _ S hNN hB)
  have hNN : NN N0 u0 N0 u0 := fun b h => ⟨h, rfl⟩
  have hBB : BB σ1.bx.length β0 β0 := fun _ _ => rfl
  exact ox2 hW 4 10 (S.wq hW hNN hBB [] (.cons (Q_call fun w hw => c_impl_AddrPage w addr haddr) .nil) fun _ _ _ S hB => hK120 _ _ _ _ _ S hNN hB) (S.wq hW hNN hBB [] .nil fun _ _ _ S hB => hK145 _ _ _ _ _ S hNN hB)
 clear S
 rintro ac w ⟨q69, F70, q72, F73, q63, F64, q66, F67, u, N, β, S, o68, o71, o62, o65, d146, d147, d148, d149, d150, d151⟩
 refine S.ex fun S => ?_
 refine S.gb 8 (.cons (Q_call fun w hw => c_impl_within w addr 0 15) .nil) (!(f_within addr 0 15)) (fun ac w β h152 S => ?_) (fun ac w β h152 S => ?_)
 ·have h153 := not_t h152
  have g154 := within_f h153
  refine S.go 14 .nil fun ac w β S => S.K1 (r := h) (d := 38) (c_impl_copyHost w h ph (S.rd (S.arg hh))) fun ac w N q155 F156 S up o157 d158 => ?_
  clear up d158
  obtain ⟨F159, F162, F165, F168, o160, o163, o166, o169, s161, s164, s167, s170, d171, d172, d173, d174, d175, d176⟩ := sp_Host o157
  refine S.gr 5 .nil [GT.val h q155, B false] fun ac w β S => ?_
  have o177 := ow_Host (x := h) (p := q155) o160 o163 o166 o169 d171 d172 d173 d174 d175 d176 
  exact ret2_of (p' := ()) S (show (f_hostDma h m g addr v).1 = h from k0_impl_HostDma) (show (f_hostDma h m g addr v).2 = false from k0_impl_HostDma) rfl rfl o177 trivial
 have h178 := not_f h152
 have g179 := within_t h178
 refine S.gb 5 (.cons (Q_call fun w hw => c_impl_within w v 0 99) .nil) (!(f_within v 0 99)) (fun ac w β h180 S => ?_) (fun ac w β h180 S => ?_)
 ·have h181 := not_t h180
  have g182 := within_f h181
  refine S.go 9 .nil fun ac w β S => S.K1 (r := h) (d := 38) (c_impl_copyHost w h ph (S.rd (S.arg hh))) fun ac w N q183 F184 S up o185 d186 => ?_
  clear up d186
  obtain ⟨F187, F190, F193, F196, o188, o191, o194, o197, s189, s192, s195, s198, d199, d200, d201, d202, d203, d204⟩ := sp_Host o185
  refine S.gr 5 .nil [GT.val h q183, B false] fun ac w β S => ?_
  have o205 := ow_Host (x := h) (p := q183) o188 o191 o194 o197 d199 d200 d201 d202 d203 d204 
  exact ret2_of (p' := ()) S (show (f_hostDma h m g addr v).1 = h from k0_impl_HostDma) (show (f_hostDma h m g addr v).2 = false from k0_impl_HostDma) rfl rfl o205 trivial
 have h206 := not_f h180
 have g207 := within_t h206
 refine S.gb 5 .nil (!(f_lookup h m g (f_addrPage addr) 2 true).2.2) (fun ac w β h208 S => ?_) (fun ac w β h208 S => ?_)
 ·have h209 := not_t h208
  refine S.go 4 .nil fun ac w β S => S.K1 (r := h) (d := 38) (c_impl_copyHost w h ph (S.rd (S.arg hh))) fun ac w N q210 F211 S up o212 d213 => ?_
  clear up d213
  obtain ⟨F214, F217, F220, F223, o215, o218, o221, o224, s216, s219, s222, s225, d226, d227, d228, d229, d230, d231⟩ := sp_Host o212
  refine S.gr 5 .nil [GT.val h q210, B false] fun ac w β S => ?_
  have o232 := ow_Host (x := h) (p := q210) o215 o218 o221 o224 d226 d227 d228 d229 d230 d231 
  exact ret2_of (p' := ()) S (show (f_hostDma h m g addr v).1 = h from k0_impl_HostDma) (show (f_hostDma h m g addr v).2 = false from k0_impl_HostDma) rfl rfl o232 trivial
 have h233 := not_f h208
 refine S.go 4 .nil fun ac w β S => ?_
 refine drw ?_
 refine S.draw0 (f := 9) 8 (by kernel_rfl) (by kernel_rfl) fun w S => ?_
 refine S.hq 0 [0] [] [(39, .p 2 0)] .nil fun ac S => ?_
 refine S.hq 1 [1] [] [(40, .v (slv (f_lookup h m g (f_addrPage addr) 2 true).1.mem.length q63.1))] .nil fun ac S => ?_
 refine S.hq 2 [2] [] [(41, .v (I (f_lookup h m g (f_addrPage addr) 2 true).2.1))] .nil fun ac S => ?_
 refine S.hq 3 [3] [] [(42, .v (I addr))] .nil fun ac S => ?_
 refine S.hq 5 [5] [] [(44, .v (I v))] .nil fun ac S => ?_
 refine WD.one (i := 4) (by kernel_rfl) ?_
 refine S.stepq (i := 4) (keep := [10, 12, 40, 41, 43, 44]) (m := 3) (σ' := ⟨[(10, .p 1 0), (12, .p 2 0), (40, .v (slv (f_lookup h m g (f_addrPage addr) 2 true).1.mem.length q63.1)), (41, .v (I (f_lookup h m g (f_addrPage addr) 2 true).2.1)), (43, .v (I (f_addrCell addr))), (44, .v (I v))], [GT.cells h ph, Zc THost, [slv (f_lookup h m g (f_addrPage addr) 2 true).1.mem.length q63.1, slv (f_lookup h m g (f_addrPage addr) 2 true).1.mons.length q66.1, slv (f_lookup h m g (f_addrPage addr) 2 true).1.buf.length q69.1, slv (f_lookup h m g (f_addrPage addr) 2 true).1.iobuf.length q72.1]]⟩) (.cons (Q_call fun w hw => c_impl_AddrCell w addr haddr) .nil) (by kernel_rfl) fun ac w β S hβ => ?_
 refine WD.stayq S hβ ?_
 clear hβ
 refine WD.one (i := 6) (by kernel_rfl) ?_
 refine id (S.k1 45 (c_impl_WithCell w (f_lookup h m g (f_addrPage addr) 2 true).1.mem q63 (S.rd o62.rn) (f_lookup h m g (f_addrPage addr) 2 true).2.1 (f_addrCell addr) v hv) fun ac w N q234 F235 S up o236 d237 => ?_)
 refine WD.next S up (by kernel_rfl) ?_
 have d238 := Disj.w d237 o62.sub
 have d239 := Disj.w d237 o65.sub
 have d240 := Disj.w d237 o68.sub
 have d241 := Disj.w d237 o71.sub
 replace o62 := o62.up up
 replace o65 := o65.up up
 replace o68 := o68.up up
 replace o71 := o71.up up
 clear up d237
 refine S.hq 7 [7] [] [(45, .v (slv (f_withCell (f_lookup h m g (f_addrPage addr) 2 true).1.mem (f_lookup h m g (f_addrPage addr) 2 true).2.1 (f_addrCell addr) v).length q234.1)), (46, .p 2 0)] .nil fun ac S => ?_
 refine WD.one (i := 8) (by kernel_rfl) ?_
 refine S.stepq (i := 8) (keep := [10, 12]) (m := 3) (σ' := ⟨[(10, .p 1 0), (12, .p 2 0)], [GT.cells h ph, Zc THost, [slv (f_withCell (f_lookup h m g (f_addrPage addr) 2 true).1.mem (f_lookup h m g (f_addrPage addr) 2 true).2.1 (f_addrCell addr) v).length q234.1, slv (f_lookup h m g (f_addrPage addr) 2 true).1.mons.length q66.1, slv (f_lookup h m g (f_addrPage addr) 2 true).1.buf.length q69.1, slv (f_lookup h m g (f_addrPage addr) 2 true).1.iobuf.length q72.1]]⟩) .nil (by kernel_rfl) fun ac w β S hβ => ?_
 refine WD.last (by kernel_rfl) ?_
 clear hβ
 refine WD.done (by kernel_rfl) ?_ _
 refine S.ex fun S => ?_
 refine S.gr 9 .nil [GT.val (⟨(f_withCell (f_lookup h m g (f_addrPage addr) 2 true).1.mem (f_lookup h m g (f_addrPage addr) 2 true).2.1 (f_addrCell addr) v), (f_lookup h m g (f_addrPage addr) 2 true).1.mons, (f_lookup h m g (f_addrPage addr) 2 true).1.buf, (f_lookup h m g (f_addrPage addr) 2 true).1.iobuf⟩ : THost) (⟨q234, q66, q69, q72⟩ : PHost), B true] fun ac w β S => ?_
 have o242 := ow_Host (x := (⟨(f_withCell (f_lookup h m g (f_addrPage addr) 2 true).1.mem (f_lookup h m g (f_addrPage addr) 2 true).2.1 (f_addrCell addr) v), (f_lookup h m g (f_addrPage addr) 2 true).1.mons, (f_lookup h m g (f_addrPage addr) 2 true).1.buf, (f_lookup h m g (f_addrPage addr) 2 true).1.iobuf⟩ : THost)) (p := (⟨q234, q66, q69, q72⟩ : PHost)) o236 o65 o68 o71 (Disj.symm d239) (Disj.symm d240) (Disj.symm d241) (Disj.symm d148) (Disj.symm d150) d146 
 exact ret2_of (p' := ()) S (show (f_hostDma h m g addr v).1 = (⟨(f_withCell (f_lookup h m g (f_addrPage addr) 2 true).1.mem (f_lookup h m g (f_addrPage addr) 2 true).2.1 (f_addrCell addr) v), (f_lookup h m g (f_addrPage addr) 2 true).1.mons, (f_lookup h m g (f_addrPage addr) 2 true).1.buf, (f_lookup h m g (f_addrPage addr) 2 true).1.iobuf⟩ : THost) from k0_impl_HostDma) (show (f_hostDma h m g addr v).2 = true from k0_impl_HostDma) rfl rfl o242 trivial

theorem k0_laws_eqIntS {p : Prop} (h : p := by clear S; first | (simp; intro e; subst e; simp_all; done) | (simp; rw [take_all (by omega), take_all (by omega)] at he; exact he) | (simp; exact take_ne (by simp_all))) : p := h
theorem c_laws_eqIntS (w0 : World) (a : List Int) (pa : LP Int) (ha : RD w0 a pa) (b : List Int) (pb : LP Int) (hb : RD w0 b pb) : Calls Tryz.prog 76 [slv a.length pa.1, slv b.length pb.1].toArray w0 (fun e w' => e = .returned (B (decide (a = b))) ∧ Chg NoB w0 w') := by
 refine Calls.run NoB Tryz.func76 ?_
 intro ac β S
 have hlea : a.length ≤ 4194304 := LRd.le ha
 have hleb : b.length ≤ 4194304 := LRd.le hb
 refine S.gd 15 .nil ((a.length : Int) != (b.length : Int)) (fun ac w β h1 g2 S => ?_) (fun ac w β h1 g2 S => ?_)
 ·exact S.gf 7 .nil [B false] (retB k0_laws_eqIntS)
 refine S.go 10 .nil fun ac w β S => ?_
 refine lp (fun mm ac w => ∃ (k : Nat)  (u : _) (N : _) (β : _), mm = a.length - k ∧ (k ≤ a.length) ∧ (a.length = b.length) ∧ (a.take k = b.take k) ∧ St Tryz.prog Tryz.f76.ntmps w0 NoB u N β ⟨[(0, .v (slv a.length pa.1)), (1, .v (slv b.length pb.1)), (5, .v (I (k : Int)))], []⟩ ac w) _ ⟨0, _, _, _, rfl, o0, o0, (by simp), S.z⟩ ?_
 clear S
 rintro f3 mm hf4 ac w ⟨k, u, N, β, rfl, hk, hab, he, S⟩
 refine S.rs fun S => ?_
 refine S.gd 9 .nil (decide ((k : Int) < (a.length : Int))) (fun ac w β h5 g6 S => ?_) (fun ac w β h5 g6 S => ?_)
 ·refine S.gd 8 (.cons (qn (S.arg ha) k Tryz.underlying61) (.cons (qx (S.arg ha) 3 k) (.cons (qn (S.arg hb) k Tryz.underlying61) (.cons (qx (S.arg hb) 3 k) .nil)))) ((el a k) != (el b k)) (fun ac w β h7 g8 S => ?_) (fun ac w β h7 g8 S => ?_)
  ·exact S.gf 7 .nil [B false] (retB k0_laws_eqIntS)
  refine S.ge 9 (.cons (qp (k : Int) 1) .nil) f3 fun ac w β S => hf4.of (a.length - (k + 1)) _ _ (by omega) ⟨k + 1, _, _, _, rfl, ?_, ?_, ?_, S.z⟩
  ·exact oz
  ·exact oz
  ·clear S; exact take_eq_step (by omega) (by omega) he (by simp_all)
 exact S.gf 12 .nil [B true] (retB k0_laws_eqIntS)

theorem k0_laws_eqIntSS {p : Prop} (h : p := by clear S; first | (simp; intro e; subst e; simp_all; done) | (simp; rw [take_all (by omega), take_all (by omega)] at he; exact he) | (simp; exact take_ne (by simp_all))) : p := h
theorem c_laws_eqIntSS (w0 : World) (a : List (List Int)) (pa : LP (List Int)) (ha : RD w0 a pa) (b : List (List Int)) (pb : LP (List Int)) (hb : RD w0 b pb) : Calls Tryz.prog 29 [slv a.length pa.1, slv b.length pb.1].toArray w0 (fun e w' => e = .returned (B (decide (a = b))) ∧ Chg NoB w0 w') := by
 refine Calls.run NoB Tryz.func29 ?_
 intro ac β S
 have hlea : a.length ≤ 4194304 := LRd.le ha
 have hleb : b.length ≤ 4194304 := LRd.le hb
 refine S.gd 15 .nil ((a.length : Int) != (b.length : Int)) (fun ac w β h1 g2 S => ?_) (fun ac w β h1 g2 S => ?_)
 ·exact S.gf 7 .nil [B false] (retB k0_laws_eqIntSS)
 refine S.go 10 .nil fun ac w β S => ?_
 refine lp (fun mm ac w => ∃ (k : Nat)  (u : _) (N : _) (β : _), mm = a.length - k ∧ (k ≤ a.length) ∧ (a.length = b.length) ∧ (a.take k = b.take k) ∧ St Tryz.prog Tryz.f29.ntmps w0 NoB u N β ⟨[(0, .v (slv a.length pa.1)), (1, .v (slv b.length pb.1)), (5, .v (I (k : Int)))], []⟩ ac w) _ ⟨0, _, _, _, rfl, o0, o0, (by simp), S.z⟩ ?_
 clear S
 rintro f3 mm hf4 ac w ⟨k, u, N, β, rfl, hk, hab, he, S⟩
 refine S.rs fun S => ?_
 refine S.gd 9 .nil (decide ((k : Int) < (a.length : Int))) (fun ac w β h5 g6 S => ?_) (fun ac w β h5 g6 S => ?_)
 ·refine S.gb 8 (.cons (qn (S.arg ha) k Tryz.underlying22) (.cons (qx (S.arg ha) 61 k) (.cons (qn (S.arg hb) k Tryz.underlying22) (.cons (qx (S.arg hb) 61 k) (.cons (Q_call fun w hw => c_laws_eqIntS w (el a k) (pa.2 k) (rd_of (LRd.el (S.arg ha) k (by omega)) hw) (el b k) (pb.2 k) (rd_of (LRd.el (S.arg hb) k (by omega)) hw)) .nil))))) (!(decide ((el a k) = (el b k)))) (fun ac w β h7 S => ?_) (fun ac w β h7 S => ?_)
  ·have h8 := not_t h7
   have g9 := of_decide_eq_false h8
   exact S.gf 7 .nil [B false] (retB k0_laws_eqIntSS)
  have h10 := not_f h7
  have g11 := of_decide_eq_true h10
  refine S.ge 9 (.cons (qp (k : Int) 1) .nil) f3 fun ac w β S => hf4.of (a.length - (k + 1)) _ _ (by omega) ⟨k + 1, _, _, _, rfl, ?_, ?_, ?_, S.z⟩
  ·exact oz
  ·exact oz
  ·clear S; exact take_eq_step (by omega) (by omega) he (by simp_all)
 exact S.gf 12 .nil [B true] (retB k0_laws_eqIntSS)

theorem k0_laws_eqSlot {p : Prop} (h : p := by clear S; first | (simp [TSlot.ext_iff, *]; done) | (simp_all [TSlot.ext_iff]; done)) : p := h
theorem c_laws_eqSlot (w0 : World) (a : TSlot) (b : TSlot) : Calls Tryz.prog 162 [GT.val a (), GT.val b ()].toArray w0 (fun e w' => e = .returned (B (decide (a = b))) ∧ Chg NoB w0 w') := by
 refine Calls.run NoB Tryz.func162 ?_
 intro ac β S
 refine S.gd 17 .nil (a.page != b.page) (fun ac w β h1 g2 S => ?_) (fun ac w β h1 g2 S => ?_)
 ·exact S.gf 7 .nil [B false] (retB k0_laws_eqSlot)
 refine S.gd 13 .nil (a.rights != b.rights) (fun ac w β h3 g4 S => ?_) (fun ac w β h3 g4 S => ?_)
 ·exact S.gf 7 .nil [B false] (retB k0_laws_eqSlot)
 exact S.gf 9 .nil [B true] (retB k0_laws_eqSlot)

theorem k0_laws_eqSlotS {p : Prop} (h : p := by clear S; first | (simp; intro e; subst e; simp_all; done) | (simp; rw [take_all (by omega), take_all (by omega)] at he; exact he) | (simp; exact take_ne (by simp_all))) : p := h
theorem c_laws_eqSlotS (w0 : World) (a : List TSlot) (pa : LP TSlot) (ha : RD w0 a pa) (b : List TSlot) (pb : LP TSlot) (hb : RD w0 b pb) : Calls Tryz.prog 124 [slv a.length pa.1, slv b.length pb.1].toArray w0 (fun e w' => e = .returned (B (decide (a = b))) ∧ Chg NoB w0 w') := by
 refine Calls.run NoB Tryz.func124 ?_
 intro ac β S
 have hlea : a.length ≤ 4194304 := LRd.le ha
 have hleb : b.length ≤ 4194304 := LRd.le hb
 refine S.gd 15 .nil ((a.length : Int) != (b.length : Int)) (fun ac w β h1 g2 S => ?_) (fun ac w β h1 g2 S => ?_)
 ·exact S.gf 7 .nil [B false] (retB k0_laws_eqSlotS)
 refine S.go 10 .nil fun ac w β S => ?_
 refine lp (fun mm ac w => ∃ (k : Nat)  (u : _) (N : _) (β : _), mm = a.length - k ∧ (k ≤ a.length) ∧ (a.length = b.length) ∧ (a.take k = b.take k) ∧ St Tryz.prog Tryz.f124.ntmps w0 NoB u N β ⟨[(0, .v (slv a.length pa.1)), (1, .v (slv b.length pb.1)), (5, .v (I (k : Int)))], []⟩ ac w) _ ⟨0, _, _, _, rfl, o0, o0, (by simp), S.z⟩ ?_
 clear S
 rintro f3 mm hf4 ac w ⟨k, u, N, β, rfl, hk, hab, he, S⟩
 refine S.rs fun S => ?_
 refine S.gd 9 .nil (decide ((k : Int) < (a.length : Int))) (fun ac w β h5 g6 S => ?_) (fun ac w β h5 g6 S => ?_)
 ·refine S.gb 8 (.cons (qn (S.arg ha) k Tryz.underlying69) (.cons (qs (S.arg ha) 92 k) (.cons (qn (S.arg hb) k Tryz.underlying69) (.cons (qs (S.arg hb) 92 k) (.cons (Q_call fun w hw => c_laws_eqSlot w (el a k) (el b k)) .nil))))) (!(decide ((el a k) = (el b k)))) (fun ac w β h7 S => ?_) (fun ac w β h7 S => ?_)
  ·have h8 := not_t h7
   have g9 := of_decide_eq_false h8
   exact S.gf 7 .nil [B false] (retB k0_laws_eqSlotS)
  have h10 := not_f h7
  have g11 := of_decide_eq_true h10
  refine S.ge 9 (.cons (qp (k : Int) 1) .nil) f3 fun ac w β S => hf4.of (a.length - (k + 1)) _ _ (by omega) ⟨k + 1, _, _, _, rfl, ?_, ?_, ?_, S.z⟩
  ·exact oz
  ·exact oz
  ·clear S; exact take_eq_step (by omega) (by omega) he (by simp_all)
 exact S.gf 12 .nil [B true] (retB k0_laws_eqSlotS)

end Go.Proofs.YtomgmpbipaldaaaGreat
