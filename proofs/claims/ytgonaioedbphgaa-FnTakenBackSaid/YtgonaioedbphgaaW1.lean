/- The walks: what each function that the laws reach computes (part 1). -/
import Derived.Test.YtgonaioedbphgaaMarks
import Derived.Test.YtgonaioedbphgaaCore9
import Derived.Test.YtgonaioedbphgaaEq
import Derived.Test.YtgonaioedbphgaaSz
import Derived.Test.YtgonaioedbphgaaOw
import Derived.Test.YtgonaioedbphgaaSpec3
import Derived.Test.YtgonaioedbphgaaDrawO
import Derived.Test.YtgonaioedbphgaaMk
import Derived.Test.YtgonaioedbphgaaSpec4
import Derived.Test.YtgonaioedbphgaaSlice
import Derived.Test.YtgonaioedbphgaaPt
import Derived.Test.YtgonaioedbphgaaSpec5
import Derived.Test.YtgonaioedbphgaaShort
import Derived.Test.YtgonaioedbphgaaClo
import Derived.Test.YtgonaioedbphgaaDag
import Derived.Test.YtgonaioedbphgaaSpec6
import Derived.Test.YtgonaioedbphgaaSpec7
import Derived.Test.YtgonaioedbphgaaHp
import Derived.Test.YtgonaioedbphgaaRun
import Derived.Test.YtgonaioedbphgaaRun2
import Derived.Test.YtgonaioedbphgaaSpec10
import Derived.Test.YtgonaioedbphgaaSpec11
import Derived.Test.YtgonaioedbphgaaSpec12
import Derived.Test.YtgonaioedbphgaaCopy
import Derived.Test.YtgonaioedbphgaaRunC
import Derived.Test.YtgonaioedbphgaaSpec9
import Derived.Test.YtgonaioedbphgaaSpec15
import Derived.Test.YtgonaioedbphgaaDrw
import Derived.Test.YtgonaioedbphgaaDraws
import Derived.Test.YtgonaioedbphgaaProg
import Derived.KernelRfl
namespace Go.Proofs.Ytgonaioedbphgaa
open Go
set_option linter.unusedVariables false
set_option linter.unusedSimpArgs false
set_option maxRecDepth 100000
set_option maxHeartbeats 2000000

theorem c_laws_big (w0 : World) (code : List TByte) (pcode : LP TByte) (hcode : GT.rd KR (Lt w0.heap.size) w0 code pcode) : Calls Try.prog 6 [slv code.length pcode.1].toArray w0 (fun e w' => e = .returned (B (decide (((code.length : Nat) : Int) > 1048576))) ∧ Chg NoB w0 w') := by
 refine Calls.run NoB Try.func6 ?_
 intro ac β S
 have hlecode : code.length ≤ 9223372036854775807 := LRd.le hcode
 exact S.gf 14 .nil [B (decide ((code.length : Int) > 1048576))] (retB (by clear S; rfl))

theorem k0_spec_Brought {p : Prop} (h : p := by clear S; (unfold f_brought; (repeat' split) <;> first | rfl | omega | (exfalso; simp_all; omega))) : p := h
theorem c_spec_Brought (w0 : World) (n : Int) (a : Int) (b : Int) : Calls Try.prog 97 [I n, I a, I b].toArray w0 (fun e w' => e = .returned (I (f_brought n a b)) ∧ Chg NoB w0 w') := by
 refine Calls.run NoB Try.func97 ?_
 intro ac β S
 refine S.gd 12 .nil (decide (b < a)) (fun ac w β h1 g2 S => ?_) (fun ac w β h1 g2 S => ?_)
 ·exact S.gf 14 .nil [I a] (retI k0_spec_Brought)
 refine S.gd 6 .nil (decide (n < a)) (fun ac w β h3 g4 S => ?_) (fun ac w β h3 g4 S => ?_)
 ·exact S.gf 8 .nil [I a] (retI k0_spec_Brought)
 refine S.gd 11 .nil (decide (n > b)) (fun ac w β h5 g6 S => ?_) (fun ac w β h5 g6 S => ?_)
 ·exact S.gf 8 .nil [I b] (retI k0_spec_Brought)
 exact S.gf 10 .nil [I n] (retI k0_spec_Brought)

theorem c_spec_MemNew (w0 : World) (n : Int) : Calls Try.prog 67 [I n].toArray w0 (Ret1 NoB w0 ((List.replicate (f_brought n 0 24).toNat (List.replicate 4 (0 : Int))) : List (List Int))) := by
 refine Calls.run NoB Try.func67 ?_
 intro ac β S
 refine S.go 7 .nil fun ac w β S => S.B0 (α := List Int) (d := 5) fun ac w N q1 F2 S up o3 d4 => ?_
 clear up d4
 refine S.go 12 (.cons (Q_call fun w hw => c_spec_Brought w n 0 24) .nil) fun ac w β S => ?_
 refine lp (fun mm ac w => ∃ (i : Int) (acc : List (List Int)) (q5 : _) (F6 : _) (u : _) (N : _) (β : _), mm = i.toNat ∧ (0 ≤ i ∧ i ≤ f_brought n 0 24) ∧ (acc = List.replicate (f_brought n 0 24 - i).toNat (List.replicate 4 0)) ∧ St Try.prog Try.f67.ntmps w0 NoB u N β ⟨[(3, .v (slv acc.length q5.1)), (4, .v (I i))], []⟩ ac w ∧ Ow w0 NoB u N F6 acc q5) _ ⟨(f_brought n 0 24), ([] : List (List Int)), q1, F2, _, _, _, rfl, (by (have hb := brought_bd n); omega), (by (rw [show (f_brought n 0 24 - f_brought n 0 24).toNat = 0 by omega]; rfl)), S.z, o3⟩ ?_
 clear S o3
 rintro f8 mm hf9 ac w ⟨i, acc, q5, F6, u, N, β, rfl, hi, hacc, S, o7⟩
 refine S.rs fun S => ?_
 have hb := brought_bd n
 have hlacc : acc.length ≤ 24 := by rw [hacc, List.length_replicate]; omega
 refine S.gd 7 .nil (decide (i > 0)) (fun ac w β h10 g11 S => ?_) (fun ac w β h10 g11 S => ?_)
 ·refine S.go 7 .nil fun ac w β S => S.Mk (α := Int) (m := 4) (by' := 8) (d := 13) (by omega) (show 4 ≤ 4194304 by omega) fun ac w N q12 F13 S up o14 d15 => ?_
  have d16 := Disj.w d15 o7.sub
  replace o7 := o7.up up
  clear up d15
  refine S.B1 (α := List Int) (x := (List.replicate 4 (GT.dflt : Int))) (p := q12) o14.own o14.sub o14.young (d := 14) fun ac w N q17 F18 S up o19 d20 => ?_
  have d21 := d20 _ d16 o7.sub
  replace o7 := o7.up up
  clear up d20
  refine S.AO (α := List Int) o7 o19 d21 (by' := 24) (d := 15) (lx := acc.length) (ly := 1) rfl rfl (show _ ≤ 4194304 by simp only [List.length_append, List.length_cons, List.length_nil]; omega) fun ac w N q22 F23 S up o24 d25 => ?_
  clear up d25
  refine S.ge 9 (.cons (qm i 1) .nil) f8 fun ac w β S => hf9.of (i - 1).toNat _ _ (by omega) ⟨(i - 1), (acc ++ [(List.replicate 4 (GT.dflt : Int))]), q22, F23, _, _, _, rfl, ?_, ?_, S.z, o24⟩
  ·clear S; omega
  ·clear S; (rw [hacc]; exact (repl_next (by omega)).symm)
 refine S.gr 13 .nil [slv acc.length q5.1] fun ac w β S => ?_
 exact ret1_of S (show (List.replicate (f_brought n 0 24).toNat (List.replicate 4 (0 : Int))) = acc by clear S; (rw [hacc, show i = 0 by omega, Int.sub_zero])) rfl o7

theorem c_spec_NoSlot (w0 : World)  : Calls Try.prog 58 [].toArray w0 (fun e w' => e = .returned (GT.val (⟨-1, 0⟩ : TSlot) ()) ∧ Chg NoB w0 w') := by
 refine Calls.run NoB Try.func58 ?_
 intro ac β S
 exact S.gf 12 (.cons (Q_sem (s := Instr.build 54 [(0, I (-1))].toArray) (v := .agg [I (-1), I 0].toArray) (fun w => by kernel_rfl)) .nil) [GT.val (⟨(-1), 0⟩ : TSlot) ()] (retV (p := ()) (by clear S; first | rfl | (simp [id, *]; done) | (simp [id, *]; omega) | (simp_all [id]; done) | (simp_all [id]; omega)))

theorem c_spec_TableNew (w0 : World) (n : Int) : Calls Try.prog 64 [I n].toArray w0 (Ret1 NoB w0 ((List.replicate (f_brought n 0 24).toNat (⟨-1, 0⟩ : TSlot)) : List TSlot)) := by
 refine Calls.run NoB Try.func64 ?_
 intro ac β S
 refine S.go 7 .nil fun ac w β S => S.B0 (α := TSlot) (d := 5) fun ac w N q1 F2 S up o3 d4 => ?_
 clear up d4
 refine S.go 12 (.cons (Q_call fun w hw => c_spec_Brought w n 0 24) .nil) fun ac w β S => ?_
 refine lp (fun mm ac w => ∃ (i : Int) (acc : List TSlot) (q5 : _) (F6 : _) (u : _) (N : _) (β : _), mm = i.toNat ∧ (0 ≤ i ∧ i ≤ f_brought n 0 24) ∧ (acc = List.replicate (f_brought n 0 24 - i).toNat (⟨-1, 0⟩ : TSlot)) ∧ St Try.prog Try.f64.ntmps w0 NoB u N β ⟨[(3, .v (slv acc.length q5.1)), (4, .v (I i))], []⟩ ac w ∧ Ow w0 NoB u N F6 acc q5) _ ⟨(f_brought n 0 24), ([] : List TSlot), q1, F2, _, _, _, rfl, (by (have hb := brought_bd n); omega), (by (rw [show (f_brought n 0 24 - f_brought n 0 24).toNat = 0 by omega]; rfl)), S.z, o3⟩ ?_
 clear S o3
 rintro f8 mm hf9 ac w ⟨i, acc, q5, F6, u, N, β, rfl, hi, hacc, S, o7⟩
 refine S.rs fun S => ?_
 have hb := brought_bd n
 have hlacc : acc.length ≤ 24 := by rw [hacc, List.length_replicate]; omega
 refine S.gd 7 .nil (decide (i > 0)) (fun ac w β h10 g11 S => ?_) (fun ac w β h10 g11 S => ?_)
 ·refine S.go 8 (.cons (Q_call fun w hw => c_spec_NoSlot w ) .nil) fun ac w β S => S.B1 (α := TSlot) (x := (⟨-1, 0⟩ : TSlot)) (p := ()) (F := NoB) (show RSlot ⟨-1, 0⟩ from ⟨⟨by decide, by decide⟩, ⟨by decide, by decide⟩⟩) (fun b h => False.elim h) (fun b h => False.elim h) (d := 14) fun ac w N q12 F13 S up o14 d15 => ?_
  have d16 := d15 _ (fun b _ h => False.elim h) o7.sub
  replace o7 := o7.up up
  clear up d15
  refine S.AF (α := TSlot) o7 o14.rn (fun _ _ h => h) (by' := 16) (d := 15) (lx := acc.length) (ly := 1) rfl rfl (show _ ≤ 4194304 by simp only [List.length_append, List.length_cons, List.length_nil]; omega) fun ac w N q17 F18 S up o19 d20 => ?_
  have d21 := d20 _ (Disj.symm d16) o14.sub
  replace o14 := o14.upF (Disj.symm d16) up
  clear up d20
  refine S.ge 9 (.cons (qm i 1) .nil) f8 fun ac w β S => hf9.of (i - 1).toNat _ _ (by omega) ⟨(i - 1), (acc ++ [((⟨-1, 0⟩ : TSlot))]), q17, F18, _, _, _, rfl, ?_, ?_, S.z, o19⟩
  ·clear S; omega
  ·clear S; (rw [hacc]; exact (repl_next (by omega)).symm)
 refine S.gr 13 .nil [slv acc.length q5.1] fun ac w β S => ?_
 exact ret1_of S (show (List.replicate (f_brought n 0 24).toNat (⟨-1, 0⟩ : TSlot)) = acc by clear S; (rw [hacc, show i = 0 by omega, Int.sub_zero])) rfl o7

theorem c_spec_GuestNew (w0 : World) (p : List TIns) (pp : LP TIns) (hp : RD w0 p pp) : Calls Try.prog 99 [slv p.length pp.1].toArray w0 (Ret1 NoB w0 (f_guestNew p : TGuest)) := by
 refine Calls.run NoB Try.func99 ?_
 intro ac β S
 have hlep : p.length ≤ 4194304 := LRd.le hp
 refine S.go 7 .nil fun ac w β S => S.B0 (α := TIns) (d := 3) fun ac w N q1 F2 S up o3 d4 => ?_
 clear up d4
 have b9 : p.length ≤ 4194304 := LRd.le (S.arg hp)
 refine S.go 1 .nil fun ac w β S => S.AF0 (α := TIns) o3 (S.arg hp) (fun _ _ h => h) (by' := 16) (d := 5) (lx := 0) (ly := p.length) rfl fun ac w N q5 F6 S up o7 d8 => ?_
 clear up d8
 have b10 := (List.length_replicate : (List.replicate (f_brought 4 0 24).toNat (⟨-1, 0⟩ : TSlot)).length = (f_brought 4 0 24).toNat)
 refine S.K1 (r := (List.replicate (f_brought 4 0 24).toNat (⟨-1, 0⟩ : TSlot))) (d := 6) (c_spec_TableNew w 4) fun ac w N q11 F12 S up o13 d14 => ?_
 have d15 := Disj.w d14 o7.sub
 replace o7 := o7.up up
 clear up d14
 have b16 := (List.length_replicate : (List.replicate (f_brought 4 0 24).toNat (⟨-1, 0⟩ : TSlot)).length = (f_brought 4 0 24).toNat)
 refine S.K1 (r := (List.replicate (f_brought 4 0 24).toNat (⟨-1, 0⟩ : TSlot))) (d := 7) (c_spec_TableNew w 4) fun ac w N q17 F18 S up o19 d20 => ?_
 have d21 := Disj.w d20 o7.sub
 have d22 := Disj.w d20 o13.sub
 replace o7 := o7.up up
 replace o13 := o13.up up
 clear up d20
 refine S.gr 5 (.cons (Q_sem (s := Instr.build 115 [(0, slv p.length q5.1), (3, slv (List.replicate (f_brought 4 0 24).toNat (⟨-1, 0⟩ : TSlot)).length q11.1), (4, slv (List.replicate (f_brought 4 0 24).toNat (⟨-1, 0⟩ : TSlot)).length q17.1)].toArray) (v := .agg [slv p.length q5.1, I 0, I 0, slv (List.replicate (f_brought 4 0 24).toNat (⟨-1, 0⟩ : TSlot)).length q11.1, slv (List.replicate (f_brought 4 0 24).toNat (⟨-1, 0⟩ : TSlot)).length q17.1, I 0, I 0, B false, I 0, I 0, I 0, B false, I 0, B false, slv ([] : List Int).length (GT.pdflt (α := List Int)).1].toArray) (fun w => by kernel_rfl)) .nil) [GT.val (⟨p, 0, 0, (List.replicate (f_brought 4 0 24).toNat (⟨-1, 0⟩ : TSlot)), (List.replicate (f_brought 4 0 24).toNat (⟨-1, 0⟩ : TSlot)), (⟨0, 0, false⟩ : TCtl), 0, (⟨0, 0, false, 0⟩ : TExit), false, ([] : List Int)⟩ : TGuest) (⟨q5, q11, q17, (GT.pdflt (α := List Int))⟩ : PGuest)] fun ac w β S => ?_
 have o23 := S.nilOw (α := Int)
 have o24 := ow_Guest (x := (⟨p, 0, 0, (List.replicate (f_brought 4 0 24).toNat (⟨-1, 0⟩ : TSlot)), (List.replicate (f_brought 4 0 24).toNat (⟨-1, 0⟩ : TSlot)), (⟨0, 0, false⟩ : TCtl), 0, (⟨0, 0, false, 0⟩ : TExit), false, ([] : List Int)⟩ : TGuest)) (p := (⟨q5, q11, q17, (GT.pdflt (α := List Int))⟩ : PGuest)) o7 o13 o19 o23 d15 d21 (fun b _ h => False.elim h) d22 (fun b _ h => False.elim h) (fun b _ h => False.elim h) (show In64 0 from ⟨by decide, by decide⟩) (show In64 0 from ⟨by decide, by decide⟩) (show RCtl (⟨0, 0, false⟩ : TCtl) from ⟨(show In64 0 from ⟨by decide, by decide⟩), (show In64 0 from ⟨by decide, by decide⟩)⟩) (show In64 0 from ⟨by decide, by decide⟩) (show RExit (⟨0, 0, false, 0⟩ : TExit) from ⟨(show In64 0 from ⟨by decide, by decide⟩), (show In64 0 from ⟨by decide, by decide⟩), (show In64 0 from ⟨by decide, by decide⟩)⟩)
 exact ret1_of S (show f_guestNew p = (⟨p, 0, 0, (List.replicate (f_brought 4 0 24).toNat (⟨-1, 0⟩ : TSlot)), (List.replicate (f_brought 4 0 24).toNat (⟨-1, 0⟩ : TSlot)), (⟨0, 0, false⟩ : TCtl), 0, (⟨0, 0, false, 0⟩ : TExit), false, ([] : List Int)⟩ : TGuest) by clear S; (first | rfl | (simp [f_guestNew]; rfl))) rfl o24

theorem c_spec_KeptNew (w0 : World) (n : Int) : Calls Try.prog 32 [I n].toArray w0 (Ret1 NoB w0 (f_keptNew n : TKept)) := by
 refine Calls.run NoB Try.func32 ?_
 intro ac β S
 have hb := brought_bd n
 have b1 := (List.length_replicate : (List.replicate (f_brought n 0 24).toNat (⟨-1, 0⟩ : TSlot)).length = (f_brought n 0 24).toNat)
 refine S.go 8 .nil fun ac w β S => S.K1 (r := (List.replicate (f_brought n 0 24).toNat (⟨-1, 0⟩ : TSlot))) (d := 5) (c_spec_TableNew w n) fun ac w N q2 F3 S up o4 d5 => ?_
 clear up d5
 refine S.go 7 .nil fun ac w β S => S.Mk (α := Bool) (m := (List.replicate (f_brought n 0 24).toNat (⟨-1, 0⟩ : TSlot)).length) (by' := 1) (d := 8) (by omega) (show (List.replicate (f_brought n 0 24).toNat (⟨-1, 0⟩ : TSlot)).length ≤ 4194304 by omega) fun ac w N q6 F7 S up o8 d9 => ?_
 have d10 := Disj.w d9 o4.sub
 replace o4 := o4.up up
 clear up d9
 replace S := S.z (σ' := ⟨[(2, .p 0 0), (3, .v (slv (List.replicate (f_brought n 0 24).toNat (⟨-1, 0⟩ : TSlot)).length q2.1)), (7, .v (I ((List.replicate (f_brought n 0 24).toNat (⟨-1, 0⟩ : TSlot)).length : Int))), (8, .v (slv (List.replicate (f_brought n 0 24).toNat (⟨-1, 0⟩ : TSlot)).length q6.1))], [Zc TKept]⟩)
 replace S := S.cast (σ' := ⟨[(2, .p 0 0), (3, .v (slv (List.replicate (f_brought n 0 24).toNat (⟨-1, 0⟩ : TSlot)).length q2.1)), (7, .v (I ((List.replicate (f_brought n 0 24).toNat (⟨-1, 0⟩ : TSlot)).length : Int))), (8, .v (slv (List.replicate (List.replicate (f_brought n 0 24).toNat (⟨-1, 0⟩ : TSlot)).length (GT.dflt : Bool)).length q6.1))], [Zc TKept]⟩) (by rw [show (List.replicate (List.replicate (f_brought n 0 24).toNat (⟨-1, 0⟩ : TSlot)).length (GT.dflt : Bool)).length = (List.replicate (f_brought n 0 24).toNat (⟨-1, 0⟩ : TSlot)).length from List.length_replicate])
 refine S.is fun S => ?_
 refine S.gr 6 (.cons (Q_sem (s := Instr.build 45 [(0, slv (List.replicate (List.replicate (f_brought n 0 24).toNat (⟨-1, 0⟩ : TSlot)).length (GT.dflt : Bool)).length q6.1), (1, slv (List.replicate (f_brought n 0 24).toNat (⟨-1, 0⟩ : TSlot)).length q2.1)].toArray) (v := .agg [slv (List.replicate (List.replicate (f_brought n 0 24).toNat (⟨-1, 0⟩ : TSlot)).length (GT.dflt : Bool)).length q6.1, slv (List.replicate (f_brought n 0 24).toNat (⟨-1, 0⟩ : TSlot)).length q2.1].toArray) (fun w => by kernel_rfl)) .nil) [GT.val (⟨(List.replicate (List.replicate (f_brought n 0 24).toNat (⟨-1, 0⟩ : TSlot)).length (GT.dflt : Bool)), (List.replicate (f_brought n 0 24).toNat (⟨-1, 0⟩ : TSlot))⟩ : TKept) (⟨q6, q2⟩ : PKept)] fun ac w β S => ?_
 have o11 := ow_Kept (x := (⟨(List.replicate (List.replicate (f_brought n 0 24).toNat (⟨-1, 0⟩ : TSlot)).length (GT.dflt : Bool)), (List.replicate (f_brought n 0 24).toNat (⟨-1, 0⟩ : TSlot))⟩ : TKept)) (p := (⟨q6, q2⟩ : PKept)) o8 o4 (Disj.symm d10) 
 exact ret1_of S (show f_keptNew n = (⟨(List.replicate (List.replicate (f_brought n 0 24).toNat (⟨-1, 0⟩ : TSlot)).length (GT.dflt : Bool)), (List.replicate (f_brought n 0 24).toNat (⟨-1, 0⟩ : TSlot))⟩ : TKept) by clear S; (first | rfl | (unfold f_keptNew; rw [List.length_replicate]; rfl))) rfl o11

theorem c_spec_MonNew (w0 : World) (progs : List (List TIns)) (pprogs : LP (List TIns)) (hprogs : RD w0 progs pprogs) : Calls Try.prog 68 [slv progs.length pprogs.1].toArray w0 (Ret1 NoB w0 (f_monNew progs : TMon)) := by
 refine Calls.run NoB Try.func68 ?_
 intro ac β S
 have hleprogs : progs.length ≤ 4194304 := LRd.le hprogs
 refine S.go 6 .nil fun ac w β S => ?_
 refine drw ?_
 let σ1 : Sy := ⟨[(0, .v (slv progs.length pprogs.1)), (2, .p 0 0)], [Zc TMon]⟩
 obtain ⟨u0, N0, β0, S⟩ : ∃ u0 N0 β0, St Try.prog Try.f68.ntmps w0 NoB u0 N0 β0 σ1 ac w := ⟨_, _, _, S.z⟩
 refine wp_region_cut (fun ac w => ∃ q115 F116 q112 F113 q109 F110 u N β, St Try.prog Try.f68.ntmps w0 NoB u N β (σ1.dl [] [(3, .p 1 0)] 2 [(1, [slv (List.replicate (f_brought 8 0 24).toNat (⟨-1, 0⟩ : TSlot)).length q109.1, slv (List.replicate (f_brought 8 0 24).toNat (List.replicate 4 (0 : Int))).length q112.1, slv 8 q115.1, slv ([] : List TGuest).length (GT.pdflt (α := List TGuest)).1, slv ([] : List Int).length (GT.pdflt (α := List Int)).1, I 0, I 0, slv ([] : List TKept).length (GT.pdflt (α := List TKept)).1, I 0])]) ac w ∧ Ow w0 NoB u N F116 (List.replicate 8 (GT.dflt : Bool)) q115 ∧ Ow w0 NoB u N F113 (List.replicate (f_brought 8 0 24).toNat (List.replicate 4 (0 : Int))) q112 ∧ Ow w0 NoB u N F110 (List.replicate (f_brought 8 0 24).toNat (⟨-1, 0⟩ : TSlot)) q109 ∧ Disj F116 F113 ∧ Disj F116 F110 ∧ Disj F113 F110) ?_ ?_
 ·refine S.draw0 (f := 6) 5 (by kernel_rfl) (by kernel_rfl) fun w S => ?_
  refine WD.nameW fun W hW => ?_
  refine WD.castW (l' := mkL 6 []) (by kernel_rfl) ?_
  have hK117 ac w q115 F116 q112 F113 q109 F110 u N β (S : St Try.prog Try.f68.ntmps w0 NoB u N β (σ1.dl [] [(3, .p 1 0)] 2 [(1, [slv (List.replicate (f_brought 8 0 24).toNat (⟨-1, 0⟩ : TSlot)).length q109.1, slv (List.replicate (f_brought 8 0 24).toNat (List.replicate 4 (0 : Int))).length q112.1, slv 8 q115.1, slv ([] : List TGuest).length (GT.pdflt (α := List TGuest)).1, slv ([] : List Int).length (GT.pdflt (α := List Int)).1, I 0, I 0, slv ([] : List TKept).length (GT.pdflt (α := List TKept)).1, I 0])]) ac w) (o114 : Ow w0 NoB u N F116 (List.replicate 8 (GT.dflt : Bool)) q115) (o111 : Ow w0 NoB u N F113 (List.replicate (f_brought 8 0 24).toNat (List.replicate 4 (0 : Int))) q112) (o108 : Ow w0 NoB u N F110 (List.replicate (f_brought 8 0 24).toNat (⟨-1, 0⟩ : TSlot)) q109) (d118 : Disj F116 F113) (d119 : Disj F116 F110) (d120 : Disj F113 F110) : W 0 (mkL 6 [0, 1, 2, 3, 4, 5]) ac w := by
   exact od hW ⟨rfl, q115, F116, q112, F113, q109, F110, _, _, _, S.z, o114, o111, o108, d118, d119, d120⟩
  have hK121 ac w q92 F93 q89 F90 q86 F87 u N β (S : St Try.prog Try.f68.ntmps w0 NoB u N β (σ1.dl [] [(3, .p 1 0), (8, .v (GT.val (⟨(List.replicate (f_brought 8 0 24).toNat (⟨-1, 0⟩ : TSlot)), (List.replicate (f_brought 8 0 24).toNat (List.replicate 4 (0 : Int))), (List.replicate 8 (GT.dflt : Bool)), ([] : List TGuest), ([] : List Int), 0, 0, ([] : List TKept), 0⟩ : TMon) (⟨q86, q89, q92, (GT.pdflt (α := List TGuest)), (GT.pdflt (α := List Int)), (GT.pdflt (α := List TKept))⟩ : PMon)))] 2 [(1, Zc TMon)]) ac w) (o91 : Ow w0 NoB u N F93 (List.replicate 8 (GT.dflt : Bool)) q92) (o88 : Ow w0 NoB u N F90 (List.replicate (f_brought 8 0 24).toNat (List.replicate 4 (0 : Int))) q89) (o85 : Ow w0 NoB u N F87 (List.replicate (f_brought 8 0 24).toNat (⟨-1, 0⟩ : TSlot)) q86) (d122 : Disj F93 F90) (d123 : Disj F93 F87) (d124 : Disj F90 F87) (hNN : NN N0 u0 N u) (hBB : BB σ1.bx.length β0 β) : W 1 (mkL 6 [0, 1, 2, 3, 4]) ac w := by
   exact ox1 hW 5 (S.wl hW [] .nil fun _ _ _ S => hK117 _ _ q92 F93 q89 F90 q86 F87 _ _ _ S o91 o88 o85 d122 d123 d124)
  have hK125 ac w q92 F93 q89 F90 q86 F87 u N β (S : St Try.prog Try.f68.ntmps w0 NoB u N β (σ1.dl [] [(8, .v (GT.val (⟨(List.replicate (f_brought 8 0 24).toNat (⟨-1, 0⟩ : TSlot)), (List.replicate (f_brought 8 0 24).toNat (List.replicate 4 (0 : Int))), (List.replicate 8 (GT.dflt : Bool)), ([] : List TGuest), ([] : List Int), 0, 0, ([] : List TKept), 0⟩ : TMon) (⟨q86, q89, q92, (GT.pdflt (α := List TGuest)), (GT.pdflt (α := List Int)), (GT.pdflt (α := List TKept))⟩ : PMon)))] 1 []) ac w) (o91 : Ow w0 NoB u N F93 (List.replicate 8 (GT.dflt : Bool)) q92) (o88 : Ow w0 NoB u N F90 (List.replicate (f_brought 8 0 24).toNat (List.replicate 4 (0 : Int))) q89) (o85 : Ow w0 NoB u N F87 (List.replicate (f_brought 8 0 24).toNat (⟨-1, 0⟩ : TSlot)) q86) (d126 : Disj F93 F90) (d127 : Disj F93 F87) (d128 : Disj F90 F87) (hNN : NN N0 u0 N u) (hBB : BB σ1.bx.length β0 β) : W 2 (mkL 6 [0, 1, 2, 3]) ac w := by
   exact ox1 hW 4 (S.wq hW hNN hBB [] .nil fun _ _ _ S hB => hK121 _ _ q92 F93 q89 F90 q86 F87 _ _ _ S o91 o88 o85 d126 d127 d128 hNN hB)
  have hK129 ac w q9 F10 q26 F27 q17 F18 u N β (S : St Try.prog Try.f68.ntmps w0 NoB u N β (σ1.dl [] [(3, .p 1 0), (5, .v (slv (List.replicate (f_brought 8 0 24).toNat (⟨-1, 0⟩ : TSlot)).length q9.1)), (6, .v (slv (List.replicate (f_brought 8 0 24).toNat (List.replicate 4 (0 : Int))).length q26.1)), (7, .v (slv 8 q17.1))] 2 [(1, Zc TMon)]) ac w) (o8 : Ow w0 NoB u N F10 (List.replicate (f_brought 8 0 24).toNat (⟨-1, 0⟩ : TSlot)) q9) (o25 : Ow w0 NoB u N F27 (List.replicate (f_brought 8 0 24).toNat (List.replicate 4 (0 : Int))) q26) (o16 : Ow w0 NoB u N F18 (List.replicate 8 (GT.dflt : Bool)) q17) (d130 : Disj F10 F27) (d131 : Disj F10 F18) (d132 : Disj F27 F18) (hNN : NN N0 u0 N u) (hBB : BB σ1.bx.length β0 β) : W 2 (mkL 6 [0, 1, 2, 4]) ac w := by
   exact ox1 hW 3 (S.wq hW hNN hBB [] (.cons (Q_sem (s := Instr.build 42 [(0, slv (List.replicate (f_brought 8 0 24).toNat (⟨-1, 0⟩ : TSlot)).length q9.1), (1, slv (List.replicate (f_brought 8 0 24).toNat (List.replicate 4 (0 : Int))).length q26.1), (2, slv 8 q17.1)].toArray) (v := .agg [slv (List.replicate (f_brought 8 0 24).toNat (⟨-1, 0⟩ : TSlot)).length q9.1, slv (List.replicate (f_brought 8 0 24).toNat (List.replicate 4 (0 : Int))).length q26.1, slv 8 q17.1, slv ([] : List TGuest).length (GT.pdflt (α := List TGuest)).1, slv ([] : List Int).length (GT.pdflt (α := List Int)).1, I 0, I 0, slv ([] : List TKept).length (GT.pdflt (α := List TKept)).1, I 0].toArray) (fun w => by kernel_rfl)) .nil) fun _ _ _ S hB => hK121 _ _ q17 F18 q26 F27 q9 F10 _ _ _ S o16 o25 o8 (Disj.symm d132) (Disj.symm d131) (Disj.symm d130) hNN hB)
  have hK133 ac w q9 F10 q26 F27 q17 F18 u N β (S : St Try.prog Try.f68.ntmps w0 NoB u N β (σ1.dl [] [(5, .v (slv (List.replicate (f_brought 8 0 24).toNat (⟨-1, 0⟩ : TSlot)).length q9.1)), (6, .v (slv (List.replicate (f_brought 8 0 24).toNat (List.replicate 4 (0 : Int))).length q26.1)), (7, .v (slv 8 q17.1))] 1 []) ac w) (o8 : Ow w0 NoB u N F10 (List.replicate (f_brought 8 0 24).toNat (⟨-1, 0⟩ : TSlot)) q9) (o25 : Ow w0 NoB u N F27 (List.replicate (f_brought 8 0 24).toNat (List.replicate 4 (0 : Int))) q26) (o16 : Ow w0 NoB u N F18 (List.replicate 8 (GT.dflt : Bool)) q17) (d134 : Disj F10 F27) (d135 : Disj F10 F18) (d136 : Disj F27 F18) (hNN : NN N0 u0 N u) (hBB : BB σ1.bx.length β0 β) : W 3 (mkL 6 [0, 1, 2]) ac w := by
   exact ox2 hW 3 4 (S.wq hW hNN hBB [] (.cons (Q_sem (s := Instr.build 42 [(0, slv (List.replicate (f_brought 8 0 24).toNat (⟨-1, 0⟩ : TSlot)).length q9.1), (1, slv (List.replicate (f_brought 8 0 24).toNat (List.replicate 4 (0 : Int))).length q26.1), (2, slv 8 q17.1)].toArray) (v := .agg [slv (List.replicate (f_brought 8 0 24).toNat (⟨-1, 0⟩ : TSlot)).length q9.1, slv (List.replicate (f_brought 8 0 24).toNat (List.replicate 4 (0 : Int))).length q26.1, slv 8 q17.1, slv ([] : List TGuest).length (GT.pdflt (α := List TGuest)).1, slv ([] : List Int).length (GT.pdflt (α := List Int)).1, I 0, I 0, slv ([] : List TKept).length (GT.pdflt (α := List TKept)).1, I 0].toArray) (fun w => by kernel_rfl)) .nil) fun _ _ _ S hB => hK125 _ _ q17 F18 q26 F27 q9 F10 _ _ _ S o16 o25 o8 (Disj.symm d136) (Disj.symm d135) (Disj.symm d134) hNN hB) (S.wq hW hNN hBB [] .nil fun _ _ _ S hB => hK129 _ _ q9 F10 q26 F27 q17 F18 _ _ _ S o8 o25 o16 d134 d135 d136 hNN hB)
  have hK137 ac w q9 F10 q26 F27 u N β (S : St Try.prog Try.f68.ntmps w0 NoB u N β (σ1.dl [] [(3, .p 1 0), (5, .v (slv (List.replicate (f_brought 8 0 24).toNat (⟨-1, 0⟩ : TSlot)).length q9.1)), (6, .v (slv (List.replicate (f_brought 8 0 24).toNat (List.replicate 4 (0 : Int))).length q26.1))] 2 [(1, Zc TMon)]) ac w) (o8 : Ow w0 NoB u N F10 (List.replicate (f_brought 8 0 24).toNat (⟨-1, 0⟩ : TSlot)) q9) (o25 : Ow w0 NoB u N F27 (List.replicate (f_brought 8 0 24).toNat (List.replicate 4 (0 : Int))) q26) (d138 : Disj F10 F27) (hNN : NN N0 u0 N u) (hBB : BB σ1.bx.length β0 β) : W 3 (mkL 6 [0, 1, 4]) ac w := by
   refine ox1 hW 2 ?_
   refine id (S.make (α := Bool) (m := 8) (by' := 1) (d := 7) (by kernel_rfl) (by omega) (show 8 ≤ 4194304 by omega) fun ac w N q139 F140 S up o141 d142 => ?_)
   have hb143 := fun b h => (⟨(up b (hNN b h).1).1, (up b (hNN b h).1).2.trans (hNN b h).2⟩ : _ ∧ _)
   refine WD.sc S hb143 hBB fun hC => ?_
   have d144 := Disj.w d142 o8.sub
   have d145 := Disj.w d142 o25.sub
   replace o8 := o8.up up
   replace o25 := o25.up up
   clear up d142
   exact S.wh hW [] hC fun _ S => hK129 _ _ q9 F10 q26 F27 q139 F140 _ _ _ S o8 o25 o141 d138 d144 d145 hb143 hBB
  have hK146 ac w q9 F10 q17 F18 u N β (S : St Try.prog Try.f68.ntmps w0 NoB u N β (σ1.dl [] [(3, .p 1 0), (5, .v (slv (List.replicate (f_brought 8 0 24).toNat (⟨-1, 0⟩ : TSlot)).length q9.1)), (7, .v (slv 8 q17.1))] 2 [(1, Zc TMon)]) ac w) (o8 : Ow w0 NoB u N F10 (List.replicate (f_brought 8 0 24).toNat (⟨-1, 0⟩ : TSlot)) q9) (o16 : Ow w0 NoB u N F18 (List.replicate 8 (GT.dflt : Bool)) q17) (d147 : Disj F10 F18) (hNN : NN N0 u0 N u) (hBB : BB σ1.bx.length β0 β) : W 3 (mkL 6 [0, 2, 4]) ac w := by
   refine ox1 hW 1 ?_
   refine id (S.k1 6 (c_spec_MemNew w 8) fun ac w N q148 F149 S up o150 d151 => ?_)
   have hb152 := fun b h => (⟨(up b (hNN b h).1).1, (up b (hNN b h).1).2.trans (hNN b h).2⟩ : _ ∧ _)
   refine WD.sc S hb152 hBB fun hC => ?_
   have d153 := Disj.w d151 o8.sub
   have d154 := Disj.w d151 o16.sub
   replace o8 := o8.up up
   replace o16 := o16.up up
   clear up d151
   exact S.wh hW [] hC fun _ S => hK129 _ _ q9 F10 q148 F149 q17 F18 _ _ _ S o8 o150 o16 d153 d147 (Disj.symm d154) hb152 hBB
  have hK155 ac w q9 F10 q26 F27 u N β (S : St Try.prog Try.f68.ntmps w0 NoB u N β (σ1.dl [] [(5, .v (slv (List.replicate (f_brought 8 0 24).toNat (⟨-1, 0⟩ : TSlot)).length q9.1)), (6, .v (slv (List.replicate (f_brought 8 0 24).toNat (List.replicate 4 (0 : Int))).length q26.1))] 1 []) ac w) (o8 : Ow w0 NoB u N F10 (List.replicate (f_brought 8 0 24).toNat (⟨-1, 0⟩ : TSlot)) q9) (o25 : Ow w0 NoB u N F27 (List.replicate (f_brought 8 0 24).toNat (List.replicate 4 (0 : Int))) q26) (d156 : Disj F10 F27) (hNN : NN N0 u0 N u) (hBB : BB σ1.bx.length β0 β) : W 4 (mkL 6 [0, 1]) ac w := by
   refine ox2 hW 2 4 ?_ (S.wq hW hNN hBB [] .nil fun _ _ _ S hB => hK137 _ _ q9 F10 q26 F27 _ _ _ S o8 o25 d156 hNN hB)
   refine id (S.make (α := Bool) (m := 8) (by' := 1) (d := 7) (by kernel_rfl) (by omega) (show 8 ≤ 4194304 by omega) fun ac w N q157 F158 S up o159 d160 => ?_)
   have hb161 := fun b h => (⟨(up b (hNN b h).1).1, (up b (hNN b h).1).2.trans (hNN b h).2⟩ : _ ∧ _)
   refine WD.sc S hb161 hBB fun hC => ?_
   have d162 := Disj.w d160 o8.sub
   have d163 := Disj.w d160 o25.sub
   replace o8 := o8.up up
   replace o25 := o25.up up
   clear up d160
   exact S.wh hW [] hC fun _ S => hK133 _ _ q9 F10 q26 F27 q157 F158 _ _ _ S o8 o25 o159 d156 d162 d163 hb161 hBB
  have hK164 ac w q9 F10 q17 F18 u N β (S : St Try.prog Try.f68.ntmps w0 NoB u N β (σ1.dl [] [(5, .v (slv (List.replicate (f_brought 8 0 24).toNat (⟨-1, 0⟩ : TSlot)).length q9.1)), (7, .v (slv 8 q17.1))] 1 []) ac w) (o8 : Ow w0 NoB u N F10 (List.replicate (f_brought 8 0 24).toNat (⟨-1, 0⟩ : TSlot)) q9) (o16 : Ow w0 NoB u N F18 (List.replicate 8 (GT.dflt : Bool)) q17) (d165 : Disj F10 F18) (hNN : NN N0 u0 N u) (hBB : BB σ1.bx.length β0 β) : W 4 (mkL 6 [0, 2]) ac w := by
   refine ox2 hW 1 4 ?_ (S.wq hW hNN hBB [] .nil fun _ _ _ S hB => hK146 _ _ q9 F10 q17 F18 _ _ _ S o8 o16 d165 hNN hB)
   refine id (S.k1 6 (c_spec_MemNew w 8) fun ac w N q166 F167 S up o168 d169 => ?_)
   have hb170 := fun b h => (⟨(up b (hNN b h).1).1, (up b (hNN b h).1).2.trans (hNN b h).2⟩ : _ ∧ _)
   refine WD.sc S hb170 hBB fun hC => ?_
   have d171 := Disj.w d169 o8.sub
   have d172 := Disj.w d169 o16.sub
   replace o8 := o8.up up
   replace o16 := o16.up up
   clear up d169
   exact S.wh hW [] hC fun _ S => hK133 _ _ q9 F10 q166 F167 q17 F18 _ _ _ S o8 o168 o16 d171 d165 (Disj.symm d172) hb170 hBB
  have hK173 ac w q9 F10 u N β (S : St Try.prog Try.f68.ntmps w0 NoB u N β (σ1.dl [] [(3, .p 1 0), (5, .v (slv (List.replicate (f_brought 8 0 24).toNat (⟨-1, 0⟩ : TSlot)).length q9.1))] 2 [(1, Zc TMon)]) ac w) (o8 : Ow w0 NoB u N F10 (List.replicate (f_brought 8 0 24).toNat (⟨-1, 0⟩ : TSlot)) q9) (hNN : NN N0 u0 N u) (hBB : BB σ1.bx.length β0 β) : W 4 (mkL 6 [0, 4]) ac w := by
   refine ox2 hW 1 2 ?_ ?_
   ·refine id (S.k1 6 (c_spec_MemNew w 8) fun ac w N q174 F175 S up o176 d177 => ?_)
    have hb178 := fun b h => (⟨(up b (hNN b h).1).1, (up b (hNN b h).1).2.trans (hNN b h).2⟩ : _ ∧ _)
    refine WD.sc S hb178 hBB fun hC => ?_
    have d179 := Disj.w d177 o8.sub
    replace o8 := o8.up up
    clear up d177
    exact S.wh hW [] hC fun _ S => hK137 _ _ q9 F10 q174 F175 _ _ _ S o8 o176 d179 hb178 hBB
   ·refine id (S.make (α := Bool) (m := 8) (by' := 1) (d := 7) (by kernel_rfl) (by omega) (show 8 ≤ 4194304 by omega) fun ac w N q180 F181 S up o182 d183 => ?_)
    have hb184 := fun b h => (⟨(up b (hNN b h).1).1, (up b (hNN b h).1).2.trans (hNN b h).2⟩ : _ ∧ _)
    refine WD.sc S hb184 hBB fun hC => ?_
    have d185 := Disj.w d183 o8.sub
    replace o8 := o8.up up
    clear up d183
    exact S.wh hW [] hC fun _ S => hK146 _ _ q9 F10 q180 F181 _ _ _ S o8 o182 d185 hb184 hBB
  have hK186 ac w q17 F18 u N β (S : St Try.prog Try.f68.ntmps w0 NoB u N β (σ1.dl [] [(3, .p 1 0), (7, .v (slv 8 q17.1))] 2 [(1, Zc TMon)]) ac w) (o16 : Ow w0 NoB u N F18 (List.replicate 8 (GT.dflt : Bool)) q17) (hNN : NN N0 u0 N u) (hBB : BB σ1.bx.length β0 β) : W 4 (mkL 6 [2, 4]) ac w := by
   refine ox1 hW 0 ?_
   have b187 := (List.length_replicate : (List.replicate (f_brought 8 0 24).toNat (⟨-1, 0⟩ : TSlot)).length = (f_brought 8 0 24).toNat)
   refine id (S.k1 5 (c_spec_TableNew w 8) fun ac w N q188 F189 S up o190 d191 => ?_)
   have hb192 := fun b h => (⟨(up b (hNN b h).1).1, (up b (hNN b h).1).2.trans (hNN b h).2⟩ : _ ∧ _)
   refine WD.sc S hb192 hBB fun hC => ?_
   have d193 := Disj.w d191 o16.sub
   replace o16 := o16.up up
   clear up d191
   exact S.wh hW [] hC fun _ S => hK146 _ _ q188 F189 q17 F18 _ _ _ S o190 o16 (Disj.symm d193) hb192 hBB
  have hK194 ac w q9 F10 u N β (S : St Try.prog Try.f68.ntmps w0 NoB u N β (σ1.dl [] [(5, .v (slv (List.replicate (f_brought 8 0 24).toNat (⟨-1, 0⟩ : TSlot)).length q9.1))] 1 []) ac w) (o8 : Ow w0 NoB u N F10 (List.replicate (f_brought 8 0 24).toNat (⟨-1, 0⟩ : TSlot)) q9) (hNN : NN N0 u0 N u) (hBB : BB σ1.bx.length β0 β) : W 5 (mkL 6 [0]) ac w := by
   refine ox3 hW 1 2 4 ?_ ?_ (S.wq hW hNN hBB [] .nil fun _ _ _ S hB => hK173 _ _ q9 F10 _ _ _ S o8 hNN hB)
   ·refine id (S.k1 6 (c_spec_MemNew w 8) fun ac w N q195 F196 S up o197 d198 => ?_)
    have hb199 := fun b h => (⟨(up b (hNN b h).1).1, (up b (hNN b h).1).2.trans (hNN b h).2⟩ : _ ∧ _)
    refine WD.sc S hb199 hBB fun hC => ?_
    have d200 := Disj.w d198 o8.sub
    replace o8 := o8.up up
    clear up d198
    exact S.wh hW [] hC fun _ S => hK155 _ _ q9 F10 q195 F196 _ _ _ S o8 o197 d200 hb199 hBB
   ·refine id (S.make (α := Bool) (m := 8) (by' := 1) (d := 7) (by kernel_rfl) (by omega) (show 8 ≤ 4194304 by omega) fun ac w N q201 F202 S up o203 d204 => ?_)
    have hb205 := fun b h => (⟨(up b (hNN b h).1).1, (up b (hNN b h).1).2.trans (hNN b h).2⟩ : _ ∧ _)
    refine WD.sc S hb205 hBB fun hC => ?_
    have d206 := Disj.w d204 o8.sub
    replace o8 := o8.up up
    clear up d204
    exact S.wh hW [] hC fun _ S => hK164 _ _ q9 F10 q201 F202 _ _ _ S o8 o203 d206 hb205 hBB
  have hK207 ac w q17 F18 u N β (S : St Try.prog Try.f68.ntmps w0 NoB u N β (σ1.dl [] [(7, .v (slv 8 q17.1))] 1 []) ac w) (o16 : Ow w0 NoB u N F18 (List.replicate 8 (GT.dflt : Bool)) q17) (hNN : NN N0 u0 N u) (hBB : BB σ1.bx.length β0 β) : W 5 (mkL 6 [2]) ac w := by
   refine ox2 hW 0 4 ?_ (S.wq hW hNN hBB [] .nil fun _ _ _ S hB => hK186 _ _ q17 F18 _ _ _ S o16 hNN hB)
   have b208 := (List.length_replicate : (List.replicate (f_brought 8 0 24).toNat (⟨-1, 0⟩ : TSlot)).length = (f_brought 8 0 24).toNat)
   refine id (S.k1 5 (c_spec_TableNew w 8) fun ac w N q209 F210 S up o211 d212 => ?_)
   have hb213 := fun b h => (⟨(up b (hNN b h).1).1, (up b (hNN b h).1).2.trans (hNN b h).2⟩ : _ ∧ _)
   refine WD.sc S hb213 hBB fun hC => ?_
   have d214 := Disj.w d212 o16.sub
   replace o16 := o16.up up
   clear up d212
   exact S.wh hW [] hC fun _ S => hK164 _ _ q209 F210 q17 F18 _ _ _ S o211 o16 (Disj.symm d214) hb213 hBB
  have hK215 ac w u N β (S : St Try.prog Try.f68.ntmps w0 NoB u N β (σ1.dl [] [(3, .p 1 0)] 2 [(1, Zc TMon)]) ac w) (hNN : NN N0 u0 N u) (hBB : BB σ1.bx.length β0 β) : W 5 (mkL 6 [4]) ac w := by
   refine ox2 hW 0 2 ?_ ?_
   ·have b216 := (List.length_replicate : (List.replicate (f_brought 8 0 24).toNat (⟨-1, 0⟩ : TSlot)).length = (f_brought 8 0 24).toNat)
    refine id (S.k1 5 (c_spec_TableNew w 8) fun ac w N q217 F218 S up o219 d220 => ?_)
    have hb221 := fun b h => (⟨(up b (hNN b h).1).1, (up b (hNN b h).1).2.trans (hNN b h).2⟩ : _ ∧ _)
    refine WD.sc S hb221 hBB fun hC => ?_
    clear up d220
    exact S.wh hW [] hC fun _ S => hK173 _ _ q217 F218 _ _ _ S o219 hb221 hBB
   ·refine id (S.make (α := Bool) (m := 8) (by' := 1) (d := 7) (by kernel_rfl) (by omega) (show 8 ≤ 4194304 by omega) fun ac w N q222 F223 S up o224 d225 => ?_)
    have hb226 := fun b h => (⟨(up b (hNN b h).1).1, (up b (hNN b h).1).2.trans (hNN b h).2⟩ : _ ∧ _)
    refine WD.sc S hb226 hBB fun hC => ?_
    clear up d225
    exact S.wh hW [] hC fun _ S => hK186 _ _ q222 F223 _ _ _ S o224 hb226 hBB
  have hNN : NN N0 u0 N0 u0 := fun b h => ⟨h, rfl⟩
  have hBB : BB σ1.bx.length β0 β0 := fun _ _ => rfl
  refine ox3 hW 0 2 4 ?_ ?_ (S.wq hW hNN hBB [] .nil fun _ _ _ S hB => hK215 _ _ _ _ _ S hNN hB)
  ·have b227 := (List.length_replicate : (List.replicate (f_brought 8 0 24).toNat (⟨-1, 0⟩ : TSlot)).length = (f_brought 8 0 24).toNat)
   refine id (S.k1 5 (c_spec_TableNew w 8) fun ac w N q228 F229 S up o230 d231 => ?_)
   have hb232 := fun b h => (⟨(up b (hNN b h).1).1, (up b (hNN b h).1).2.trans (hNN b h).2⟩ : _ ∧ _)
   refine WD.sc S hb232 hBB fun hC => ?_
   clear up d231
   exact S.wh hW [] hC fun _ S => hK194 _ _ q228 F229 _ _ _ S o230 hb232 hBB
  ·refine id (S.make (α := Bool) (m := 8) (by' := 1) (d := 7) (by kernel_rfl) (by omega) (show 8 ≤ 4194304 by omega) fun ac w N q233 F234 S up o235 d236 => ?_)
   have hb237 := fun b h => (⟨(up b (hNN b h).1).1, (up b (hNN b h).1).2.trans (hNN b h).2⟩ : _ ∧ _)
   refine WD.sc S hb237 hBB fun hC => ?_
   clear up d236
   exact S.wh hW [] hC fun _ S => hK207 _ _ q233 F234 _ _ _ S o235 hb237 hBB
 clear S
 rintro ac w ⟨q115, F116, q112, F113, q109, F110, u, N, β, S, o114, o111, o108, d238, d239, d240⟩
 refine S.ex fun S => ?_
 refine S.go 8 .nil fun ac w β S => ?_
 have o247 := S.nilOw (α := TGuest)
 have o248 := S.nilOw (α := TKept)
 refine lp (fun mm ac w => ∃ (k : Nat) (gs : List TGuest) (tb : List TKept) (q241 : _) (F242 : _) (q244 : _) (F245 : _) (u : _) (N : _) (β : _), mm = progs.length - k ∧ (k ≤ progs.length) ∧ (k ≤ 2) ∧ (gs = ((progs.take 2).take k).map f_guestNew) ∧ (tb = ((progs.take 2).take k).map (fun _ => f_keptNew 4)) ∧ St Try.prog Try.f68.ntmps w0 NoB u N β ⟨[(0, .v (slv progs.length pprogs.1)), (2, .p 0 0), (3, .p 1 0), (4, .v (I (k : Int)))], [Zc TMon, [slv (List.replicate (f_brought 8 0 24).toNat (⟨-1, 0⟩ : TSlot)).length q109.1, slv (List.replicate (f_brought 8 0 24).toNat (List.replicate 4 (0 : Int))).length q112.1, slv 8 q115.1, slv gs.length q241.1, slv ([] : List Int).length (GT.pdflt (α := List Int)).1, I 0, I 0, slv tb.length q244.1, I 0]]⟩ ac w ∧ Ow w0 NoB u N F242 gs q241 ∧ Ow w0 NoB u N F245 tb q244 ∧ Ow w0 NoB u N F110 (List.replicate (f_brought 8 0 24).toNat (⟨-1, 0⟩ : TSlot)) q109 ∧ Ow w0 NoB u N F113 (List.replicate (f_brought 8 0 24).toNat (List.replicate 4 (0 : Int))) q112 ∧ Ow w0 NoB u N F116 (List.replicate 8 (GT.dflt : Bool)) q115 ∧ Disj F242 F245 ∧ Disj F242 F110 ∧ Disj F242 F113 ∧ Disj F242 F116 ∧ Disj F245 F110 ∧ Disj F245 F113 ∧ Disj F245 F116) _ ⟨0, ([] : List TGuest), ([] : List TKept), (GT.pdflt (α := List TGuest)), NoB, (GT.pdflt (α := List TKept)), NoB, _, _, _, rfl, o0, o0, (by rfl), (by rfl), S.z, o247, o248, o108, o111, o114, (fun b _ h => False.elim h), (Disj.symm (fun b _ h => False.elim h)), (Disj.symm (fun b _ h => False.elim h)), (Disj.symm (fun b _ h => False.elim h)), (Disj.symm (fun b _ h => False.elim h)), (Disj.symm (fun b _ h => False.elim h)), (Disj.symm (fun b _ h => False.elim h))⟩ ?_
 clear S o108 o111 o114 o247 o248
 rintro f256 mm hf257 ac w ⟨k, gs, tb, q241, F242, q244, F245, u, N, β, rfl, hk, hkm, hgs, htb, S, o243, o246, o108, o111, o114, d249, d250, d251, d252, d253, d254, d255⟩
 refine S.rs fun S => ?_
 have hlgs : gs.length ≤ 2 := by rw [hgs, List.length_map, List.length_take]; omega
 have hltb : tb.length ≤ 2 := by rw [htb, List.length_map, List.length_take]; omega
 refine S.gd 8 .nil (decide ((k : Int) < (progs.length : Int))) (fun ac w β h258 g259 S => ?_) (fun ac w β h258 g259 S => ?_)
 ·refine S.gd 5 .nil (decide ((k : Int) < 2)) (fun ac w β h260 g261 S => ?_) (fun ac w β h260 g261 S => ?_)
  ·refine S.go 6 .nil fun ac w β S => ?_
   refine drw ?_
   refine S.draw0 (f := 11) 8 (by kernel_rfl) (by kernel_rfl) fun w S => ?_
   refine S.hq 0 [1, 0] [] [(19, .p 1 3)] .nil fun ac S => ?_
   refine S.hq 1 [1] [] [(20, .v (slv gs.length q241.1))] .nil fun ac S => ?_
   refine S.hq 2 [6, 5, 4, 2] [] [(21, .v (slv progs.length pprogs.1))] .nil fun ac S => ?_
   refine S.hq 3 [6, 5, 4, 3] [] [(22, .v (I (k : Int)))] .nil fun ac S => ?_
   refine S.hq 4 [6, 5, 4] [] [(23, .v (pt pprogs.1.b (pprogs.1.off + k * 1)))] (.cons (qn (S.arg hprogs) k Try.underlying30) .nil) fun ac S => ?_
   refine S.hq 5 [6, 5] [] [(24, .v (slv (el progs k).length (pprogs.2 k).1))] (.cons (qx (S.arg hprogs) 28 k) .nil) fun ac S => ?_
   refine WD.one (i := 6) (by kernel_rfl) ?_
   refine id (S.k1 25 (c_spec_GuestNew w (el progs k) (pprogs.2 k) (S.rd (LRd.el (S.arg hprogs) k (by omega)))) fun ac w N q262 F263 S up o264 d265 => ?_)
   refine WD.next S up (by kernel_rfl) ?_
   have d266 := Disj.w d265 o243.sub
   have d267 := Disj.w d265 o246.sub
   have d268 := Disj.w d265 o108.sub
   have d269 := Disj.w d265 o111.sub
   have d270 := Disj.w d265 o114.sub
   replace o243 := o243.up up
   replace o246 := o246.up up
   replace o108 := o108.up up
   replace o111 := o111.up up
   replace o114 := o114.up up
   clear up d265
   have i274 : In64 (f_guestNew (el progs k)).acc := RGuest.acc (d := (f_guestNew (el progs k))) o264.rn
   have i275 : In64 (f_guestNew (el progs k)).pc := RGuest.pc (d := (f_guestNew (el progs k))) o264.rn
   have i282 : RCtl (f_guestNew (el progs k)).ctl := RGuest.ctl (d := (f_guestNew (el progs k))) o264.rn
   have i283 : In64 (f_guestNew (el progs k)).pend := RGuest.pend (d := (f_guestNew (el progs k))) o264.rn
   have i284 : RExit (f_guestNew (el progs k)).exit := RGuest.exit (d := (f_guestNew (el progs k))) o264.rn
   obtain ⟨F271, F276, F279, F285, o272, o277, o280, o286, s273, s278, s281, s287, d288, d289, d290, d291, d292, d293⟩ := sp_Guest o264
   refine WD.one (i := 7) (by kernel_rfl) ?_
   have o298 := ow_Guest (x := (f_guestNew (el progs k))) (p := q262) o272 o277 o280 o286 d288 d289 d290 d291 d292 d293 i274 i275 i282 i283 i284
   refine id (S.bs1 (α := TGuest) (x := (f_guestNew (el progs k))) (p := q262) o298.own o298.sub o298.young (d := 26) (by kernel_rfl) fun ac w N q294 F295 S up o296 d297 => ?_)
   refine WD.next S up (by kernel_rfl) ?_
   have d299 := d297 _ (Disj.symm (Disj.or (Disj.part (Disj.symm d266) s273) (Disj.or (Disj.part (Disj.symm d266) s278) (Disj.or (Disj.part (Disj.symm d266) s281) (Disj.or (Disj.part (Disj.symm d266) s287) Disj.nob))))) o243.sub
   have d300 := d297 _ (Disj.symm (Disj.or (Disj.part (Disj.symm d267) s273) (Disj.or (Disj.part (Disj.symm d267) s278) (Disj.or (Disj.part (Disj.symm d267) s281) (Disj.or (Disj.part (Disj.symm d267) s287) Disj.nob))))) o246.sub
   have d301 := d297 _ (Disj.symm (Disj.or (Disj.part (Disj.symm d268) s273) (Disj.or (Disj.part (Disj.symm d268) s278) (Disj.or (Disj.part (Disj.symm d268) s281) (Disj.or (Disj.part (Disj.symm d268) s287) Disj.nob))))) o108.sub
   have d302 := d297 _ (Disj.symm (Disj.or (Disj.part (Disj.symm d269) s273) (Disj.or (Disj.part (Disj.symm d269) s278) (Disj.or (Disj.part (Disj.symm d269) s281) (Disj.or (Disj.part (Disj.symm d269) s287) Disj.nob))))) o111.sub
   have d303 := d297 _ (Disj.symm (Disj.or (Disj.part (Disj.symm d270) s273) (Disj.or (Disj.part (Disj.symm d270) s278) (Disj.or (Disj.part (Disj.symm d270) s281) (Disj.or (Disj.part (Disj.symm d270) s287) Disj.nob))))) o114.sub
   replace o243 := o243.up up
   replace o246 := o246.up up
   replace o108 := o108.up up
   replace o111 := o111.up up
   replace o114 := o114.up up
   clear up d297
   refine WD.one (i := 8) (by kernel_rfl) ?_
   refine id (S.appOwn (α := TGuest) o243 o296 d299 (by' := 184) (d := 27) (lx := gs.length) (ly := 1) rfl rfl (by kernel_rfl) (show _ ≤ 4194304 by simp only [List.length_append, List.length_cons, List.length_nil]; omega) fun ac w N q304 F305 S up o306 d307 => ?_)
   refine WD.last (by kernel_rfl) ?_
   have d308 := d307 _ (Disj.symm d249) d300 o246.sub
   have d309 := d307 _ (Disj.symm d250) d301 o108.sub
   have d310 := d307 _ (Disj.symm d251) d302 o111.sub
   have d311 := d307 _ (Disj.symm d252) d303 o114.sub
   replace o246 := o246.upF (Disj.symm d249) up
   replace o108 := o108.upF (Disj.symm d250) up
   replace o111 := o111.upF (Disj.symm d251) up
   replace o114 := o114.upF (Disj.symm d252) up
   clear up d307
   refine WD.one (i := 9) (by kernel_rfl) ?_
   refine S.stepq (i := 9) (keep := [0, 2, 3, 4, 27, 28]) (m := 2) (σ' := ⟨[(0, .v (slv progs.length pprogs.1)), (2, .p 0 0), (3, .p 1 0), (4, .v (I (k : Int))), (27, .v (slv (gs ++ [(f_guestNew (el progs k))]).length q304.1)), (28, .p 1 3)], [Zc TMon, [slv (List.replicate (f_brought 8 0 24).toNat (⟨-1, 0⟩ : TSlot)).length q109.1, slv (List.replicate (f_brought 8 0 24).toNat (List.replicate 4 (0 : Int))).length q112.1, slv 8 q115.1, slv gs.length q241.1, slv ([] : List Int).length (GT.pdflt (α := List Int)).1, I 0, I 0, slv tb.length q244.1, I 0]]⟩) .nil (by kernel_rfl) fun ac w β S hβ => ?_
   refine WD.last (by kernel_rfl) ?_
   clear hβ
   refine WD.one (i := 10) (by kernel_rfl) ?_
   refine S.stepq (i := 10) (keep := [0, 2, 3, 4]) (m := 2) (σ' := ⟨[(0, .v (slv progs.length pprogs.1)), (2, .p 0 0), (3, .p 1 0), (4, .v (I (k : Int)))], [Zc TMon, [slv (List.replicate (f_brought 8 0 24).toNat (⟨-1, 0⟩ : TSlot)).length q109.1, slv (List.replicate (f_brought 8 0 24).toNat (List.replicate 4 (0 : Int))).length q112.1, slv 8 q115.1, slv (gs ++ [(f_guestNew (el progs k))]).length q304.1, slv ([] : List Int).length (GT.pdflt (α := List Int)).1, I 0, I 0, slv tb.length q244.1, I 0]]⟩) .nil (by kernel_rfl) fun ac w β S hβ => ?_
   refine WD.last (by kernel_rfl) ?_
   clear hβ
   refine WD.done (by kernel_rfl) ?_ _
   refine S.ex fun S => ?_
   refine S.go 1 .nil fun ac w β S => ?_
   refine drw ?_
   refine S.draw0 (f := 7) 4 (by kernel_rfl) (by kernel_rfl) fun w S => ?_
   refine S.hq 0 [1, 0] [] [(29, .p 1 7)] .nil fun ac S => ?_
   refine S.hq 1 [1] [] [(30, .v (slv tb.length q244.1))] .nil fun ac S => ?_
   refine WD.one (i := 2) (by kernel_rfl) ?_
   refine id (S.k1 31 (c_spec_KeptNew w 4) fun ac w N q312 F313 S up o314 d315 => ?_)
   refine WD.next S up (by kernel_rfl) ?_
   have d316 := Disj.w d315 o246.sub
   have d317 := Disj.w d315 o108.sub
   have d318 := Disj.w d315 o111.sub
   have d319 := Disj.w d315 o114.sub
   have d320 := Disj.w d315 o306.sub
   replace o246 := o246.up up
   replace o108 := o108.up up
   replace o111 := o111.up up
   replace o114 := o114.up up
   replace o306 := o306.up up
   clear up d315
   obtain ⟨F321, F324, o322, o325, s323, s326, d327⟩ := sp_Kept o314
   refine WD.one (i := 3) (by kernel_rfl) ?_
   have o332 := ow_Kept (x := (f_keptNew 4)) (p := q312) o322 o325 d327 
   refine id (S.bs1 (α := TKept) (x := (f_keptNew 4)) (p := q312) o332.own o332.sub o332.young (d := 32) (by kernel_rfl) fun ac w N q328 F329 S up o330 d331 => ?_)
   refine WD.next S up (by kernel_rfl) ?_
   have d333 := d331 _ (Disj.symm (Disj.or (Disj.part (Disj.symm d316) s323) (Disj.or (Disj.part (Disj.symm d316) s326) Disj.nob))) o246.sub
   have d334 := d331 _ (Disj.symm (Disj.or (Disj.part (Disj.symm d317) s323) (Disj.or (Disj.part (Disj.symm d317) s326) Disj.nob))) o108.sub
   have d335 := d331 _ (Disj.symm (Disj.or (Disj.part (Disj.symm d318) s323) (Disj.or (Disj.part (Disj.symm d318) s326) Disj.nob))) o111.sub
   have d336 := d331 _ (Disj.symm (Disj.or (Disj.part (Disj.symm d319) s323) (Disj.or (Disj.part (Disj.symm d319) s326) Disj.nob))) o114.sub
   have d337 := d331 _ (Disj.symm (Disj.or (Disj.part (Disj.symm d320) s323) (Disj.or (Disj.part (Disj.symm d320) s326) Disj.nob))) o306.sub
   replace o246 := o246.up up
   replace o108 := o108.up up
   replace o111 := o111.up up
   replace o114 := o114.up up
   replace o306 := o306.up up
   clear up d331
   refine WD.one (i := 4) (by kernel_rfl) ?_
   refine id (S.appOwn (α := TKept) o246 o330 d333 (by' := 48) (d := 33) (lx := tb.length) (ly := 1) rfl rfl (by kernel_rfl) (show _ ≤ 4194304 by simp only [List.length_append, List.length_cons, List.length_nil]; omega) fun ac w N q338 F339 S up o340 d341 => ?_)
   refine WD.last (by kernel_rfl) ?_
   have d342 := d341 _ (Disj.symm d253) d334 o108.sub
   have d343 := d341 _ (Disj.symm d254) d335 o111.sub
   have d344 := d341 _ (Disj.symm d255) d336 o114.sub
   have d345 := d341 _ (Disj.symm d308) d337 o306.sub
   replace o108 := o108.upF (Disj.symm d253) up
   replace o111 := o111.upF (Disj.symm d254) up
   replace o114 := o114.upF (Disj.symm d255) up
   replace o306 := o306.upF (Disj.symm d308) up
   clear up d341
   refine WD.one (i := 5) (by kernel_rfl) ?_
   refine S.stepq (i := 5) (keep := [0, 2, 3, 4, 33, 34]) (m := 2) (σ' := ⟨[(0, .v (slv progs.length pprogs.1)), (2, .p 0 0), (3, .p 1 0), (4, .v (I (k : Int))), (33, .v (slv (tb ++ [(f_keptNew 4)]).length q338.1)), (34, .p 1 7)], [Zc TMon, [slv (List.replicate (f_brought 8 0 24).toNat (⟨-1, 0⟩ : TSlot)).length q109.1, slv (List.replicate (f_brought 8 0 24).toNat (List.replicate 4 (0 : Int))).length q112.1, slv 8 q115.1, slv (gs ++ [(f_guestNew (el progs k))]).length q304.1, slv ([] : List Int).length (GT.pdflt (α := List Int)).1, I 0, I 0, slv tb.length q244.1, I 0]]⟩) .nil (by kernel_rfl) fun ac w β S hβ => ?_
   refine WD.last (by kernel_rfl) ?_
   clear hβ
   refine WD.one (i := 6) (by kernel_rfl) ?_
   refine S.stepq (i := 6) (keep := [0, 2, 3, 4]) (m := 2) (σ' := ⟨[(0, .v (slv progs.length pprogs.1)), (2, .p 0 0), (3, .p 1 0), (4, .v (I (k : Int)))], [Zc TMon, [slv (List.replicate (f_brought 8 0 24).toNat (⟨-1, 0⟩ : TSlot)).length q109.1, slv (List.replicate (f_brought 8 0 24).toNat (List.replicate 4 (0 : Int))).length q112.1, slv 8 q115.1, slv (gs ++ [(f_guestNew (el progs k))]).length q304.1, slv ([] : List Int).length (GT.pdflt (α := List Int)).1, I 0, I 0, slv (tb ++ [(f_keptNew 4)]).length q338.1, I 0]]⟩) .nil (by kernel_rfl) fun ac w β S hβ => ?_
   refine WD.last (by kernel_rfl) ?_
   clear hβ
   refine WD.done (by kernel_rfl) ?_ _
   refine S.ex fun S => ?_
   refine S.ge 7 (.cons (qp (k : Int) 1) .nil) f256 fun ac w β S => hf257.of (progs.length - (k + 1)) _ _ (by omega) ⟨k + 1, (gs ++ [(f_guestNew (el progs k))]), (tb ++ [(f_keptNew 4)]), q304, F305, q338, F339, _, _, _, rfl, ?_, ?_, ?_, ?_, S.z, o306, o340, o108, o111, o114, d345, (Disj.symm d309), (Disj.symm d310), (Disj.symm d311), (Disj.symm d342), (Disj.symm d343), (Disj.symm d344)⟩
   ·exact oz
   ·exact oz
   ·clear S; (first | (rw [map_take_step (by omega) (by omega), ← hgs]; done) | (rw [map_take_step (by omega) (by omega), ← hgs, el_take (by omega)]))
   ·clear S; (first | (rw [map_take_step (by omega) (by omega), ← htb]; done) | (rw [map_take_step (by omega) (by omega), ← htb, el_take (by omega)]))
  refine S.gr 13 .nil [GT.val (⟨(List.replicate (f_brought 8 0 24).toNat (⟨-1, 0⟩ : TSlot)), (List.replicate (f_brought 8 0 24).toNat (List.replicate 4 (0 : Int))), (List.replicate 8 (GT.dflt : Bool)), gs, ([] : List Int), 0, 0, tb, 0⟩ : TMon) (⟨q109, q112, q115, q241, (GT.pdflt (α := List Int)), q244⟩ : PMon)] fun ac w β S => ?_
  have o346 := S.nilOw (α := Int)
  have o347 := ow_Mon (x := (⟨(List.replicate (f_brought 8 0 24).toNat (⟨-1, 0⟩ : TSlot)), (List.replicate (f_brought 8 0 24).toNat (List.replicate 4 (0 : Int))), (List.replicate 8 (GT.dflt : Bool)), gs, ([] : List Int), 0, 0, tb, 0⟩ : TMon)) (p := (⟨q109, q112, q115, q241, (GT.pdflt (α := List Int)), q244⟩ : PMon)) o108 o111 o114 o243 o346 o246 (Disj.symm d240) (Disj.symm d239) (Disj.symm d250) (fun b _ h => False.elim h) (Disj.symm d253) (Disj.symm d238) (Disj.symm d251) (fun b _ h => False.elim h) (Disj.symm d254) (Disj.symm d252) (fun b _ h => False.elim h) (Disj.symm d255) (fun b _ h => False.elim h) d249 (Disj.symm (fun b _ h => False.elim h)) (show In64 0 from ⟨by decide, by decide⟩) (show In64 0 from ⟨by decide, by decide⟩) (show In64 0 from ⟨by decide, by decide⟩)
  exact ret1_of S (show f_monNew progs = (⟨(List.replicate (f_brought 8 0 24).toNat (⟨-1, 0⟩ : TSlot)), (List.replicate (f_brought 8 0 24).toNat (List.replicate 4 (0 : Int))), (List.replicate 8 (GT.dflt : Bool)), gs, ([] : List Int), 0, 0, tb, 0⟩ : TMon) by clear S; (rw [hgs, htb, map_take_end (by omega), map_take_end (by omega)]; rfl)) rfl o347
 refine S.gr 18 .nil [GT.val (⟨(List.replicate (f_brought 8 0 24).toNat (⟨-1, 0⟩ : TSlot)), (List.replicate (f_brought 8 0 24).toNat (List.replicate 4 (0 : Int))), (List.replicate 8 (GT.dflt : Bool)), gs, ([] : List Int), 0, 0, tb, 0⟩ : TMon) (⟨q109, q112, q115, q241, (GT.pdflt (α := List Int)), q244⟩ : PMon)] fun ac w β S => ?_
 have o348 := S.nilOw (α := Int)
 have o349 := ow_Mon (x := (⟨(List.replicate (f_brought 8 0 24).toNat (⟨-1, 0⟩ : TSlot)), (List.replicate (f_brought 8 0 24).toNat (List.replicate 4 (0 : Int))), (List.replicate 8 (GT.dflt : Bool)), gs, ([] : List Int), 0, 0, tb, 0⟩ : TMon)) (p := (⟨q109, q112, q115, q241, (GT.pdflt (α := List Int)), q244⟩ : PMon)) o108 o111 o114 o243 o348 o246 (Disj.symm d240) (Disj.symm d239) (Disj.symm d250) (fun b _ h => False.elim h) (Disj.symm d253) (Disj.symm d238) (Disj.symm d251) (fun b _ h => False.elim h) (Disj.symm d254) (Disj.symm d252) (fun b _ h => False.elim h) (Disj.symm d255) (fun b _ h => False.elim h) d249 (Disj.symm (fun b _ h => False.elim h)) (show In64 0 from ⟨by decide, by decide⟩) (show In64 0 from ⟨by decide, by decide⟩) (show In64 0 from ⟨by decide, by decide⟩)
 exact ret1_of S (show f_monNew progs = (⟨(List.replicate (f_brought 8 0 24).toNat (⟨-1, 0⟩ : TSlot)), (List.replicate (f_brought 8 0 24).toNat (List.replicate 4 (0 : Int))), (List.replicate 8 (GT.dflt : Bool)), gs, ([] : List Int), 0, 0, tb, 0⟩ : TMon) by clear S; (rw [hgs, htb, map_take_end (by omega), map_take_end (by omega)]; rfl)) rfl o349

theorem c_spec_HostNew (w0 : World) (all : List (List (List TIns))) (pall : LP (List (List TIns))) (hall : RD w0 all pall) : Calls Try.prog 35 [slv all.length pall.1].toArray w0 (Ret1 NoB w0 (f_hostNew all : THost)) := by
 refine Calls.run NoB Try.func35 ?_
 intro ac β S
 have hleall : all.length ≤ 4194304 := LRd.le hall
 refine S.go 7 .nil fun ac w β S => S.K1 (r := (List.replicate (f_brought 12 0 24).toNat (List.replicate 4 (0 : Int)))) (d := 5) (c_spec_MemNew w 12) fun ac w N q1 F2 S up o3 d4 => ?_
 clear up d4
 refine S.go 12 (.cons (Q_sem (s := Instr.build 35 [(0, slv (List.replicate (f_brought 12 0 24).toNat (List.replicate 4 (0 : Int))).length q1.1)].toArray) (v := .agg [slv (List.replicate (f_brought 12 0 24).toNat (List.replicate 4 (0 : Int))).length q1.1, slv ([] : List TMon).length (GT.pdflt (α := List TMon)).1, slv ([] : List TEntry).length (GT.pdflt (α := List TEntry)).1, slv ([] : List TEntry).length (GT.pdflt (α := List TEntry)).1].toArray) (fun w => by kernel_rfl)) .nil) fun ac w β S => ?_
 have o8 := S.nilOw (α := TMon)
 refine lp (fun mm ac w => ∃ (k : Nat) (ms : List TMon) (q5 : _) (F6 : _) (u : _) (N : _) (β : _), mm = all.length - k ∧ (k ≤ all.length) ∧ (k ≤ 3) ∧ (ms = ((all.take 3).take k).map f_monNew) ∧ St Try.prog Try.f35.ntmps w0 NoB u N β ⟨[(0, .v (slv all.length pall.1)), (2, .p 0 0), (3, .p 1 0), (4, .v (I (k : Int)))], [Zc THost, [slv (List.replicate (f_brought 12 0 24).toNat (List.replicate 4 (0 : Int))).length q1.1, slv ms.length q5.1, slv ([] : List TEntry).length (GT.pdflt (α := List TEntry)).1, slv ([] : List TEntry).length (GT.pdflt (α := List TEntry)).1]]⟩ ac w ∧ Ow w0 NoB u N F6 ms q5 ∧ Ow w0 NoB u N F2 (List.replicate (f_brought 12 0 24).toNat (List.replicate 4 (0 : Int))) q1 ∧ Disj F6 F2) _ ⟨0, ([] : List TMon), (GT.pdflt (α := List TMon)), NoB, _, _, _, rfl, o0, o0, (by rfl), S.z, o8, o3, (Disj.symm (fun b _ h => False.elim h))⟩ ?_
 clear S o3 o8
 rintro f10 mm hf11 ac w ⟨k, ms, q5, F6, u, N, β, rfl, hk, hkm, hms, S, o7, o3, d9⟩
 refine S.rs fun S => ?_
 have hlms : ms.length ≤ 3 := by rw [hms, List.length_map, List.length_take]; omega
 refine S.gd 8 .nil (decide ((k : Int) < (all.length : Int))) (fun ac w β h12 g13 S => ?_) (fun ac w β h12 g13 S => ?_)
 ·refine S.gd 5 .nil (decide ((k : Int) < 3)) (fun ac w β h14 g15 S => ?_) (fun ac w β h14 g15 S => ?_)
  ·refine S.go 5 .nil fun ac w β S => ?_
   refine drw ?_
   refine S.draw0 (f := 11) 8 (by kernel_rfl) (by kernel_rfl) fun w S => ?_
   refine S.hq 0 [1, 0] [] [(17, .p 1 1)] .nil fun ac S => ?_
   refine S.hq 1 [1] [] [(18, .v (slv ms.length q5.1))] .nil fun ac S => ?_
   refine S.hq 2 [6, 5, 4, 2] [] [(19, .v (slv all.length pall.1))] .nil fun ac S => ?_
   refine S.hq 3 [6, 5, 4, 3] [] [(20, .v (I (k : Int)))] .nil fun ac S => ?_
   refine S.hq 4 [6, 5, 4] [] [(21, .v (pt pall.1.b (pall.1.off + k * 1)))] (.cons (qn (S.arg hall) k Try.underlying29) .nil) fun ac S => ?_
   refine S.hq 5 [6, 5] [] [(22, .v (slv (el all k).length (pall.2 k).1))] (.cons (qx (S.arg hall) 30 k) .nil) fun ac S => ?_
   refine WD.one (i := 6) (by kernel_rfl) ?_
   refine id (S.k1 23 (c_spec_MonNew w (el all k) (pall.2 k) (S.rd (LRd.el (S.arg hall) k (by omega)))) fun ac w N q16 F17 S up o18 d19 => ?_)
   refine WD.next S up (by kernel_rfl) ?_
   have d20 := Disj.w d19 o7.sub
   have d21 := Disj.w d19 o3.sub
   replace o7 := o7.up up
   replace o3 := o3.up up
   clear up d19
   have i37 : In64 (f_monNew (el all k)).pend := RMon.pend (d := (f_monNew (el all k))) o18.rn
   have i38 : In64 (f_monNew (el all k)).traps := RMon.traps (d := (f_monNew (el all k))) o18.rn
   have i42 : In64 (f_monNew (el all k)).owned := RMon.owned (d := (f_monNew (el all k))) o18.rn
   obtain ⟨F22, F25, F28, F31, F34, F39, o23, o26, o29, o32, o35, o40, s24, s27, s30, s33, s36, s41, d43, d44, d45, d46, d47, d48, d49, d50, d51, d52, d53, d54, d55, d56, d57⟩ := sp_Mon o18
   refine WD.one (i := 7) (by kernel_rfl) ?_
   have o62 := ow_Mon (x := (f_monNew (el all k))) (p := q16) o23 o26 o29 o32 o35 o40 d43 d44 d45 d46 d47 d48 d49 d50 d51 d52 d53 d54 d55 d56 d57 i37 i38 i42
   refine id (S.bs1 (α := TMon) (x := (f_monNew (el all k))) (p := q16) o62.own o62.sub o62.young (d := 24) (by kernel_rfl) fun ac w N q58 F59 S up o60 d61 => ?_)
   refine WD.next S up (by kernel_rfl) ?_
   have d63 := d61 _ (Disj.symm (Disj.or (Disj.part (Disj.symm d20) s24) (Disj.or (Disj.part (Disj.symm d20) s27) (Disj.or (Disj.part (Disj.symm d20) s30) (Disj.or (Disj.part (Disj.symm d20) s33) (Disj.or (Disj.part (Disj.symm d20) s36) (Disj.or (Disj.part (Disj.symm d20) s41) Disj.nob))))))) o7.sub
   have d64 := d61 _ (Disj.symm (Disj.or (Disj.part (Disj.symm d21) s24) (Disj.or (Disj.part (Disj.symm d21) s27) (Disj.or (Disj.part (Disj.symm d21) s30) (Disj.or (Disj.part (Disj.symm d21) s33) (Disj.or (Disj.part (Disj.symm d21) s36) (Disj.or (Disj.part (Disj.symm d21) s41) Disj.nob))))))) o3.sub
   replace o7 := o7.up up
   replace o3 := o3.up up
   clear up d61
   refine WD.one (i := 8) (by kernel_rfl) ?_
   refine id (S.appOwn (α := TMon) o7 o60 d63 (by' := 168) (d := 25) (lx := ms.length) (ly := 1) rfl rfl (by kernel_rfl) (show _ ≤ 4194304 by simp only [List.length_append, List.length_cons, List.length_nil]; omega) fun ac w N q65 F66 S up o67 d68 => ?_)
   refine WD.last (by kernel_rfl) ?_
   have d69 := d68 _ (Disj.symm d9) d64 o3.sub
   replace o3 := o3.upF (Disj.symm d9) up
   clear up d68
   refine WD.one (i := 9) (by kernel_rfl) ?_
   refine S.stepq (i := 9) (keep := [0, 2, 3, 4, 25, 26]) (m := 2) (σ' := ⟨[(0, .v (slv all.length pall.1)), (2, .p 0 0), (3, .p 1 0), (4, .v (I (k : Int))), (25, .v (slv (ms ++ [(f_monNew (el all k))]).length q65.1)), (26, .p 1 1)], [Zc THost, [slv (List.replicate (f_brought 12 0 24).toNat (List.replicate 4 (0 : Int))).length q1.1, slv ms.length q5.1, slv ([] : List TEntry).length (GT.pdflt (α := List TEntry)).1, slv ([] : List TEntry).length (GT.pdflt (α := List TEntry)).1]]⟩) .nil (by kernel_rfl) fun ac w β S hβ => ?_
   refine WD.last (by kernel_rfl) ?_
   clear hβ
   refine WD.one (i := 10) (by kernel_rfl) ?_
   refine S.stepq (i := 10) (keep := [0, 2, 3, 4]) (m := 2) (σ' := ⟨[(0, .v (slv all.length pall.1)), (2, .p 0 0), (3, .p 1 0), (4, .v (I (k : Int)))], [Zc THost, [slv (List.replicate (f_brought 12 0 24).toNat (List.replicate 4 (0 : Int))).length q1.1, slv (ms ++ [(f_monNew (el all k))]).length q65.1, slv ([] : List TEntry).length (GT.pdflt (α := List TEntry)).1, slv ([] : List TEntry).length (GT.pdflt (α := List TEntry)).1]]⟩) .nil (by kernel_rfl) fun ac w β S hβ => ?_
   refine WD.last (by kernel_rfl) ?_
   clear hβ
   refine WD.done (by kernel_rfl) ?_ _
   refine S.ex fun S => ?_
   refine S.ge 7 (.cons (qp (k : Int) 1) .nil) f10 fun ac w β S => hf11.of (all.length - (k + 1)) _ _ (by omega) ⟨k + 1, (ms ++ [(f_monNew (el all k))]), q65, F66, _, _, _, rfl, ?_, ?_, ?_, S.z, o67, o3, (Disj.symm d69)⟩
   ·exact oz
   ·exact oz
   ·clear S; (first | (rw [map_take_step (by omega) (by omega), ← hms]; done) | (rw [map_take_step (by omega) (by omega), ← hms, el_take (by omega)]))
  refine S.gr 13 .nil [GT.val (⟨(List.replicate (f_brought 12 0 24).toNat (List.replicate 4 (0 : Int))), ms, ([] : List TEntry), ([] : List TEntry)⟩ : THost) (⟨q1, q5, (GT.pdflt (α := List TEntry)), (GT.pdflt (α := List TEntry))⟩ : PHost)] fun ac w β S => ?_
  have o70 := S.nilOw (α := TEntry)
  have o71 := S.nilOw (α := TEntry)
  have o72 := ow_Host (x := (⟨(List.replicate (f_brought 12 0 24).toNat (List.replicate 4 (0 : Int))), ms, ([] : List TEntry), ([] : List TEntry)⟩ : THost)) (p := (⟨q1, q5, (GT.pdflt (α := List TEntry)), (GT.pdflt (α := List TEntry))⟩ : PHost)) o3 o7 o70 o71 (Disj.symm d9) (fun b _ h => False.elim h) (fun b _ h => False.elim h) (fun b _ h => False.elim h) (fun b _ h => False.elim h) (fun b _ h => False.elim h) 
  exact ret1_of S (show f_hostNew all = (⟨(List.replicate (f_brought 12 0 24).toNat (List.replicate 4 (0 : Int))), ms, ([] : List TEntry), ([] : List TEntry)⟩ : THost) by clear S; (rw [hms, map_take_end (by omega)]; rfl)) rfl o72
 refine S.gr 18 .nil [GT.val (⟨(List.replicate (f_brought 12 0 24).toNat (List.replicate 4 (0 : Int))), ms, ([] : List TEntry), ([] : List TEntry)⟩ : THost) (⟨q1, q5, (GT.pdflt (α := List TEntry)), (GT.pdflt (α := List TEntry))⟩ : PHost)] fun ac w β S => ?_
 have o73 := S.nilOw (α := TEntry)
 have o74 := S.nilOw (α := TEntry)
 have o75 := ow_Host (x := (⟨(List.replicate (f_brought 12 0 24).toNat (List.replicate 4 (0 : Int))), ms, ([] : List TEntry), ([] : List TEntry)⟩ : THost)) (p := (⟨q1, q5, (GT.pdflt (α := List TEntry)), (GT.pdflt (α := List TEntry))⟩ : PHost)) o3 o7 o73 o74 (Disj.symm d9) (fun b _ h => False.elim h) (fun b _ h => False.elim h) (fun b _ h => False.elim h) (fun b _ h => False.elim h) (fun b _ h => False.elim h) 
 exact ret1_of S (show f_hostNew all = (⟨(List.replicate (f_brought 12 0 24).toNat (List.replicate 4 (0 : Int))), ms, ([] : List TEntry), ([] : List TEntry)⟩ : THost) by clear S; (rw [hms, map_take_end (by omega)]; rfl)) rfl o75

theorem c_impl_has (w0 : World) (k : Int) (length : Int) (pre0 : -9223372036854775808 < length) : Calls Try.prog 51 [I k, I length].toArray w0 (fun e w' => e = .returned (B (f_within k 0 (length - 1))) ∧ Chg NoB w0 w') := by
 refine Calls.run NoB Try.func51 ?_
 intro ac β S
 refine S.gd 10 .nil (decide (k ≥ 0)) (fun ac w β h1 g2 S => ?_) (fun ac w β h1 g2 S => ?_)
 ·exact S.gf 8 .nil [B (decide (k < length))] (retB (by clear S; (rw [Bool.eq_iff_iff]; simp [f_within]; omega)))
 exact S.gf 8 .nil [B false] (retB (by clear S; (rw [Bool.eq_iff_iff]; simp [f_within]; omega)))

theorem c_impl_NoSlot (w0 : World)  : Calls Try.prog 57 [].toArray w0 (fun e w' => e = .returned (GT.val (⟨-1, 0⟩ : TSlot) ()) ∧ Chg NoB w0 w') := by
 refine Calls.run NoB Try.func57 ?_
 intro ac β S
 exact S.gf 12 (.cons (Q_sem (s := Instr.build 54 [(0, I (-1))].toArray) (v := .agg [I (-1), I 0].toArray) (fun w => by kernel_rfl)) .nil) [GT.val (⟨(-1), 0⟩ : TSlot) ()] (retV (p := ()) (by clear S; first | rfl | (simp [id, *]; done) | (simp [id, *]; omega) | (simp_all [id]; done) | (simp_all [id]; omega)))

theorem k0_impl_within {p : Prop} (h : p := by clear S; first | rfl | (simp [f_within, *]; done) | (simp [f_within, *]; omega) | (simp_all [f_within]; done) | (simp_all [f_within]; omega)) : p := h
theorem c_impl_within (w0 : World) (n : Int) (a : Int) (b : Int) : Calls Try.prog 45 [I n, I a, I b].toArray w0 (fun e w' => e = .returned (B (f_within n a b)) ∧ Chg NoB w0 w') := by
 refine Calls.run NoB Try.func45 ?_
 intro ac β S
 refine S.gd 11 .nil (decide (n ≥ a)) (fun ac w β h1 g2 S => ?_) (fun ac w β h1 g2 S => ?_)
 ·exact S.gf 8 .nil [B (decide (n ≤ b))] (retB k0_impl_within)
 exact S.gf 8 .nil [B false] (retB k0_impl_within)

theorem k0_impl_SlotOk {p : Prop} (h : p := by clear S; first | rfl | (simp [f_slotOk, *]; done) | (simp [f_slotOk, *]; omega) | (simp_all [f_slotOk]; done) | (simp_all [f_slotOk]; omega)) : p := h
theorem c_impl_SlotOk (w0 : World) (s : TSlot) (pages : Int) (pre0 : 0 ≤ pages) (pre1 : pages ≤ 1000) : Calls Try.prog 103 [GT.val s (), I pages].toArray w0 (fun e w' => e = .returned (B (f_slotOk s pages)) ∧ Chg NoB w0 w') := by
 refine Calls.run NoB Try.func103 ?_
 intro ac β S
 refine S.go 7 .nil fun ac w β S => ?_
 refine drw ?_
 rcases Bool.eq_false_or_eq_true (decide (s = (⟨-1, 0⟩ : TSlot))) with h1 | h1
 ·refine S.drawnO [(3, true)] (keep := [4]) (m := 0) (σ' := ⟨[(4, .v (B true))], []⟩) (.cons (Q_call fun w hw => c_impl_NoSlot w ) (.cons (Eq_eq_Slot (t := 54) s (⟨-1, 0⟩ : TSlot) (by kernel_rfl)) .nil)) rfl (by kernel_rfl) (by kernel_rfl) (.cons h1 .nil) fun ac w S => ?_
  refine S.ex fun S => ?_
  exact S.gf 2 .nil [B true] (retB k0_impl_SlotOk)
 ·rcases Bool.eq_false_or_eq_true (decide (pages > 0)) with h2 | h2
  ·have g3 := of_decide_eq_true h2
   rcases Bool.eq_false_or_eq_true (f_within s.page 0 (pages - 1)) with h4 | h4
   ·have g5 := within_t h4
    refine S.drawnO [(3, false), (6, true), (13, true)] (keep := [4]) (m := 0) (σ' := ⟨[(4, .v (B (f_within s.rights 1 3)))], []⟩) (.cons (Q_call fun w hw => c_impl_NoSlot w ) (.cons (Eq_eq_Slot (t := 54) s (⟨-1, 0⟩ : TSlot) (by kernel_rfl)) (.cons (qm pages 1) (.cons (Q_call fun w hw => c_impl_within w s.page 0 (pages - 1)) (.cons (Q_call fun w hw => c_impl_within w s.rights 1 3) .nil))))) rfl (by kernel_rfl) (by kernel_rfl) (.cons h1 (.cons h2 (.cons h4 .nil))) fun ac w S => ?_
    refine S.ex fun S => ?_
    exact S.gf 2 .nil [B (f_within s.rights 1 3)] (retB k0_impl_SlotOk)
   ·have g6 := within_f h4
    refine S.drawnO [(3, false), (6, true), (13, false)] (keep := [4]) (m := 0) (σ' := ⟨[(4, .v (B false))], []⟩) (.cons (Q_call fun w hw => c_impl_NoSlot w ) (.cons (Eq_eq_Slot (t := 54) s (⟨-1, 0⟩ : TSlot) (by kernel_rfl)) (.cons (qm pages 1) (.cons (Q_call fun w hw => c_impl_within w s.page 0 (pages - 1)) .nil)))) rfl (by kernel_rfl) (by kernel_rfl) (.cons h1 (.cons h2 (.cons h4 .nil))) fun ac w S => ?_
    refine S.ex fun S => ?_
    exact S.gf 2 .nil [B false] (retB k0_impl_SlotOk)
  ·have g7 := of_decide_eq_false h2
   refine S.drawnO [(3, false), (6, false)] (keep := [4]) (m := 0) (σ' := ⟨[(4, .v (B false))], []⟩) (.cons (Q_call fun w hw => c_impl_NoSlot w ) (.cons (Eq_eq_Slot (t := 54) s (⟨-1, 0⟩ : TSlot) (by kernel_rfl)) .nil)) rfl (by kernel_rfl) (by kernel_rfl) (.cons h1 (.cons h2 .nil)) fun ac w S => ?_
   refine S.ex fun S => ?_
   exact S.gf 2 .nil [B false] (retB k0_impl_SlotOk)

theorem c_impl_copyTable (w0 : World) (l : List TSlot) (pl : LP TSlot) (hl : RD w0 l pl) : Calls Try.prog 93 [slv l.length pl.1].toArray w0 (Ret1 NoB w0 (l : List TSlot)) := by
 refine Calls.run NoB Try.func93 ?_
 intro ac β S
 have hlel : l.length ≤ 4194304 := LRd.le hl
 refine S.go 7 .nil fun ac w β S => S.B0 (α := TSlot) (d := 3) fun ac w N q1 F2 S up o3 d4 => ?_
 clear up d4
 have b9 : l.length ≤ 4194304 := LRd.le (S.arg hl)
 refine S.go 1 .nil fun ac w β S => S.AF0 (α := TSlot) o3 (S.arg hl) (fun _ _ h => h) (by' := 16) (d := 5) (lx := 0) (ly := l.length) rfl fun ac w N q5 F6 S up o7 d8 => ?_
 clear up d8
 refine S.gr 4 .nil [slv l.length q5.1] fun ac w β S => ?_
 exact ret1_of S (show l = l by clear S; simp) rfl o7

theorem k0_impl_WithSlot {p : Prop} (h : p := by clear S; (first | (unfold f_withSlot; rw [if_pos (by omega)]; done) | (unfold f_withSlot; rw [if_pos (by omega)]; first | rfl | (simp; done)) | (unfold f_withSlot; rw [if_neg (by omega)]; done) | (unfold f_withSlot; rw [if_neg (by omega)]; first | rfl | (simp; done)))) : p := h
theorem c_impl_WithSlot (w0 : World) (tb : List TSlot) (ptb : LP TSlot) (htb : RD w0 tb ptb) (page : Int) (s : TSlot) (hs : RSlot s) : Calls Try.prog 105 [slv tb.length ptb.1, I page, GT.val s ()].toArray w0 (Ret1 NoB w0 (f_withSlot tb page s : List TSlot)) := by
 refine Calls.run NoB Try.func105 ?_
 intro ac β S
 have hletb : tb.length ≤ 4194304 := LRd.le htb
 refine S.go 9 .nil fun ac w β S => S.K1 (r := tb) (d := 9) (c_impl_copyTable w tb ptb (S.rd (S.arg htb))) fun ac w N q1 F2 S up o3 d4 => ?_
 clear up d4
 refine S.gb 12 (.cons (Q_call fun w hw => c_impl_has w page (tb.length : Int) (by omega)) .nil) (f_within page 0 ((tb.length : Int) - 1)) (fun ac w β h5 S => ?_) (fun ac w β h5 S => ?_)
 ·have g6 := within_t h5
  have e7 : RSlot (el tb page.toNat) := (LRd.el o3.rn page.toNat (by omega))
  refine S.go 6 (.cons (qt o3.rn page Try.underlying37) .nil) fun ac w β S => S.SF (α := TSlot) o3 (t := 54) (k := page.toNat) (j := 0) (off := q1.1.off + page.toNat * 2) (v := GT.val s ()) (y := s) (q := ()) (fun _ _ _ => ⟨NoB, hs, fun _ h => False.elim h⟩) fun w N F9 q10 S up o8 d11 s12 n13 => ?_
  clear up d11 o3 n13
  have l14 : (tb.set page.toNat s).length = tb.length := List.length_set
  refine S.gr 9 .nil [slv tb.length q1.1] fun ac w β S => ?_
  exact ret1_of S (show f_withSlot tb page s = (tb.set page.toNat s) from k0_impl_WithSlot) (by rw [show tb.length = (tb.set page.toNat s).length from (by rw [List.length_set])]; rfl) o8
 have g15 := within_f h5
 refine S.gr 10 .nil [slv tb.length q1.1] fun ac w β S => ?_
 exact ret1_of S (show f_withSlot tb page s = tb from k0_impl_WithSlot) rfl o3

theorem c_impl_BareSet_1 (w0 : World) (x : TGuest) (px : PGuest) (F : Bl) (hx : GT.own KK F w0 x px) (hF : ∀ b, F b → b < w0.heap.size) (page : Int) (qpage : LP Int) (hpage : RD w0 [page] qpage) (s : TSlot) (qs : LP TSlot) (hs : RD w0 [s] qs) : Calls Try.prog 104 [GT.val x px, pt qpage.1.b (qpage.1.off + 0 * 1), pt qs.1.b (qs.1.off + 0 * 2)].toArray w0 (RetT NoB F w0 (({ x with written := f_withSlot x.written page s } : TGuest) : TGuest)) := by
 refine Calls.run NoB Try.func104 ?_
 intro ac β S
 have ox : Ow w0 F w0 (Lt w0.heap.size) F x px := ⟨hx, hF, fun b hb => .inr hb⟩
 have i4 : In64 x.acc := RGuest.acc (d := x) ox.rn
 have i5 : In64 x.pc := RGuest.pc (d := x) ox.rn
 have i12 : RCtl x.ctl := RGuest.ctl (d := x) ox.rn
 have i13 : In64 x.pend := RGuest.pend (d := x) ox.rn
 have i14 : RExit x.exit := RGuest.exit (d := x) ox.rn
 obtain ⟨F1, F6, F9, F15, o2, o7, o10, o16, s3, s8, s11, s17, d18, d19, d20, d21, d22, d23⟩ := sp_Guest ox
 refine S.go 12 (.cons (Q_el1 (S.arg hpage) (t := 3) (k := 0) (Nat.succ_pos 0) rfl (by kernel_rfl)) (.cons (Q_el (S.arg hs) (t := 54) (k := 0) (Nat.succ_pos 0) rfl (by kernel_rfl) (by kernel_rfl)) .nil)) fun ac w β S => S.K1 (r := f_withSlot x.written page s) (d := 9) (c_impl_WithSlot w x.written px.written (S.rd o7.rn) page s (show RSlot s from LRd.el (S.arg hs) 0 (Nat.succ_pos 0))) fun ac w N q24 F25 S up o26 d27 => ?_
 replace o26 := o26.wk (M' := F)
 have d28 := Disj.w d27 o2.sub
 have d29 := Disj.w d27 o7.sub
 have d30 := Disj.w d27 o10.sub
 have d31 := Disj.w d27 o16.sub
 replace o2 := o2.up up
 replace o7 := o7.up up
 replace o10 := o10.up up
 replace o16 := o16.up up
 clear up d27
 refine S.gr 11 .nil [GT.val (⟨x.prog, x.acc, x.pc, (f_withSlot x.written page s), x.live, x.ctl, x.pend, x.exit, x.halted, x.seen⟩ : TGuest) (⟨px.prog, q24, px.live, px.seen⟩ : PGuest)] fun ac w β S => ?_
 have o32 := ow_Guest (x := (⟨x.prog, x.acc, x.pc, (f_withSlot x.written page s), x.live, x.ctl, x.pend, x.exit, x.halted, x.seen⟩ : TGuest)) (p := (⟨px.prog, q24, px.live, px.seen⟩ : PGuest)) o2 o26 o10 o16 d28 d19 d20 (Disj.symm d30) (Disj.symm d31) d23 i4 i5 i12 i13 i14
 exact retT_of S (show ({ x with written := f_withSlot x.written page s } : TGuest) = (⟨x.prog, x.acc, x.pc, (f_withSlot x.written page s), x.live, x.ctl, x.pend, x.exit, x.halted, x.seen⟩ : TGuest) by clear S; rfl) rfl o32

theorem k0_impl_SlotAt {p : Prop} (h : p := by clear S; (first | (unfold f_slotAt; rw [if_pos (by omega)]) | (unfold f_slotAt; rw [if_neg (by omega)]))) : p := h
theorem c_impl_SlotAt (w0 : World) (t : List TSlot) (pt : LP TSlot) (ht : RD w0 t pt) (page : Int) : Calls Try.prog 94 [slv t.length pt.1, I page].toArray w0 (fun e w' => e = .returned (GT.val (f_slotAt t page) ()) ∧ Chg NoB w0 w') := by
 refine Calls.run NoB Try.func94 ?_
 intro ac β S
 have hlet : t.length ≤ 4194304 := LRd.le ht
 refine S.gb 15 (.cons (Q_call fun w hw => c_impl_has w page (t.length : Int) (by omega)) .nil) (!(f_within page 0 ((t.length : Int) - 1))) (fun ac w β h1 S => ?_) (fun ac w β h1 S => ?_)
 ·have h2 := not_t h1
  have g3 := within_f h2
  exact S.gf 8 (.cons (Q_call fun w hw => c_impl_NoSlot w ) .nil) [GT.val (⟨-1, 0⟩ : TSlot) ()] (retV (p := ()) k0_impl_SlotAt)
 have h4 := not_f h1
 have g5 := within_t h4
 exact S.gf 13 (.cons (qt (S.arg ht) page Try.underlying37) (.cons (qs (S.arg ht) 54 page.toNat) .nil)) [GT.val (el t page.toNat) ()] (retV (p := ()) k0_impl_SlotAt)

theorem c_impl_BareFlush_1 (w0 : World) (x : TGuest) (px : PGuest) (F : Bl) (hx : GT.own KK F w0 x px) (hF : ∀ b, F b → b < w0.heap.size) (page : Int) (qpage : LP Int) (hpage : RD w0 [page] qpage) : Calls Try.prog 106 [GT.val x px, pt qpage.1.b (qpage.1.off + 0 * 1)].toArray w0 (RetT NoB F w0 (({ x with live := f_withSlot x.live page (f_slotAt x.written page) } : TGuest) : TGuest)) := by
 refine Calls.run NoB Try.func106 ?_
 intro ac β S
 have ox : Ow w0 F w0 (Lt w0.heap.size) F x px := ⟨hx, hF, fun b hb => .inr hb⟩
 have i4 : In64 x.acc := RGuest.acc (d := x) ox.rn
 have i5 : In64 x.pc := RGuest.pc (d := x) ox.rn
 have i12 : RCtl x.ctl := RGuest.ctl (d := x) ox.rn
 have i13 : In64 x.pend := RGuest.pend (d := x) ox.rn
 have i14 : RExit x.exit := RGuest.exit (d := x) ox.rn
 obtain ⟨F1, F6, F9, F15, o2, o7, o10, o16, s3, s8, s11, s17, d18, d19, d20, d21, d22, d23⟩ := sp_Guest ox
 refine S.go 7 .nil fun ac w β S => ?_
 refine drw ?_
 refine S.draw0 (f := 10) 9 (by kernel_rfl) (by kernel_rfl) fun w S => ?_
 refine S.hq 0 [0] [] [(4, .p 0 4)] .nil fun ac S => ?_
 refine S.hq 1 [1] [] [(5, .v (slv x.live.length px.live.1))] .nil fun ac S => ?_
 refine S.hq 2 [2] [] [(6, .v (I page))] (.cons (Q_el1 (S.arg hpage) (t := 3) (k := 0) (Nat.succ_pos 0) rfl (by kernel_rfl)) .nil) fun ac S => ?_
 refine S.hq 3 [3] [] [(7, .p 0 3)] .nil fun ac S => ?_
 refine S.hq 4 [4] [] [(8, .v (slv x.written.length px.written.1))] .nil fun ac S => ?_
 refine S.hq 5 [5] [] [(9, .v (I page))] (.cons (Q_el1 (S.arg hpage) (t := 3) (k := 0) (Nat.succ_pos 0) rfl (by kernel_rfl)) .nil) fun ac S => ?_
 refine WD.one (i := 6) (by kernel_rfl) ?_
 refine S.stepq (i := 6) (keep := [2, 3, 5, 6, 10]) (m := 2) (σ' := ⟨[(2, .p 0 0), (3, .p 1 0), (5, .v (slv x.live.length px.live.1)), (6, .v (I page)), (10, .v (GT.val (f_slotAt x.written page) ()))], [[slv x.prog.length px.prog.1, I x.acc, I x.pc, slv x.written.length px.written.1, slv x.live.length px.live.1, I x.ctl.traps, I x.ctl.post, B x.ctl.opn, I x.pend, I x.exit.kind, I x.exit.page, B x.exit.wr, I x.exit.n, B x.halted, slv x.seen.length px.seen.1], Zc TGuest]⟩) (.cons (Q_call fun w hw => c_impl_SlotAt w x.written px.written (rd_of o7.rn hw) page) .nil) (by kernel_rfl) fun ac w β S hβ => ?_
 refine WD.stayq S hβ ?_
 clear hβ
 refine WD.one (i := 7) (by kernel_rfl) ?_
 refine id (S.k1 11 (c_impl_WithSlot w x.live px.live (S.rd o10.rn) page (f_slotAt x.written page) (slotAt_r o7.rn page)) fun ac w N q24 F25 S up o26 d27 => ?_)
 refine WD.next S up (by kernel_rfl) ?_
 replace o26 := o26.wk (M' := F)
 have d28 := Disj.w d27 o2.sub
 have d29 := Disj.w d27 o7.sub
 have d30 := Disj.w d27 o10.sub
 have d31 := Disj.w d27 o16.sub
 replace o2 := o2.up up
 replace o7 := o7.up up
 replace o10 := o10.up up
 replace o16 := o16.up up
 clear up d27
 refine S.hq 8 [8] [] [(11, .v (slv (f_withSlot x.live page (f_slotAt x.written page)).length q24.1)), (12, .p 0 4)] .nil fun ac S => ?_
 refine WD.one (i := 9) (by kernel_rfl) ?_
 refine S.stepq (i := 9) (keep := [2, 3]) (m := 2) (σ' := ⟨[(2, .p 0 0), (3, .p 1 0)], [[slv x.prog.length px.prog.1, I x.acc, I x.pc, slv x.written.length px.written.1, slv (f_withSlot x.live page (f_slotAt x.written page)).length q24.1, I x.ctl.traps, I x.ctl.post, B x.ctl.opn, I x.pend, I x.exit.kind, I x.exit.page, B x.exit.wr, I x.exit.n, B x.halted, slv x.seen.length px.seen.1], Zc TGuest]⟩) .nil (by kernel_rfl) fun ac w β S hβ => ?_
 refine WD.last (by kernel_rfl) ?_
 clear hβ
 refine WD.done (by kernel_rfl) ?_ _
 refine S.ex fun S => ?_
 refine S.gr 8 .nil [GT.val (⟨x.prog, x.acc, x.pc, x.written, (f_withSlot x.live page (f_slotAt x.written page)), x.ctl, x.pend, x.exit, x.halted, x.seen⟩ : TGuest) (⟨px.prog, px.written, q24, px.seen⟩ : PGuest)] fun ac w β S => ?_
 have o32 := ow_Guest (x := (⟨x.prog, x.acc, x.pc, x.written, (f_withSlot x.live page (f_slotAt x.written page)), x.ctl, x.pend, x.exit, x.halted, x.seen⟩ : TGuest)) (p := (⟨px.prog, px.written, q24, px.seen⟩ : PGuest)) o2 o7 o26 o16 d18 d28 d20 d29 d22 (Disj.symm d31) i4 i5 i12 i13 i14
 exact retT_of S (show ({ x with live := f_withSlot x.live page (f_slotAt x.written page) } : TGuest) = (⟨x.prog, x.acc, x.pc, x.written, (f_withSlot x.live page (f_slotAt x.written page)), x.ctl, x.pend, x.exit, x.halted, x.seen⟩ : TGuest) by clear S; rfl) rfl o32

theorem c_impl_copyProg (w0 : World) (l : List TIns) (pl : LP TIns) (hl : RD w0 l pl) : Calls Try.prog 112 [slv l.length pl.1].toArray w0 (Ret1 NoB w0 (l : List TIns)) := by
 refine Calls.run NoB Try.func112 ?_
 intro ac β S
 have hlel : l.length ≤ 4194304 := LRd.le hl
 refine S.go 7 .nil fun ac w β S => S.B0 (α := TIns) (d := 3) fun ac w N q1 F2 S up o3 d4 => ?_
 clear up d4
 have b9 : l.length ≤ 4194304 := LRd.le (S.arg hl)
 refine S.go 1 .nil fun ac w β S => S.AF0 (α := TIns) o3 (S.arg hl) (fun _ _ h => h) (by' := 16) (d := 5) (lx := 0) (ly := l.length) rfl fun ac w N q5 F6 S up o7 d8 => ?_
 clear up d8
 refine S.gr 4 .nil [slv l.length q5.1] fun ac w β S => ?_
 exact ret1_of S (show l = l by clear S; simp) rfl o7

theorem c_impl_copyInts (w0 : World) (l : List Int) (pl : LP Int) (hl : RD w0 l pl) : Calls Try.prog 131 [slv l.length pl.1].toArray w0 (Ret1 NoB w0 (l : List Int)) := by
 refine Calls.run NoB Try.func131 ?_
 intro ac β S
 have hlel : l.length ≤ 4194304 := LRd.le hl
 refine S.go 7 .nil fun ac w β S => S.B0 (α := Int) (d := 3) fun ac w N q1 F2 S up o3 d4 => ?_
 clear up d4
 have b9 : l.length ≤ 4194304 := LRd.le (S.arg hl)
 refine S.go 1 .nil fun ac w β S => S.AF0 (α := Int) o3 (S.arg hl) (fun _ _ h => h) (by' := 8) (d := 5) (lx := 0) (ly := l.length) rfl fun ac w N q5 F6 S up o7 d8 => ?_
 clear up d8
 refine S.gr 4 .nil [slv l.length q5.1] fun ac w β S => ?_
 exact ret1_of S (show l = l by clear S; simp) rfl o7

theorem c_impl_copyGuest (w0 : World) (g : TGuest) (pg : PGuest) (hg : RD w0 g pg) : Calls Try.prog 122 [GT.val g pg].toArray w0 (Ret1 NoB w0 (g : TGuest)) := by
 refine Calls.run NoB Try.func122 ?_
 intro ac β S
 have hleg_prog : g.prog.length ≤ 4194304 := LRd.le (RGuest.prog (d := g) hg)
 have hleg_written : g.written.length ≤ 4194304 := LRd.le (RGuest.written (d := g) hg)
 have hleg_live : g.live.length ≤ 4194304 := LRd.le (RGuest.live (d := g) hg)
 have hleg_seen : g.seen.length ≤ 4194304 := LRd.le (RGuest.seen (d := g) hg)
 refine S.go 10 .nil fun ac w β S => S.K1 (r := g.prog) (d := 5) (c_impl_copyProg w g.prog pg.prog (S.rd (RGuest.prog (d := g) (S.arg hg)))) fun ac w N q1 F2 S up o3 d4 => ?_
 clear up d4
 refine S.go 8 .nil fun ac w β S => S.K1 (r := g.written) (d := 9) (c_impl_copyTable w g.written pg.written (S.rd (RGuest.written (d := g) (S.arg hg)))) fun ac w N q5 F6 S up o7 d8 => ?_
 have d9 := Disj.w d8 o3.sub
 replace o3 := o3.up up
 clear up d8
 refine S.go 8 .nil fun ac w β S => S.K1 (r := g.live) (d := 13) (c_impl_copyTable w g.live pg.live (S.rd (RGuest.live (d := g) (S.arg hg)))) fun ac w N q10 F11 S up o12 d13 => ?_
 have d14 := Disj.w d13 o3.sub
 have d15 := Disj.w d13 o7.sub
 replace o3 := o3.up up
 replace o7 := o7.up up
 clear up d13
 refine S.go 8 .nil fun ac w β S => S.K1 (r := g.seen) (d := 17) (c_impl_copyInts w g.seen pg.seen (S.rd (RGuest.seen (d := g) (S.arg hg)))) fun ac w N q16 F17 S up o18 d19 => ?_
 have d20 := Disj.w d19 o3.sub
 have d21 := Disj.w d19 o7.sub
 have d22 := Disj.w d19 o12.sub
 replace o3 := o3.up up
 replace o7 := o7.up up
 replace o12 := o12.up up
 clear up d19
 refine S.gr 11 .nil [GT.val (⟨g.prog, g.acc, g.pc, g.written, g.live, g.ctl, g.pend, g.exit, g.halted, g.seen⟩ : TGuest) (⟨q1, q5, q10, q16⟩ : PGuest)] fun ac w β S => ?_
 have o23 := ow_Guest (x := (⟨g.prog, g.acc, g.pc, g.written, g.live, g.ctl, g.pend, g.exit, g.halted, g.seen⟩ : TGuest)) (p := (⟨q1, q5, q10, q16⟩ : PGuest)) o3 o7 o12 o18 d9 d14 d20 d15 d21 d22 (RGuest.acc (d := g) (S.arg hg)) (RGuest.pc (d := g) (S.arg hg)) (RGuest.ctl (d := g) (S.arg hg)) (RGuest.pend (d := g) (S.arg hg)) (RGuest.exit (d := g) (S.arg hg))
 exact ret1_of S (show g = (⟨g.prog, g.acc, g.pc, g.written, g.live, g.ctl, g.pend, g.exit, g.halted, g.seen⟩ : TGuest) by clear S; (first | rfl | simp)) rfl o23

theorem k0_impl_GuestAt {p : Prop} (h : p := by clear S; (first | (unfold f_guestAt; rw [if_pos (by omega)]; done) | (unfold f_guestAt; rw [if_pos (by omega)]; first | rfl | (simp; done)) | (unfold f_guestAt; rw [if_neg (by omega)]; done) | (unfold f_guestAt; rw [if_neg (by omega)]; first | rfl | (simp; done)))) : p := h
theorem c_impl_GuestAt (w0 : World) (b : TBare) (pb : PBare) (hb : RD w0 b pb) (g : Int) : Calls Try.prog 123 [GT.val b pb, I g].toArray w0 (Ret2 NoB w0 ((f_guestAt b g).1 : TGuest) ((f_guestAt b g).2 : Bool)) := by
 refine Calls.run NoB Try.func123 ?_
 intro ac β S
 have hleb_mem : b.mem.length ≤ 4194304 := LRd.le (RBare.mem (d := b) hb)
 have hleb_guests : b.guests.length ≤ 4194304 := LRd.le (RBare.guests (d := b) hb)
 have hleb_outs : b.outs.length ≤ 4194304 := LRd.le (RBare.outs (d := b) hb)
 refine S.gb 18 (.cons (Q_call fun w hw => c_impl_has w g (b.guests.length : Int) (by omega)) .nil) (!(f_within g 0 ((b.guests.length : Int) - 1))) (fun ac w β h1 S => ?_) (fun ac w β h1 S => ?_)
 ·have h2 := not_t h1
  have g3 := within_f h2
  refine S.gr 9 (.cons (Q_sem (s := Instr.build 115 [].toArray) (v := .agg [slv ([] : List TIns).length (GT.pdflt (α := List TIns)).1, I 0, I 0, slv ([] : List TSlot).length (GT.pdflt (α := List TSlot)).1, slv ([] : List TSlot).length (GT.pdflt (α := List TSlot)).1, I 0, I 0, B false, I 0, I 0, I 0, B false, I 0, B false, slv ([] : List Int).length (GT.pdflt (α := List Int)).1].toArray) (fun w => by kernel_rfl)) .nil) [GT.val (⟨([] : List TIns), 0, 0, ([] : List TSlot), ([] : List TSlot), (⟨0, 0, false⟩ : TCtl), 0, (⟨0, 0, false, 0⟩ : TExit), false, ([] : List Int)⟩ : TGuest) (⟨(GT.pdflt (α := List TIns)), (GT.pdflt (α := List TSlot)), (GT.pdflt (α := List TSlot)), (GT.pdflt (α := List Int))⟩ : PGuest), B false] fun ac w β S => ?_
  have o4 := S.nilOw (α := TIns)
  have o5 := S.nilOw (α := TSlot)
  have o6 := S.nilOw (α := TSlot)
  have o7 := S.nilOw (α := Int)
  have o8 := ow_Guest (x := (⟨([] : List TIns), 0, 0, ([] : List TSlot), ([] : List TSlot), (⟨0, 0, false⟩ : TCtl), 0, (⟨0, 0, false, 0⟩ : TExit), false, ([] : List Int)⟩ : TGuest)) (p := (⟨(GT.pdflt (α := List TIns)), (GT.pdflt (α := List TSlot)), (GT.pdflt (α := List TSlot)), (GT.pdflt (α := List Int))⟩ : PGuest)) o4 o5 o6 o7 (fun b _ h => False.elim h) (fun b _ h => False.elim h) (fun b _ h => False.elim h) (fun b _ h => False.elim h) (fun b _ h => False.elim h) (fun b _ h => False.elim h) (show In64 0 from ⟨by decide, by decide⟩) (show In64 0 from ⟨by decide, by decide⟩) (show RCtl (⟨0, 0, false⟩ : TCtl) from ⟨(show In64 0 from ⟨by decide, by decide⟩), (show In64 0 from ⟨by decide, by decide⟩)⟩) (show In64 0 from ⟨by decide, by decide⟩) (show RExit (⟨0, 0, false, 0⟩ : TExit) from ⟨(show In64 0 from ⟨by decide, by decide⟩), (show In64 0 from ⟨by decide, by decide⟩), (show In64 0 from ⟨by decide, by decide⟩)⟩)
  exact ret2_of (p' := ()) S (show (f_guestAt b g).1 = (⟨([] : List TIns), 0, 0, ([] : List TSlot), ([] : List TSlot), (⟨0, 0, false⟩ : TCtl), 0, (⟨0, 0, false, 0⟩ : TExit), false, ([] : List Int)⟩ : TGuest) from k0_impl_GuestAt) (show (f_guestAt b g).2 = false from k0_impl_GuestAt) rfl rfl o8 trivial
 have h9 := not_f h1
 have g10 := within_t h9
 refine S.go 10 (.cons (qt (RBare.guests (d := b) (S.arg hb)) g Try.underlying39) (.cons (qs (RBare.guests (d := b) (S.arg hb)) 115 g.toNat) .nil)) fun ac w β S => S.K1 (r := (el b.guests g.toNat)) (d := 18) (c_impl_copyGuest w (el b.guests g.toNat) (pb.guests.2 g.toNat) (S.rd (LRd.el (RBare.guests (d := b) (S.arg hb)) g.toNat (by omega)))) fun ac w N q11 F12 S up o13 d14 => ?_
 clear up d14
 have i18 : In64 (el b.guests g.toNat).acc := RGuest.acc (d := (el b.guests g.toNat)) o13.rn
 have i19 : In64 (el b.guests g.toNat).pc := RGuest.pc (d := (el b.guests g.toNat)) o13.rn
 have i26 : RCtl (el b.guests g.toNat).ctl := RGuest.ctl (d := (el b.guests g.toNat)) o13.rn
 have i27 : In64 (el b.guests g.toNat).pend := RGuest.pend (d := (el b.guests g.toNat)) o13.rn
 have i28 : RExit (el b.guests g.toNat).exit := RGuest.exit (d := (el b.guests g.toNat)) o13.rn
 obtain ⟨F15, F20, F23, F29, o16, o21, o24, o30, s17, s22, s25, s31, d32, d33, d34, d35, d36, d37⟩ := sp_Guest o13
 refine S.gr 5 .nil [GT.val (el b.guests g.toNat) q11, B true] fun ac w β S => ?_
 have o38 := ow_Guest (x := (el b.guests g.toNat)) (p := q11) o16 o21 o24 o30 d32 d33 d34 d35 d36 d37 i18 i19 i26 i27 i28
 exact ret2_of (p' := ()) S (show (f_guestAt b g).1 = (el b.guests g.toNat) from k0_impl_GuestAt) (show (f_guestAt b g).2 = true from k0_impl_GuestAt) rfl rfl o38 trivial

theorem k0_impl_InsOk {p : Prop} (h : p := by clear S; first | rfl | (simp [f_insOk, *]; done) | (simp [f_insOk, *]; omega) | (simp_all [f_insOk]; done) | (simp_all [f_insOk]; omega)) : p := h
theorem c_impl_InsOk (w0 : World) (i : TIns) : Calls Try.prog 132 [GT.val i ()].toArray w0 (fun e w' => e = .returned (B (f_insOk i)) ∧ Chg NoB w0 w') := by
 refine Calls.run NoB Try.func132 ?_
 intro ac β S
 refine S.gd 21 .nil (i.opc == 1) (fun ac w β h1 g2 S => ?_) (fun ac w β h1 g2 S => ?_)
 ·exact S.gf 13 (.cons (Q_call fun w hw => c_impl_within w i.x 0 99) .nil) [B (f_within i.x 0 99)] (retB k0_impl_InsOk)
 refine S.gd 7 .nil (i.opc == 2) (fun ac w β h3 g4 S => ?_) (fun ac w β h3 g4 S => ?_)
 ·exact S.gf 13 (.cons (Q_call fun w hw => c_impl_within w i.x 0 99) .nil) [B (f_within i.x 0 99)] (retB k0_impl_InsOk)
 refine S.gd 7 .nil (i.opc == 5) (fun ac w β h5 g6 S => ?_) (fun ac w β h5 g6 S => ?_)
 ·exact S.gf 13 (.cons (Q_call fun w hw => c_impl_within w i.x 0 99) .nil) [B (f_within i.x 0 99)] (retB k0_impl_InsOk)
 refine S.gd 6 .nil (i.opc == 6) (fun ac w β h7 g8 S => ?_) (fun ac w β h7 g8 S => ?_)
 ·exact S.gf 10 (.cons (Q_call fun w hw => c_impl_within w i.x 0 99) .nil) [B (f_within i.x 0 99)] (retB k0_impl_InsOk)
 refine S.gd 8 .nil (i.opc == 3) (fun ac w β h9 g10 S => ?_) (fun ac w β h9 g10 S => ?_)
 ·exact S.gf 13 (.cons (Q_call fun w hw => c_impl_within w i.x 0 15) .nil) [B (f_within i.x 0 15)] (retB k0_impl_InsOk)
 refine S.gd 6 .nil (i.opc == 4) (fun ac w β h11 g12 S => ?_) (fun ac w β h11 g12 S => ?_)
 ·exact S.gf 10 (.cons (Q_call fun w hw => c_impl_within w i.x 0 15) .nil) [B (f_within i.x 0 15)] (retB k0_impl_InsOk)
 refine S.gd 7 .nil (i.opc == 7) (fun ac w β h13 g14 S => ?_) (fun ac w β h13 g14 S => ?_)
 ·exact S.gf 10 .nil [B (i.x == 0)] (retB k0_impl_InsOk)
 refine S.gd 7 .nil (i.opc == 8) (fun ac w β h15 g16 S => ?_) (fun ac w β h15 g16 S => ?_)
 ·exact S.gf 10 (.cons (Q_call fun w hw => c_impl_within w i.x 0 11) .nil) [B (f_within i.x 0 11)] (retB k0_impl_InsOk)
 exact S.gf 10 .nil [B false] (retB k0_impl_InsOk)

theorem c_impl_ProgOk (w0 : World) (p : List TIns) (pp : LP TIns) (hp : RD w0 p pp) : Calls Try.prog 113 [slv p.length pp.1].toArray w0 (fun e w' => e = .returned (B (f_progOk p)) ∧ Chg NoB w0 w') := by
 refine Calls.run NoB Try.func113 ?_
 intro ac β S
 have hlep : p.length ≤ 4194304 := LRd.le hp
 refine S.go 14 .nil fun ac w β S => ?_
 refine lp (fun mm ac w => ∃ (k : Nat)  (u : _) (N : _) (β : _), mm = p.length - k ∧ (k ≤ p.length) ∧ ((p.take k).all f_insOk = true) ∧ St Try.prog Try.f113.ntmps w0 NoB u N β ⟨[(0, .v (slv p.length pp.1)), (5, .v (slv p.length pp.1)), (6, .v (I (p.length : Int))), (7, .v (I (k : Int)))], []⟩ ac w) _ ⟨0, _, _, _, rfl, o0, (by simp), S.z⟩ ?_
 clear S
 rintro f1 mm hf2 ac w ⟨k, u, N, β, rfl, hk, he, S⟩
 refine S.rs fun S => ?_
 refine S.gd 6 .nil (decide ((k : Int) < (p.length : Int))) (fun ac w β h3 g4 S => ?_) (fun ac w β h3 g4 S => ?_)
 ·refine S.gb 20 (.cons (qn (S.arg hp) k Try.underlying28) (.cons (qs (S.arg hp) 27 k) (.cons (Q_call fun w hw => c_impl_InsOk w (el p k)) .nil))) (!(f_insOk (el p k))) (fun ac w β h5 S => ?_) (fun ac w β h5 S => ?_)
  ·have h6 := not_t h5
   exact S.gf 7 .nil [B false] (retB (by clear S; (first | (unfold f_progOk; rw [all_bad (k := k) (by omega) (by first | assumption | simp_all)]; simp; done) | (unfold f_progOk; rw [all_end (by omega) he]; simp; done) | (unfold f_progOk; rw [all_end (by omega) he]; simp [*]; done) | (unfold f_progOk; rw [all_end (by omega) he]; simp; omega))))
  have h7 := not_f h5
  refine S.ge 8 (.cons (qp (k : Int) 1) .nil) f1 fun ac w β S => hf2.of (p.length - (k + 1)) _ _ (by omega) ⟨k + 1, _, _, _, rfl, ?_, ?_, S.z⟩
  ·exact oz
  ·clear S; exact all_step (by omega) he (by first | assumption | (simp only [f_slotOk, f_within] at *; simp_all; done) | (simp_all; done) | (simp_all; omega))
 exact S.gf 15 (.cons (Q_call fun w hw => c_impl_within w (p.length : Int) 1 12) .nil) [B (f_within (p.length : Int) 1 12)] (retB (by clear S; (first | (unfold f_progOk; rw [all_end (by omega) he]; simp; done) | (unfold f_progOk; rw [all_end (by omega) he]; simp [*]; done) | (unfold f_progOk; rw [all_end (by omega) he]; simp; omega) | (unfold f_progOk; rw [all_bad (k := k) (by omega) (by first | assumption | simp_all)]; simp; done))))

theorem c_impl_TableOk (w0 : World) (t : List TSlot) (pt : LP TSlot) (ht : RD w0 t pt) (size : Int) (pages : Int) (pre0 : 0 ≤ pages) (pre1 : pages ≤ 1000) : Calls Try.prog 85 [slv t.length pt.1, I size, I pages].toArray w0 (fun e w' => e = .returned (B (f_tableOk t size pages)) ∧ Chg NoB w0 w') := by
 refine Calls.run NoB Try.func85 ?_
 intro ac β S
 have hlet : t.length ≤ 4194304 := LRd.le ht
 refine S.go 14 .nil fun ac w β S => ?_
 refine lp (fun mm ac w => ∃ (k : Nat)  (u : _) (N : _) (β : _), mm = t.length - k ∧ (k ≤ t.length) ∧ ((t.take k).all (fun s => f_slotOk s pages) = true) ∧ St Try.prog Try.f85.ntmps w0 NoB u N β ⟨[(0, .v (slv t.length pt.1)), (1, .v (I size)), (2, .v (I pages)), (9, .v (slv t.length pt.1)), (10, .v (I (t.length : Int))), (11, .v (I (k : Int)))], []⟩ ac w) _ ⟨0, _, _, _, rfl, o0, (by simp), S.z⟩ ?_
 clear S
 rintro f1 mm hf2 ac w ⟨k, u, N, β, rfl, hk, he, S⟩
 refine S.rs fun S => ?_
 refine S.gd 6 .nil (decide ((k : Int) < (t.length : Int))) (fun ac w β h3 g4 S => ?_) (fun ac w β h3 g4 S => ?_)
 ·refine S.gb 21 (.cons (qn (S.arg ht) k Try.underlying37) (.cons (qs (S.arg ht) 54 k) (.cons (Q_call fun w hw => c_impl_SlotOk w (el t k) pages (by omega) (by omega)) .nil))) (!(f_slotOk (el t k) pages)) (fun ac w β h5 S => ?_) (fun ac w β h5 S => ?_)
  ·have h6 := not_t h5
   exact S.gf 7 .nil [B false] (retB (by clear S; (first | (unfold f_tableOk; rw [all_bad (k := k) (by omega) (by first | assumption | simp_all)]; simp; done) | (unfold f_tableOk; rw [all_end (by omega) he]; simp; done) | (unfold f_tableOk; rw [all_end (by omega) he]; simp [*]; done) | (unfold f_tableOk; rw [all_end (by omega) he]; simp; omega))))
  have h7 := not_f h5
  refine S.ge 8 (.cons (qp (k : Int) 1) .nil) f1 fun ac w β S => hf2.of (t.length - (k + 1)) _ _ (by omega) ⟨k + 1, _, _, _, rfl, ?_, ?_, S.z⟩
  ·exact oz
  ·clear S; exact all_step (by omega) he (by first | assumption | (simp only [f_slotOk, f_within] at *; simp_all; done) | (simp_all; done) | (simp_all; omega))
 exact S.gf 16 .nil [B ((t.length : Int) == size)] (retB (by clear S; (first | (unfold f_tableOk; rw [all_end (by omega) he]; simp; done) | (unfold f_tableOk; rw [all_end (by omega) he]; simp [*]; done) | (unfold f_tableOk; rw [all_end (by omega) he]; simp; omega) | (unfold f_tableOk; rw [all_bad (k := k) (by omega) (by first | assumption | simp_all)]; simp; done))))

theorem c_impl_CtlFaults (w0 : World) (c : TCtl) : Calls Try.prog 133 [GT.val c ()].toArray w0 (Ret1 NoB w0 (f_ctlFaults c : List Int)) := by
 refine Calls.run NoB Try.func133 ?_
 intro ac β S
 refine S.go 8 .nil fun ac w β S => S.B0 (α := Int) (d := 4) fun ac w N q1 F2 S up o3 d4 => ?_
 clear up d4
 refine S.go 12 (.cons (Q_call fun w hw => c_impl_within w c.traps 0 3) .nil) fun ac w β S => ?_
 refine cutC S (fun ac w => ∃ (acc1 : List Int) (q5 : _) (F6 : _) (u : _) (N : _) (β : _), (acc1 = (if f_within c.traps 0 3 then [] else [1])) ∧ St Try.prog Try.f133.ntmps w0 NoB u N β ⟨[(1, .p 0 0), (3, .v (slv acc1.length q5.1))], [GT.cells c ()]⟩ ac w ∧ Ow w0 NoB u N F6 acc1 q5) ?_ ?_
 ·clear S; intro S
  refine S.gb 0 .nil (!(f_within c.traps 0 3)) (fun ac w β h8 S => ?_) (fun ac w β h8 S => ?_)
  ·have h9 := not_t h8
   have g10 := within_f h9
   refine S.go 3 .nil fun ac w β S => S.B1 (α := Int) (x := 1) (p := ()) (F := NoB) (show In64 1 from ⟨by decide, by decide⟩) (fun b h => False.elim h) (fun b h => False.elim h) (d := 10) fun ac w N q11 F12 S up o13 d14 => ?_
   have d15 := d14 _ (fun b _ h => False.elim h) o3.sub
   replace o3 := o3.up up
   clear up d14
   refine S.AF0 (α := Int) o3 o13.rn (fun _ _ h => h) (by' := 8) (d := 11) (lx := 0) (ly := 1) rfl fun ac w N q16 F17 S up o18 d19 => ?_
   have d20 := d19 _ (Disj.symm d15) o13.sub
   replace o13 := o13.upF (Disj.symm d15) up
   clear up d19
   exact S.gn 2 .nil fun ac w β S => ⟨rfl, ([1]), q16, F17, _, _, _, (by clear S; (first | (rw [if_pos (by assumption)]; simp [*]; done) | (rw [if_neg (by simp [*])]; simp [*]; done) | ((repeat' split) <;> first | rfl | (simp; done) | (exfalso; simp_all; done) | (simp_all; done)))), S.z, o18⟩
  have h21 := not_f h8
  have g22 := within_t h21
  exact S.gn 2 .nil fun ac w β S => ⟨rfl, ([] : List Int), q1, F2, _, _, _, (by clear S; (first | (rw [if_pos (by assumption)]; simp [*]; done) | (rw [if_neg (by simp [*])]; simp [*]; done) | ((repeat' split) <;> first | rfl | (simp; done) | (exfalso; simp_all; done) | (simp_all; done)))), S.z, o3⟩
 clear S o3
 rintro ac w ⟨acc1, q5, F6, u, N, β, ha1, S, o7⟩
 have hl1 : acc1.length ≤ 1 := by rw [ha1]; (repeat' split) <;> simp
 refine S.ex fun S => ?_
 refine S.go 10 (.cons (Q_call fun w hw => c_impl_within w c.post 0 255) .nil) fun ac w β S => ?_
 refine cutC S (fun ac w => ∃ (acc2 : List Int) (q23 : _) (F24 : _) (u : _) (N : _) (β : _), (acc2 = (if f_within c.traps 0 3 then [] else [1]) ++ (if f_within c.post 0 255 then [] else [2])) ∧ St Try.prog Try.f133.ntmps w0 NoB u N β ⟨[(1, .p 0 0), (3, .v (slv acc2.length q23.1))], [GT.cells c ()]⟩ ac w ∧ Ow w0 NoB u N F24 acc2 q23) ?_ ?_
 ·clear S; intro S
  refine S.gb 0 .nil (!(f_within c.post 0 255)) (fun ac w β h26 S => ?_) (fun ac w β h26 S => ?_)
  ·have h27 := not_t h26
   have g28 := within_f h27
   refine S.go 3 .nil fun ac w β S => S.B1 (α := Int) (x := 2) (p := ()) (F := NoB) (show In64 2 from ⟨by decide, by decide⟩) (fun b h => False.elim h) (fun b h => False.elim h) (d := 17) fun ac w N q29 F30 S up o31 d32 => ?_
   have d33 := d32 _ (fun b _ h => False.elim h) o7.sub
   replace o7 := o7.up up
   clear up d32
   refine S.AF (α := Int) o7 o31.rn (fun _ _ h => h) (by' := 8) (d := 18) (lx := acc1.length) (ly := 1) rfl rfl (show _ ≤ 4194304 by simp only [List.length_append, List.length_cons, List.length_nil]; omega) fun ac w N q34 F35 S up o36 d37 => ?_
   have d38 := d37 _ (Disj.symm d33) o31.sub
   replace o31 := o31.upF (Disj.symm d33) up
   clear up d37
   exact S.gn 2 .nil fun ac w β S => ⟨rfl, (acc1 ++ [2]), q34, F35, _, _, _, (by clear S; (first | (rw [if_pos (by assumption)]; simp [*]; done) | (rw [if_neg (by simp [*])]; simp [*]; done) | (rw [ha1]; (repeat' split) <;> first | rfl | (simp; done) | (exfalso; simp_all; done) | (simp_all; done)))), S.z, o36⟩
  have h39 := not_f h26
  have g40 := within_t h39
  exact S.gn 2 .nil fun ac w β S => ⟨rfl, acc1, q5, F6, _, _, _, (by clear S; (first | (rw [if_pos (by assumption)]; simp [*]; done) | (rw [if_neg (by simp [*])]; simp [*]; done) | (rw [ha1]; (repeat' split) <;> first | rfl | (simp; done) | (exfalso; simp_all; done) | (simp_all; done)))), S.z, o7⟩
 clear S o7
 rintro ac w ⟨acc2, q23, F24, u, N, β, ha2, S, o25⟩
 have hl2 : acc2.length ≤ 2 := by rw [ha2]; (repeat' split) <;> simp
 refine S.ex fun S => ?_
 refine S.gd 8 .nil (c.post != 0) (fun ac w β h41 g42 S => ?_) (fun ac w β h41 g42 S => ?_)
 ·refine S.go 6 .nil fun ac w β S => ?_
  refine cutC S (fun ac w => ∃ (acc3 : List Int) (q43 : _) (F44 : _) (u : _) (N : _) (β : _), (acc3 = (if f_within c.traps 0 3 then [] else [1]) ++ (if f_within c.post 0 255 then [] else [2]) ++ (if c.post ≠ 0 ∧ c.opn = false then [3] else [])) ∧ St Try.prog Try.f133.ntmps w0 NoB u N β ⟨[(1, .p 0 0), (3, .v (slv acc3.length q43.1))], [GT.cells c ()]⟩ ac w ∧ Ow w0 NoB u N F44 acc3 q43) ?_ ?_
  ·clear S; intro S
   refine S.gb 0 .nil (!c.opn) (fun ac w β h46 S => ?_) (fun ac w β h46 S => ?_)
   ·have h47 := not_t h46
    refine S.go 3 .nil fun ac w β S => S.B1 (α := Int) (x := 3) (p := ()) (F := NoB) (show In64 3 from ⟨by decide, by decide⟩) (fun b h => False.elim h) (fun b h => False.elim h) (d := 28) fun ac w N q48 F49 S up o50 d51 => ?_
    have d52 := d51 _ (fun b _ h => False.elim h) o25.sub
    replace o25 := o25.up up
    clear up d51
    refine S.AF (α := Int) o25 o50.rn (fun _ _ h => h) (by' := 8) (d := 29) (lx := acc2.length) (ly := 1) rfl rfl (show _ ≤ 4194304 by simp only [List.length_append, List.length_cons, List.length_nil]; omega) fun ac w N q53 F54 S up o55 d56 => ?_
    have d57 := d56 _ (Disj.symm d52) o50.sub
    replace o50 := o50.upF (Disj.symm d52) up
    clear up d56
    exact S.gn 2 .nil fun ac w β S => ⟨rfl, (acc2 ++ [3]), q53, F54, _, _, _, (by clear S; (first | (rw [if_pos (by assumption)]; simp [*]; done) | (rw [if_neg (by simp [*])]; simp [*]; done) | (rw [ha2]; (repeat' split) <;> first | rfl | (simp; done) | (exfalso; simp_all; done) | (simp_all; done)))), S.z, o55⟩
   have h58 := not_f h46
   exact S.gn 2 .nil fun ac w β S => ⟨rfl, acc2, q23, F24, _, _, _, (by clear S; (first | (rw [if_pos (by assumption)]; simp [*]; done) | (rw [if_neg (by simp [*])]; simp [*]; done) | (rw [ha2]; (repeat' split) <;> first | rfl | (simp; done) | (exfalso; simp_all; done) | (simp_all; done)))), S.z, o25⟩
  clear S o25
  rintro ac w ⟨acc3, q43, F44, u, N, β, ha3, S, o45⟩
  have hl3 : acc3.length ≤ 3 := by rw [ha3]; (repeat' split) <;> simp
  refine S.ex fun S => ?_
  refine S.gd 8 .nil (c.traps == 2) (fun ac w β h59 g60 S => ?_) (fun ac w β h59 g60 S => ?_)
  ·refine S.go 6 .nil fun ac w β S => ?_
   refine cutC S (fun ac w => ∃ (acc4 : List Int) (q61 : _) (F62 : _) (u : _) (N : _) (β : _), (acc4 = (if f_within c.traps 0 3 then [] else [1]) ++ (if f_within c.post 0 255 then [] else [2]) ++ (if c.post ≠ 0 ∧ c.opn = false then [3] else []) ++ (if c.traps = 2 ∧ c.post ≠ 0 then [4] else [])) ∧ St Try.prog Try.f133.ntmps w0 NoB u N β ⟨[(3, .v (slv acc4.length q61.1))], []⟩ ac w ∧ Ow w0 NoB u N F62 acc4 q61) ?_ ?_
   ·clear S; intro S
    refine S.lt 37 h41 fun S => ?_
    refine S.go 3 .nil fun ac w β S => S.B1 (α := Int) (x := 4) (p := ()) (F := NoB) (show In64 4 from ⟨by decide, by decide⟩) (fun b h => False.elim h) (fun b h => False.elim h) (d := 39) fun ac w N q64 F65 S up o66 d67 => ?_
    have d68 := d67 _ (fun b _ h => False.elim h) o45.sub
    replace o45 := o45.up up
    clear up d67
    refine S.AF (α := Int) o45 o66.rn (fun _ _ h => h) (by' := 8) (d := 40) (lx := acc3.length) (ly := 1) rfl rfl (show _ ≤ 4194304 by simp only [List.length_append, List.length_cons, List.length_nil]; omega) fun ac w N q69 F70 S up o71 d72 => ?_
    have d73 := d72 _ (Disj.symm d68) o66.sub
    replace o66 := o66.upF (Disj.symm d68) up
    clear up d72
    exact S.gn 2 .nil fun ac w β S => ⟨rfl, (acc3 ++ [4]), q69, F70, _, _, _, (by clear S; (first | (rw [if_pos (by assumption)]; simp [*]; done) | (rw [if_neg (by simp [*])]; simp [*]; done) | (rw [ha3]; (repeat' split) <;> first | rfl | (simp; done) | (exfalso; simp_all; done) | (simp_all; done)))), S.z, o71⟩
   clear S o45
   rintro ac w ⟨acc4, q61, F62, u, N, β, ha4, S, o63⟩
   have hl4 : acc4.length ≤ 4 := by rw [ha4]; (repeat' split) <;> simp
   refine S.ex fun S => ?_
   refine S.gr 8 .nil [slv acc4.length q61.1] fun ac w β S => ?_
   exact ret1_of S (show f_ctlFaults c = acc4 by clear S; (rw [ha4]; rfl)) rfl o63
  refine S.go 6 .nil fun ac w β S => ?_
  refine cutC S (fun ac w => ∃ (acc4 : List Int) (q74 : _) (F75 : _) (u : _) (N : _) (β : _), (acc4 = (if f_within c.traps 0 3 then [] else [1]) ++ (if f_within c.post 0 255 then [] else [2]) ++ (if c.post ≠ 0 ∧ c.opn = false then [3] else []) ++ (if c.traps = 2 ∧ c.post ≠ 0 then [4] else [])) ∧ St Try.prog Try.f133.ntmps w0 NoB u N β ⟨[(3, .v (slv acc4.length q74.1))], []⟩ ac w ∧ Ow w0 NoB u N F75 acc4 q74) ?_ ?_
  ·clear S; intro S
   exact S.gn 2 .nil fun ac w β S => ⟨rfl, acc3, q43, F44, _, _, _, (by clear S; (first | (rw [if_pos (by assumption)]; simp [*]; done) | (rw [if_neg (by simp [*])]; simp [*]; done) | (rw [ha3]; (repeat' split) <;> first | rfl | (simp; done) | (exfalso; simp_all; done) | (simp_all; done)))), S.z, o45⟩
  clear S o45
  rintro ac w ⟨acc4, q74, F75, u, N, β, ha4, S, o76⟩
  have hl4 : acc4.length ≤ 4 := by rw [ha4]; (repeat' split) <;> simp
  refine S.ex fun S => ?_
  refine S.gr 8 .nil [slv acc4.length q74.1] fun ac w β S => ?_
  exact ret1_of S (show f_ctlFaults c = acc4 by clear S; (rw [ha4]; rfl)) rfl o76
 refine S.go 6 .nil fun ac w β S => ?_
 refine cutC S (fun ac w => ∃ (acc3 : List Int) (q77 : _) (F78 : _) (u : _) (N : _) (β : _), (acc3 = (if f_within c.traps 0 3 then [] else [1]) ++ (if f_within c.post 0 255 then [] else [2]) ++ (if c.post ≠ 0 ∧ c.opn = false then [3] else [])) ∧ St Try.prog Try.f133.ntmps w0 NoB u N β ⟨[(1, .p 0 0), (3, .v (slv acc3.length q77.1))], [GT.cells c ()]⟩ ac w ∧ Ow w0 NoB u N F78 acc3 q77) ?_ ?_
 ·clear S; intro S
  exact S.gn 2 .nil fun ac w β S => ⟨rfl, acc2, q23, F24, _, _, _, (by clear S; (first | (rw [if_pos (by assumption)]; simp [*]; done) | (rw [if_neg (by simp [*])]; simp [*]; done) | (rw [ha2]; (repeat' split) <;> first | rfl | (simp; done) | (exfalso; simp_all; done) | (simp_all; done)))), S.z, o25⟩
 clear S o25
 rintro ac w ⟨acc3, q77, F78, u, N, β, ha3, S, o79⟩
 have hl3 : acc3.length ≤ 3 := by rw [ha3]; (repeat' split) <;> simp
 refine S.ex fun S => ?_
 refine S.gd 8 .nil (c.traps == 2) (fun ac w β h80 g81 S => ?_) (fun ac w β h80 g81 S => ?_)
 ·refine S.go 6 .nil fun ac w β S => ?_
  refine cutC S (fun ac w => ∃ (acc4 : List Int) (q82 : _) (F83 : _) (u : _) (N : _) (β : _), (acc4 = (if f_within c.traps 0 3 then [] else [1]) ++ (if f_within c.post 0 255 then [] else [2]) ++ (if c.post ≠ 0 ∧ c.opn = false then [3] else []) ++ (if c.traps = 2 ∧ c.post ≠ 0 then [4] else [])) ∧ St Try.prog Try.f133.ntmps w0 NoB u N β ⟨[(3, .v (slv acc4.length q82.1))], []⟩ ac w ∧ Ow w0 NoB u N F83 acc4 q82) ?_ ?_
  ·clear S; intro S
   refine S.lt 37 h41 fun S => ?_
   exact S.gn 2 .nil fun ac w β S => ⟨rfl, acc3, q77, F78, _, _, _, (by clear S; (first | (rw [if_pos (by assumption)]; simp [*]; done) | (rw [if_neg (by simp [*])]; simp [*]; done) | (rw [ha3]; (repeat' split) <;> first | rfl | (simp; done) | (exfalso; simp_all; done) | (simp_all; done)))), S.z, o79⟩
  clear S o79
  rintro ac w ⟨acc4, q82, F83, u, N, β, ha4, S, o84⟩
  have hl4 : acc4.length ≤ 4 := by rw [ha4]; (repeat' split) <;> simp
  refine S.ex fun S => ?_
  refine S.gr 8 .nil [slv acc4.length q82.1] fun ac w β S => ?_
  exact ret1_of S (show f_ctlFaults c = acc4 by clear S; (rw [ha4]; rfl)) rfl o84
 refine S.go 6 .nil fun ac w β S => ?_
 refine cutC S (fun ac w => ∃ (acc4 : List Int) (q85 : _) (F86 : _) (u : _) (N : _) (β : _), (acc4 = (if f_within c.traps 0 3 then [] else [1]) ++ (if f_within c.post 0 255 then [] else [2]) ++ (if c.post ≠ 0 ∧ c.opn = false then [3] else []) ++ (if c.traps = 2 ∧ c.post ≠ 0 then [4] else [])) ∧ St Try.prog Try.f133.ntmps w0 NoB u N β ⟨[(3, .v (slv acc4.length q85.1))], []⟩ ac w ∧ Ow w0 NoB u N F86 acc4 q85) ?_ ?_
 ·clear S; intro S
  exact S.gn 2 .nil fun ac w β S => ⟨rfl, acc3, q77, F78, _, _, _, (by clear S; (first | (rw [if_pos (by assumption)]; simp [*]; done) | (rw [if_neg (by simp [*])]; simp [*]; done) | (rw [ha3]; (repeat' split) <;> first | rfl | (simp; done) | (exfalso; simp_all; done) | (simp_all; done)))), S.z, o79⟩
 clear S o79
 rintro ac w ⟨acc4, q85, F86, u, N, β, ha4, S, o87⟩
 have hl4 : acc4.length ≤ 4 := by rw [ha4]; (repeat' split) <;> simp
 refine S.ex fun S => ?_
 refine S.gr 8 .nil [slv acc4.length q85.1] fun ac w β S => ?_
 exact ret1_of S (show f_ctlFaults c = acc4 by clear S; (rw [ha4]; rfl)) rfl o87

theorem c_impl_CtlOk (w0 : World) (c : TCtl) : Calls Try.prog 114 [GT.val c ()].toArray w0 (fun e w' => e = .returned (B (f_ctlOk c)) ∧ Chg NoB w0 w') := by
 refine Calls.run NoB Try.func114 ?_
 intro ac β S
 refine S.go 9 .nil fun ac w β S => S.K1 (r := f_ctlFaults c) (d := 4) (c_impl_CtlFaults w c) fun ac w N q1 F2 S up o3 d4 => ?_
 clear up d4
 exact S.gf 6 .nil [B (((f_ctlFaults c).length : Int) == 0)] (retB (by clear S; first | rfl | (simp [f_ctlOk, *]; done) | (simp [f_ctlOk, *]; omega) | (simp_all [f_ctlOk]; done) | (simp_all [f_ctlOk]; omega)))

theorem c_impl_PendOk (w0 : World) (p : Int) : Calls Try.prog 86 [I p].toArray w0 (fun e w' => e = .returned (B (f_within p 0 255)) ∧ Chg NoB w0 w') := by
 refine Calls.run NoB Try.func86 ?_
 intro ac β S
 exact S.gf 13 (.cons (Q_call fun w hw => c_impl_within w p 0 255) .nil) [B (f_within p 0 255)] (retB (by clear S; first | rfl | (simp [f_within, *]; done) | (simp [f_within, *]; omega) | (simp_all [f_within]; done) | (simp_all [f_within]; omega)))

theorem k0_impl_ExitOk {p : Prop} (h : p := by clear S; (unfold f_exitOk; (repeat' split) <;> first | rfl | (exfalso; simp_all; done) | (exfalso; omega) | (rw [Bool.eq_iff_iff]; simp [TExit.ext_iff, *]; done) | (rw [Bool.eq_iff_iff]; simp_all [TExit.ext_iff, and_assoc]; done) | (rw [Bool.eq_iff_iff]; simp_all [TExit.ext_iff, and_assoc]; omega))) : p := h
theorem c_impl_ExitOk (w0 : World) (x : TExit) : Calls Try.prog 115 [GT.val x ()].toArray w0 (fun e w' => e = .returned (B (f_exitOk x)) ∧ Chg NoB w0 w') := by
 refine Calls.run NoB Try.func115 ?_
 intro ac β S
 refine S.gd 21 .nil (x.kind == 0) (fun ac w β h1 g2 S => ?_) (fun ac w β h1 g2 S => ?_)
 ·refine S.gd 10 .nil (x.page == 0) (fun ac w β h3 g4 S => ?_) (fun ac w β h3 g4 S => ?_)
  ·refine S.gb 5 .nil (!x.wr) (fun ac w β h5 S => ?_) (fun ac w β h5 S => ?_)
   ·have h6 := not_t h5
    exact S.gf 8 .nil [B (x.n == 0)] (retB k0_impl_ExitOk)
   have h7 := not_f h5
   exact S.gf 8 .nil [B false] (retB k0_impl_ExitOk)
  exact S.gf 13 .nil [B false] (retB k0_impl_ExitOk)
 refine S.gd 6 .nil (x.kind == 4) (fun ac w β h8 g9 S => ?_) (fun ac w β h8 g9 S => ?_)
 ·refine S.gd 7 .nil (x.page == 0) (fun ac w β h10 g11 S => ?_) (fun ac w β h10 g11 S => ?_)
  ·refine S.gb 5 .nil (!x.wr) (fun ac w β h12 S => ?_) (fun ac w β h12 S => ?_)
   ·have h13 := not_t h12
    exact S.gf 8 .nil [B (x.n == 0)] (retB k0_impl_ExitOk)
   have h14 := not_f h12
   exact S.gf 8 .nil [B false] (retB k0_impl_ExitOk)
  exact S.gf 13 .nil [B false] (retB k0_impl_ExitOk)
 refine S.gd 7 .nil (x.kind == 1) (fun ac w β h15 g16 S => ?_) (fun ac w β h15 g16 S => ?_)
 ·refine S.gb 7 (.cons (Q_call fun w hw => c_impl_within w x.page 0 3) .nil) (f_within x.page 0 3) (fun ac w β h17 S => ?_) (fun ac w β h17 S => ?_)
  ·have g18 := within_t h17
   exact S.gf 8 .nil [B (x.n == 0)] (retB k0_impl_ExitOk)
  have g19 := within_f h17
  exact S.gf 8 .nil [B false] (retB k0_impl_ExitOk)
 refine S.gd 8 .nil (x.kind == 2) (fun ac w β h20 g21 S => ?_) (fun ac w β h20 g21 S => ?_)
 ·refine S.gb 10 (.cons (Q_call fun w hw => c_impl_within w x.n 0 99) .nil) (f_within x.n 0 99) (fun ac w β h22 S => ?_) (fun ac w β h22 S => ?_)
  ·have g23 := within_t h22
   refine S.gd 5 .nil (x.page == 0) (fun ac w β h24 g25 S => ?_) (fun ac w β h24 g25 S => ?_)
   ·exact S.gf 8 .nil [B (!x.wr)] (retB k0_impl_ExitOk)
   exact S.gf 8 .nil [B false] (retB k0_impl_ExitOk)
  have g26 := within_f h22
  exact S.gf 13 .nil [B false] (retB k0_impl_ExitOk)
 refine S.gd 6 .nil (x.kind == 3) (fun ac w β h27 g28 S => ?_) (fun ac w β h27 g28 S => ?_)
 ·refine S.gb 7 (.cons (Q_call fun w hw => c_impl_within w x.n 0 99) .nil) (f_within x.n 0 99) (fun ac w β h29 S => ?_) (fun ac w β h29 S => ?_)
  ·have g30 := within_t h29
   refine S.gd 5 .nil (x.page == 0) (fun ac w β h31 g32 S => ?_) (fun ac w β h31 g32 S => ?_)
   ·exact S.gf 8 .nil [B (!x.wr)] (retB k0_impl_ExitOk)
   exact S.gf 8 .nil [B false] (retB k0_impl_ExitOk)
  have g33 := within_f h29
  exact S.gf 13 .nil [B false] (retB k0_impl_ExitOk)
 exact S.gf 10 .nil [B false] (retB k0_impl_ExitOk)

theorem k0_impl_GuestOk {p : Prop} (h : p := by clear S; first | rfl | (simp [f_guestOk, *]; done) | (simp [f_guestOk, *]; omega) | (simp_all [f_guestOk]; done) | (simp_all [f_guestOk]; omega)) : p := h
theorem c_impl_GuestOk (w0 : World) (g : TGuest) (pg : PGuest) (hg : RD w0 g pg) : Calls Try.prog 87 [GT.val g pg].toArray w0 (fun e w' => e = .returned (B (f_guestOk g)) ∧ Chg NoB w0 w') := by
 refine Calls.run NoB Try.func87 ?_
 intro ac β S
 have hleg_prog : g.prog.length ≤ 4194304 := LRd.le (RGuest.prog (d := g) hg)
 have hleg_written : g.written.length ≤ 4194304 := LRd.le (RGuest.written (d := g) hg)
 have hleg_live : g.live.length ≤ 4194304 := LRd.le (RGuest.live (d := g) hg)
 have hleg_seen : g.seen.length ≤ 4194304 := LRd.le (RGuest.seen (d := g) hg)
 refine S.gb 12 (.cons (Q_call fun w hw => c_impl_ProgOk w g.prog pg.prog (rd_of (RGuest.prog (d := g) (S.arg hg)) hw)) .nil) (f_progOk g.prog) (fun ac w β h1 S => ?_) (fun ac w β h1 S => ?_)
 ·refine S.gb 5 (.cons (Q_call fun w hw => c_impl_within w g.acc 0 99) .nil) (f_within g.acc 0 99) (fun ac w β h2 S => ?_) (fun ac w β h2 S => ?_)
  ·have g3 := within_t h2
   refine S.gb 5 (.cons (Q_call fun w hw => c_impl_within w g.pc 0 12) .nil) (f_within g.pc 0 12) (fun ac w β h4 S => ?_) (fun ac w β h4 S => ?_)
   ·have g5 := within_t h4
    refine S.gb 5 (.cons (Q_call fun w hw => c_impl_TableOk w g.written pg.written (rd_of (RGuest.written (d := g) (S.arg hg)) hw) 4 8 (by omega) (by omega)) .nil) (f_tableOk g.written 4 8) (fun ac w β h6 S => ?_) (fun ac w β h6 S => ?_)
    ·have g7 := tableOk_t h6
     refine S.gb 5 (.cons (Q_call fun w hw => c_impl_TableOk w g.live pg.live (rd_of (RGuest.live (d := g) (S.arg hg)) hw) 4 8 (by omega) (by omega)) .nil) (f_tableOk g.live 4 8) (fun ac w β h8 S => ?_) (fun ac w β h8 S => ?_)
     ·have g9 := tableOk_t h8
      refine S.gb 5 (.cons (Q_call fun w hw => c_impl_CtlOk w g.ctl) .nil) (f_ctlOk g.ctl) (fun ac w β h10 S => ?_) (fun ac w β h10 S => ?_)
      ·refine S.gb 5 (.cons (Q_call fun w hw => c_impl_PendOk w g.pend) .nil) (f_within g.pend 0 255) (fun ac w β h11 S => ?_) (fun ac w β h11 S => ?_)
       ·have g12 := within_t h11
        refine S.gb 5 (.cons (Q_call fun w hw => c_impl_ExitOk w g.exit) .nil) (f_exitOk g.exit) (fun ac w β h13 S => ?_) (fun ac w β h13 S => ?_)
        ·exact S.gf 9 .nil [B (decide ((g.seen.length : Int) ≤ 40))] (retB k0_impl_GuestOk)
        exact S.gf 9 .nil [B false] (retB k0_impl_GuestOk)
       have g14 := within_f h11
       exact S.gf 14 .nil [B false] (retB k0_impl_GuestOk)
      exact S.gf 19 .nil [B false] (retB k0_impl_GuestOk)
     exact S.gf 24 .nil [B false] (retB k0_impl_GuestOk)
    exact S.gf 29 .nil [B false] (retB k0_impl_GuestOk)
   have g15 := within_f h4
   exact S.gf 34 .nil [B false] (retB k0_impl_GuestOk)
  have g16 := within_f h2
  exact S.gf 39 .nil [B false] (retB k0_impl_GuestOk)
 exact S.gf 44 .nil [B false] (retB k0_impl_GuestOk)

theorem c_impl_PageOk (w0 : World) (cells : List Int) (pcells : LP Int) (hcells : RD w0 cells pcells) : Calls Try.prog 84 [slv cells.length pcells.1].toArray w0 (fun e w' => e = .returned (B (f_pageOk cells)) ∧ Chg NoB w0 w') := by
 refine Calls.run NoB Try.func84 ?_
 intro ac β S
 have hlecells : cells.length ≤ 4194304 := LRd.le hcells
 refine S.go 14 .nil fun ac w β S => ?_
 refine lp (fun mm ac w => ∃ (k : Nat)  (u : _) (N : _) (β : _), mm = cells.length - k ∧ (k ≤ cells.length) ∧ ((cells.take k).all (fun v => f_within v 0 99) = true) ∧ St Try.prog Try.f84.ntmps w0 NoB u N β ⟨[(0, .v (slv cells.length pcells.1)), (5, .v (slv cells.length pcells.1)), (6, .v (I (cells.length : Int))), (7, .v (I (k : Int)))], []⟩ ac w) _ ⟨0, _, _, _, rfl, o0, (by simp), S.z⟩ ?_
 clear S
 rintro f1 mm hf2 ac w ⟨k, u, N, β, rfl, hk, he, S⟩
 refine S.rs fun S => ?_
 refine S.gd 6 .nil (decide ((k : Int) < (cells.length : Int))) (fun ac w β h3 g4 S => ?_) (fun ac w β h3 g4 S => ?_)
 ·refine S.gb 19 (.cons (qn (S.arg hcells) k Try.underlying24) (.cons (qx (S.arg hcells) 3 k) (.cons (Q_call fun w hw => c_impl_within w (el cells k) 0 99) .nil))) (!(f_within (el cells k) 0 99)) (fun ac w β h5 S => ?_) (fun ac w β h5 S => ?_)
  ·have h6 := not_t h5
   have g7 := within_f h6
   exact S.gf 7 .nil [B false] (retB (by clear S; (first | (unfold f_pageOk; rw [all_bad (k := k) (by omega) (by first | assumption | simp_all)]; simp; done) | (unfold f_pageOk; rw [all_end (by omega) he]; simp; done) | (unfold f_pageOk; rw [all_end (by omega) he]; simp [*]; done) | (unfold f_pageOk; rw [all_end (by omega) he]; simp; omega))))
  have h8 := not_f h5
  have g9 := within_t h8
  refine S.ge 8 (.cons (qp (k : Int) 1) .nil) f1 fun ac w β S => hf2.of (cells.length - (k + 1)) _ _ (by omega) ⟨k + 1, _, _, _, rfl, ?_, ?_, S.z⟩
  ·exact oz
  ·clear S; exact all_step (by omega) he (by first | assumption | (simp only [f_slotOk, f_within] at *; simp_all; done) | (simp_all; done) | (simp_all; omega))
 exact S.gf 15 .nil [B ((cells.length : Int) == 4)] (retB (by clear S; (first | (unfold f_pageOk; rw [all_end (by omega) he]; simp; done) | (unfold f_pageOk; rw [all_end (by omega) he]; simp [*]; done) | (unfold f_pageOk; rw [all_end (by omega) he]; simp; omega) | (unfold f_pageOk; rw [all_bad (k := k) (by omega) (by first | assumption | simp_all)]; simp; done))))

theorem c_impl_MemOk (w0 : World) (m : List (List Int)) (pm : LP (List Int)) (hm : RD w0 m pm) (pages : Int) : Calls Try.prog 44 [slv m.length pm.1, I pages].toArray w0 (fun e w' => e = .returned (B (f_memOk m pages)) ∧ Chg NoB w0 w') := by
 refine Calls.run NoB Try.func44 ?_
 intro ac β S
 have hlem : m.length ≤ 4194304 := LRd.le hm
 refine S.go 14 .nil fun ac w β S => ?_
 refine lp (fun mm ac w => ∃ (k : Nat)  (u : _) (N : _) (β : _), mm = m.length - k ∧ (k ≤ m.length) ∧ ((m.take k).all f_pageOk = true) ∧ St Try.prog Try.f44.ntmps w0 NoB u N β ⟨[(0, .v (slv m.length pm.1)), (1, .v (I pages)), (7, .v (slv m.length pm.1)), (8, .v (I (m.length : Int))), (9, .v (I (k : Int)))], []⟩ ac w) _ ⟨0, _, _, _, rfl, o0, (by simp), S.z⟩ ?_
 clear S
 rintro f1 mm hf2 ac w ⟨k, u, N, β, rfl, hk, he, S⟩
 refine S.rs fun S => ?_
 refine S.gd 6 .nil (decide ((k : Int) < (m.length : Int))) (fun ac w β h3 g4 S => ?_) (fun ac w β h3 g4 S => ?_)
 ·refine S.gb 19 (.cons (qn (S.arg hm) k Try.underlying31) (.cons (qx (S.arg hm) 24 k) (.cons (Q_call fun w hw => c_impl_PageOk w (el m k) (pm.2 k) (rd_of (LRd.el (S.arg hm) k (by omega)) hw)) .nil))) (!(f_pageOk (el m k))) (fun ac w β h5 S => ?_) (fun ac w β h5 S => ?_)
  ·have h6 := not_t h5
   exact S.gf 7 .nil [B false] (retB (by clear S; (first | (unfold f_memOk; rw [all_bad (k := k) (by omega) (by first | assumption | simp_all)]; simp; done) | (unfold f_memOk; rw [all_end (by omega) he]; simp; done) | (unfold f_memOk; rw [all_end (by omega) he]; simp [*]; done) | (unfold f_memOk; rw [all_end (by omega) he]; simp; omega))))
  have h7 := not_f h5
  refine S.ge 8 (.cons (qp (k : Int) 1) .nil) f1 fun ac w β S => hf2.of (m.length - (k + 1)) _ _ (by omega) ⟨k + 1, _, _, _, rfl, ?_, ?_, S.z⟩
  ·exact oz
  ·clear S; exact all_step (by omega) he (by first | assumption | (simp only [f_slotOk, f_within] at *; simp_all; done) | (simp_all; done) | (simp_all; omega))
 exact S.gf 16 .nil [B ((m.length : Int) == pages)] (retB (by clear S; (first | (unfold f_memOk; rw [all_end (by omega) he]; simp; done) | (unfold f_memOk; rw [all_end (by omega) he]; simp [*]; done) | (unfold f_memOk; rw [all_end (by omega) he]; simp; omega) | (unfold f_memOk; rw [all_bad (k := k) (by omega) (by first | assumption | simp_all)]; simp; done))))

theorem k1_impl_BareOk {p : Prop} (h : p := by clear S; (symm; rw [← Bool.not_eq_true]; intro hc; simp only [f_bareOk, Bool.and_eq_true, decide_eq_true_eq, beq_iff_eq] at hc; first | omega | (simp_all; done) | (simp_all; omega) | (have hx := all_el (k := k) hc.1.1.1.1 (by omega); simp_all; done))) : p := h
theorem c_impl_BareOk (w0 : World) (b : TBare) (pb : PBare) (hb : RD w0 b pb) : Calls Try.prog 124 [GT.val b pb].toArray w0 (fun e w' => e = .returned (B (f_bareOk b)) ∧ Chg NoB w0 w') := by
 refine Calls.run NoB Try.func124 ?_
 intro ac β S
 have hleb_mem : b.mem.length ≤ 4194304 := LRd.le (RBare.mem (d := b) hb)
 have hleb_guests : b.guests.length ≤ 4194304 := LRd.le (RBare.guests (d := b) hb)
 have hleb_outs : b.outs.length ≤ 4194304 := LRd.le (RBare.outs (d := b) hb)
 refine S.go 16 .nil fun ac w β S => ?_
 refine lp (fun mm ac w => ∃ (k : Nat)  (u : _) (N : _) (β : _), mm = b.guests.length - k ∧ (k ≤ b.guests.length) ∧ ((b.guests.take k).all f_guestOk = true) ∧ St Try.prog Try.f124.ntmps w0 NoB u N β ⟨[(1, .p 0 0), (6, .v (slv b.guests.length pb.guests.1)), (7, .v (I (b.guests.length : Int))), (8, .v (I (k : Int)))], [GT.cells b pb]⟩ ac w) _ ⟨0, _, _, _, rfl, o0, (by simp), S.z⟩ ?_
 clear S
 rintro f1 mm hf2 ac w ⟨k, u, N, β, rfl, hk, he, S⟩
 refine S.rs fun S => ?_
 refine S.gd 6 .nil (decide ((k : Int) < (b.guests.length : Int))) (fun ac w β h3 g4 S => ?_) (fun ac w β h3 g4 S => ?_)
 ·refine S.gb 20 (.cons (qn (RBare.guests (d := b) (S.arg hb)) k Try.underlying39) (.cons (qs (RBare.guests (d := b) (S.arg hb)) 115 k) (.cons (Q_call fun w hw => c_impl_GuestOk w (el b.guests k) (pb.guests.2 k) (rd_of (LRd.el (RBare.guests (d := b) (S.arg hb)) k (by omega)) hw)) .nil))) (!(f_guestOk (el b.guests k))) (fun ac w β h5 S => ?_) (fun ac w β h5 S => ?_)
  ·have h6 := not_t h5
   exact S.gf 7 .nil [B false] (retB k1_impl_BareOk)
  have h7 := not_f h5
  refine S.ge 8 (.cons (qp (k : Int) 1) .nil) f1 fun ac w β S => hf2.of (b.guests.length - (k + 1)) _ _ (by omega) ⟨k + 1, _, _, _, rfl, ?_, ?_, S.z⟩
  ·exact oz
  ·clear S; exact all_step (by omega) he (by first | assumption | simp_all)
 refine S.gb 12 (.cons (Q_call fun w hw => c_impl_MemOk w b.mem pb.mem (rd_of (RBare.mem (d := b) (S.arg hb)) hw) 8) .nil) (f_memOk b.mem 8) (fun ac w β h8 S => ?_) (fun ac w β h8 S => ?_)
 ·refine S.gb 6 (.cons (Q_call fun w hw => c_impl_within w (b.guests.length : Int) 1 2) .nil) (f_within (b.guests.length : Int) 1 2) (fun ac w β h9 S => ?_) (fun ac w β h9 S => ?_)
  ·have g10 := within_t h9
   refine S.gd 6 .nil (decide ((b.outs.length : Int) ≤ 40)) (fun ac w β h11 g12 S => ?_) (fun ac w β h11 g12 S => ?_)
   ·exact S.gf 8 (.cons (Q_call fun w hw => c_impl_PendOk w b.pend) .nil) [B (f_within b.pend 0 255)] (retB (by clear S; (first | rfl | (symm; rw [← Bool.not_eq_true]; intro hc; simp only [f_bareOk, Bool.and_eq_true, decide_eq_true_eq, beq_iff_eq] at hc; first | omega | (simp_all; done) | (simp_all; omega) | (have hx := all_el (k := k) hc.1.1.1.1 (by omega); simp_all; done)) | (symm; simp only [f_bareOk, Bool.and_eq_true, decide_eq_true_eq, beq_iff_eq]; (repeat' apply And.intro); all_goals first | assumption | omega | (simp_all; done) | (simp_all; omega) | (exact all_end (by omega) he)) | (rw [Bool.eq_iff_iff]; simp only [f_bareOk, Bool.and_eq_true, decide_eq_true_eq, beq_iff_eq]; refine ⟨fun hr => ?_, fun hc => ?_⟩ <;> ((repeat' apply And.intro); all_goals first | assumption | omega | (simp_all; done) | (simp_all; omega) | (exact all_end (by omega) he))))))
   exact S.gf 8 .nil [B false] (retB k1_impl_BareOk)
  have g13 := within_f h9
  exact S.gf 14 .nil [B false] (retB k1_impl_BareOk)
 exact S.gf 20 .nil [B false] (retB k1_impl_BareOk)

theorem c_impl_copyMem (w0 : World) (l : List (List Int)) (pl : LP (List Int)) (hl : RD w0 l pl) : Calls Try.prog 110 [slv l.length pl.1].toArray w0 (Ret1 NoB w0 (l : List (List Int))) := by
 refine Calls.run NoB Try.func110 ?_
 intro ac β S
 have hlel : l.length ≤ 4194304 := LRd.le hl
 refine S.go 7 .nil fun ac w β S => S.B0 (α := List Int) (d := 6) fun ac w N q1 F2 S up o3 d4 => ?_
 clear up d4
 refine S.go 12 .nil fun ac w β S => ?_
 refine lp (fun mm ac w => ∃ (k : Nat) (acc : List (List Int)) (q5 : _) (F6 : _) (u : _) (N : _) (β : _), mm = l.length - k ∧ (k ≤ l.length) ∧ (acc = l.take k) ∧ St Try.prog Try.f110.ntmps w0 NoB u N β ⟨[(3, .v (slv acc.length q5.1)), (7, .v (slv l.length pl.1)), (8, .v (I (l.length : Int))), (9, .v (I (k : Int)))], []⟩ ac w ∧ Ow w0 NoB u N F6 acc q5) _ ⟨0, ([] : List (List Int)), q1, F2, _, _, _, rfl, o0, (by simp), S.z, o3⟩ ?_
 clear S o3
 rintro f8 mm hf9 ac w ⟨k, acc, q5, F6, u, N, β, rfl, hk, hacc, S, o7⟩
 refine S.rs fun S => ?_
 have hlacc : acc.length = k := by rw [hacc]; simp; omega
 refine S.gd 6 .nil (decide ((k : Int) < (l.length : Int))) (fun ac w β h10 g11 S => ?_) (fun ac w β h10 g11 S => ?_)
 ·refine S.go 15 (.cons (qn (S.arg hl) k Try.underlying31) (.cons (qx (S.arg hl) 24 k) .nil)) fun ac w β S => S.K1 (r := (el l k)) (d := 15) (c_impl_copyInts w (el l k) (pl.2 k) (S.rd (LRd.el (S.arg hl) k (by omega)))) fun ac w N q12 F13 S up o14 d15 => ?_
  have d16 := Disj.w d15 o7.sub
  replace o7 := o7.up up
  clear up d15
  refine S.B1 (α := List Int) (x := (el l k)) (p := q12) o14.own o14.sub o14.young (d := 16) fun ac w N q17 F18 S up o19 d20 => ?_
  have d21 := d20 _ d16 o7.sub
  replace o7 := o7.up up
  clear up d20
  refine S.AO (α := List Int) o7 o19 d21 (by' := 24) (d := 17) (lx := acc.length) (ly := 1) rfl rfl (show _ ≤ 4194304 by simp only [List.length_append, List.length_cons, List.length_nil]; omega) fun ac w N q22 F23 S up o24 d25 => ?_
  clear up d25
  refine S.ge 8 (.cons (qp (k : Int) 1) .nil) f8 fun ac w β S => hf9.of (l.length - (k + 1)) _ _ (by omega) ⟨k + 1, (acc ++ [(el l k)]), q22, F23, _, _, _, rfl, ?_, ?_, S.z, o24⟩
  ·exact oz
  ·clear S; (first | (rw [take_el (by omega), hacc]; done) | (rw [take_el (by omega), hacc]; simp; done))
 refine S.gr 13 .nil [slv acc.length q5.1] fun ac w β S => ?_
 exact ret1_of S (show l = acc by clear S; (rw [hacc, take_all (by omega)])) rfl o7

theorem c_impl_copyGuests (w0 : World) (l : List TGuest) (pl : LP TGuest) (hl : RD w0 l pl) : Calls Try.prog 101 [slv l.length pl.1].toArray w0 (Ret1 NoB w0 (l : List TGuest)) := by
 refine Calls.run NoB Try.func101 ?_
 intro ac β S
 have hlel : l.length ≤ 4194304 := LRd.le hl
 refine S.go 7 .nil fun ac w β S => S.B0 (α := TGuest) (d := 6) fun ac w N q1 F2 S up o3 d4 => ?_
 clear up d4
 refine S.go 12 .nil fun ac w β S => ?_
 refine lp (fun mm ac w => ∃ (k : Nat) (acc : List TGuest) (q5 : _) (F6 : _) (u : _) (N : _) (β : _), mm = l.length - k ∧ (k ≤ l.length) ∧ (acc = l.take k) ∧ St Try.prog Try.f101.ntmps w0 NoB u N β ⟨[(3, .v (slv acc.length q5.1)), (7, .v (slv l.length pl.1)), (8, .v (I (l.length : Int))), (9, .v (I (k : Int)))], []⟩ ac w ∧ Ow w0 NoB u N F6 acc q5) _ ⟨0, ([] : List TGuest), q1, F2, _, _, _, rfl, o0, (by simp), S.z, o3⟩ ?_
 clear S o3
 rintro f8 mm hf9 ac w ⟨k, acc, q5, F6, u, N, β, rfl, hk, hacc, S, o7⟩
 refine S.rs fun S => ?_
 have hlacc : acc.length = k := by rw [hacc]; simp; omega
 refine S.gd 6 .nil (decide ((k : Int) < (l.length : Int))) (fun ac w β h10 g11 S => ?_) (fun ac w β h10 g11 S => ?_)
 ·refine S.go 16 (.cons (qn (S.arg hl) k Try.underlying39) (.cons (qs (S.arg hl) 115 k) .nil)) fun ac w β S => S.K1 (r := (el l k)) (d := 15) (c_impl_copyGuest w (el l k) (pl.2 k) (S.rd (LRd.el (S.arg hl) k (by omega)))) fun ac w N q12 F13 S up o14 d15 => ?_
  have d16 := Disj.w d15 o7.sub
  replace o7 := o7.up up
  clear up d15
  have i20 : In64 (el l k).acc := RGuest.acc (d := (el l k)) o14.rn
  have i21 : In64 (el l k).pc := RGuest.pc (d := (el l k)) o14.rn
  have i28 : RCtl (el l k).ctl := RGuest.ctl (d := (el l k)) o14.rn
  have i29 : In64 (el l k).pend := RGuest.pend (d := (el l k)) o14.rn
  have i30 : RExit (el l k).exit := RGuest.exit (d := (el l k)) o14.rn
  obtain ⟨F17, F22, F25, F31, o18, o23, o26, o32, s19, s24, s27, s33, d34, d35, d36, d37, d38, d39⟩ := sp_Guest o14
  have o44 := ow_Guest (x := (el l k)) (p := q12) o18 o23 o26 o32 d34 d35 d36 d37 d38 d39 i20 i21 i28 i29 i30
  refine S.B1 (α := TGuest) (x := (el l k)) (p := q12) o44.own o44.sub o44.young (d := 16) fun ac w N q40 F41 S up o42 d43 => ?_
  have d45 := d43 _ (Disj.symm (Disj.or (Disj.part (Disj.symm d16) s19) (Disj.or (Disj.part (Disj.symm d16) s24) (Disj.or (Disj.part (Disj.symm d16) s27) (Disj.or (Disj.part (Disj.symm d16) s33) Disj.nob))))) o7.sub
  replace o7 := o7.up up
  clear up d43
  refine S.AO (α := TGuest) o7 o42 d45 (by' := 184) (d := 17) (lx := acc.length) (ly := 1) rfl rfl (show _ ≤ 4194304 by simp only [List.length_append, List.length_cons, List.length_nil]; omega) fun ac w N q46 F47 S up o48 d49 => ?_
  clear up d49
  refine S.ge 8 (.cons (qp (k : Int) 1) .nil) f8 fun ac w β S => hf9.of (l.length - (k + 1)) _ _ (by omega) ⟨k + 1, (acc ++ [(el l k)]), q46, F47, _, _, _, rfl, ?_, ?_, S.z, o48⟩
  ·exact oz
  ·clear S; (first | (rw [take_el (by omega), hacc]; done) | (rw [take_el (by omega), hacc]; simp; done))
 refine S.gr 13 .nil [slv acc.length q5.1] fun ac w β S => ?_
 exact ret1_of S (show l = acc by clear S; (rw [hacc, take_all (by omega)])) rfl o7

theorem c_impl_copyBare (w0 : World) (b : TBare) (pb : PBare) (hb : RD w0 b pb) : Calls Try.prog 125 [GT.val b pb].toArray w0 (Ret1 NoB w0 (b : TBare)) := by
 refine Calls.run NoB Try.func125 ?_
 intro ac β S
 have hleb_mem : b.mem.length ≤ 4194304 := LRd.le (RBare.mem (d := b) hb)
 have hleb_guests : b.guests.length ≤ 4194304 := LRd.le (RBare.guests (d := b) hb)
 have hleb_outs : b.outs.length ≤ 4194304 := LRd.le (RBare.outs (d := b) hb)
 refine S.go 7 .nil fun ac w β S => ?_
 refine drw ?_
 refine S.draw0 (f := 13) 12 (by kernel_rfl) (by kernel_rfl) fun w S => ?_
 refine S.hq 0 [0] [] [(3, .p 0 0)] .nil fun ac S => ?_
 refine S.hq 1 [1] [] [(4, .v (slv b.mem.length pb.mem.1))] .nil fun ac S => ?_
 refine S.hq 3 [3] [] [(6, .p 0 1)] .nil fun ac S => ?_
 refine S.hq 4 [4] [] [(7, .v (slv b.guests.length pb.guests.1))] .nil fun ac S => ?_
 refine S.hq 6 [6] [] [(9, .p 0 2)] .nil fun ac S => ?_
 refine S.hq 7 [7] [] [(10, .v (slv b.outs.length pb.outs.1))] .nil fun ac S => ?_
 refine S.hq 9 [9] [] [(12, .p 0 3)] .nil fun ac S => ?_
 refine S.hq 10 [10] [] [(13, .v (I b.pend))] .nil fun ac S => ?_
 refine WD.one (i := 2) (by kernel_rfl) ?_
 refine id (S.k1 5 (c_impl_copyMem w b.mem pb.mem (S.rd (RBare.mem (d := b) (S.arg hb)))) fun ac w N q1 F2 S up o3 d4 => ?_)
 refine WD.next S up (by kernel_rfl) ?_
 clear up d4
 refine WD.one (i := 5) (by kernel_rfl) ?_
 refine id (S.k1 8 (c_impl_copyGuests w b.guests pb.guests (S.rd (RBare.guests (d := b) (S.arg hb)))) fun ac w N q5 F6 S up o7 d8 => ?_)
 refine WD.next S up (by kernel_rfl) ?_
 have d9 := Disj.w d8 o3.sub
 replace o3 := o3.up up
 clear up d8
 refine WD.one (i := 8) (by kernel_rfl) ?_
 refine id (S.k1 11 (c_impl_copyInts w b.outs pb.outs (S.rd (RBare.outs (d := b) (S.arg hb)))) fun ac w N q10 F11 S up o12 d13 => ?_)
 refine WD.next S up (by kernel_rfl) ?_
 have d14 := Disj.w d13 o3.sub
 have d15 := Disj.w d13 o7.sub
 replace o3 := o3.up up
 replace o7 := o7.up up
 clear up d13
 refine S.hq 11 [11] [] [(14, .v (GT.val (⟨b.mem, b.guests, b.outs, b.pend⟩ : TBare) (⟨q1, q5, q10⟩ : PBare)))] (.cons (Q_sem (s := Instr.build 97 [(0, slv b.mem.length q1.1), (1, slv b.guests.length q5.1), (2, slv b.outs.length q10.1), (3, I b.pend)].toArray) (v := .agg [slv b.mem.length q1.1, slv b.guests.length q5.1, slv b.outs.length q10.1, I b.pend].toArray) (fun w => by kernel_rfl)) .nil) fun ac S => ?_
 refine WD.one (i := 12) (by kernel_rfl) ?_
 refine S.stepq (i := 12) (keep := [2]) (m := 2) (σ' := ⟨[(2, .p 1 0)], [GT.cells b pb, [slv b.mem.length q1.1, slv b.guests.length q5.1, slv b.outs.length q10.1, I b.pend]]⟩) .nil (by kernel_rfl) fun ac w β S hβ => ?_
 refine WD.last (by kernel_rfl) ?_
 clear hβ
 refine WD.done (by kernel_rfl) ?_ _
 refine S.ex fun S => ?_
 refine S.gr 2 .nil [GT.val (⟨b.mem, b.guests, b.outs, b.pend⟩ : TBare) (⟨q1, q5, q10⟩ : PBare)] fun ac w β S => ?_
 have o16 := ow_Bare (x := (⟨b.mem, b.guests, b.outs, b.pend⟩ : TBare)) (p := (⟨q1, q5, q10⟩ : PBare)) o3 o7 o12 d9 d14 d15 (RBare.pend (d := b) (S.arg hb))
 exact ret1_of S (show b = (⟨b.mem, b.guests, b.outs, b.pend⟩ : TBare) by clear S; (first | rfl | simp)) rfl o16

theorem k0_impl_WithGuest {p : Prop} (h : p := by clear S; (unfold f_withGuest; first | (rw [if_pos (by omega)]; done) | (rw [if_neg (by omega)]; done))) : p := h
theorem c_impl_WithGuest (w0 : World) (b : TBare) (pb : PBare) (hb : RD w0 b pb) (g : Int) (x : TGuest) (px : PGuest) (hx : RD w0 x px) : Calls Try.prog 126 [GT.val b pb, I g, GT.val x px].toArray w0 (Ret1 NoB w0 (f_withGuest b g x : TBare)) := by
 refine Calls.run NoB Try.func126 ?_
 intro ac β S
 have hleb_mem : b.mem.length ≤ 4194304 := LRd.le (RBare.mem (d := b) hb)
 have hleb_guests : b.guests.length ≤ 4194304 := LRd.le (RBare.guests (d := b) hb)
 have hleb_outs : b.outs.length ≤ 4194304 := LRd.le (RBare.outs (d := b) hb)
 have hlex_prog : x.prog.length ≤ 4194304 := LRd.le (RGuest.prog (d := x) hx)
 have hlex_written : x.written.length ≤ 4194304 := LRd.le (RGuest.written (d := x) hx)
 have hlex_live : x.live.length ≤ 4194304 := LRd.le (RGuest.live (d := x) hx)
 have hlex_seen : x.seen.length ≤ 4194304 := LRd.le (RGuest.seen (d := x) hx)
 refine S.go 10 .nil fun ac w β S => S.K1 (r := b) (d := 9) (c_impl_copyBare w b pb (S.rd (S.arg hb))) fun ac w N q1 F2 S up o3 d4 => ?_
 clear up d4
 have i14 : In64 b.pend := RBare.pend (d := b) o3.rn
 obtain ⟨F5, F8, F11, o6, o9, o12, s7, s10, s13, d15, d16, d17⟩ := sp_Bare o3
 refine S.gb 14 (.cons (Q_call fun w hw => c_impl_has w g (b.guests.length : Int) (by omega)) .nil) (f_within g 0 ((b.guests.length : Int) - 1)) (fun ac w β h18 S => ?_) (fun ac w β h18 S => ?_)
 ·have g19 := within_t h18
  refine S.go 1 .nil fun ac w β S => ?_
  refine drw ?_
  refine S.draw0 (f := 7) 6 (by kernel_rfl) (by kernel_rfl) fun w S => ?_
  refine S.hq 0 [0] [] [(15, .p 3 1)] .nil fun ac S => ?_
  refine S.hq 1 [1] [] [(16, .v (slv b.guests.length q1.guests.1))] .nil fun ac S => ?_
  refine S.hq 2 [2] [] [(17, .v (I g))] .nil fun ac S => ?_
  refine S.hq 3 [3] [] [(18, .v (GT.val x px))] .nil fun ac S => ?_
  refine WD.one (i := 4) (by kernel_rfl) ?_
  refine id (S.k1 19 (c_impl_copyGuest w x px (S.rd (S.arg hx))) fun ac w N q20 F21 S up o22 d23 => ?_)
  refine WD.next S up (by kernel_rfl) ?_
  have d24 := Disj.w d23 o6.sub
  have d25 := Disj.w d23 o9.sub
  have d26 := Disj.w d23 o12.sub
  replace o6 := o6.up up
  replace o9 := o9.up up
  replace o12 := o12.up up
  clear up d23
  have i30 : In64 x.acc := RGuest.acc (d := x) o22.rn
  have i31 : In64 x.pc := RGuest.pc (d := x) o22.rn
  have i38 : RCtl x.ctl := RGuest.ctl (d := x) o22.rn
  have i39 : In64 x.pend := RGuest.pend (d := x) o22.rn
  have i40 : RExit x.exit := RGuest.exit (d := x) o22.rn
  obtain ⟨F27, F32, F35, F41, o28, o33, o36, o42, s29, s34, s37, s43, d44, d45, d46, d47, d48, d49⟩ := sp_Guest o22
  refine S.hq 5 [5] [] [(19, .v (GT.val x q20)), (20, .v (pt q1.guests.1.b (q1.guests.1.off + g.toNat * 15)))] (.cons (qt o9.rn g Try.underlying39) .nil) fun ac S => ?_
  refine WD.one (i := 6) (by kernel_rfl) ?_
  have o54 := ow_Guest (x := x) (p := q20) o28 o33 o36 o42 d44 d45 d46 d47 d48 d49 i30 i31 i38 i39 i40
  refine id (S.sV (α := TGuest) o9 (t := 115) (k := g.toNat) (off := q1.guests.1.off + g.toNat * 15) o54 (Disj.symm (Disj.or (Disj.part (Disj.symm d25) s29) (Disj.or (Disj.part (Disj.symm d25) s34) (Disj.or (Disj.part (Disj.symm d25) s37) (Disj.or (Disj.part (Disj.symm d25) s43) Disj.nob))))) fun w N F51 q52 S up o50 d53 s55 n56 => ?_)
  refine WD.last (by kernel_rfl) ?_
  have d57 := d53 _ d15 (Disj.symm (Disj.or (Disj.part (Disj.symm d24) s29) (Disj.or (Disj.part (Disj.symm d24) s34) (Disj.or (Disj.part (Disj.symm d24) s37) (Disj.or (Disj.part (Disj.symm d24) s43) Disj.nob))))) o6.sub
  have d58 := d53 _ (Disj.symm d17) (Disj.symm (Disj.or (Disj.part (Disj.symm d26) s29) (Disj.or (Disj.part (Disj.symm d26) s34) (Disj.or (Disj.part (Disj.symm d26) s37) (Disj.or (Disj.part (Disj.symm d26) s43) Disj.nob))))) o12.sub
  replace o6 := o6.upF d15 up
  replace o12 := o12.upF (Disj.symm d17) up
  clear up d53 o9 n56
  have l59 : (b.guests.set g.toNat x).length = b.guests.length := List.length_set
  replace S := S.z (σ' := ⟨[(6, .p 2 0), (7, .p 3 0), (19, .v (GT.val x q20)), (20, .v (pt q1.guests.1.b (q1.guests.1.off + g.toNat * 15)))], [GT.cells b pb, GT.cells x px, Zc TBare, [slv b.mem.length q1.mem.1, slv b.guests.length q1.guests.1, slv b.outs.length q1.outs.1, I b.pend]]⟩)
  replace S := S.cast (σ' := ⟨[(6, .p 2 0), (7, .p 3 0), (19, .v (GT.val x q20)), (20, .v (pt q1.guests.1.b (q1.guests.1.off + g.toNat * 15)))], [GT.cells b pb, GT.cells x px, Zc TBare, [slv b.mem.length q1.mem.1, slv (b.guests.set g.toNat x).length q1.guests.1, slv b.outs.length q1.outs.1, I b.pend]]⟩) (by rw [show (b.guests.set g.toNat x).length = b.guests.length by omega])
  refine WD.done (by kernel_rfl) ?_ _
  refine S.ex fun S => ?_
  refine S.gr 8 .nil [GT.val (⟨b.mem, (b.guests.set g.toNat x), b.outs, b.pend⟩ : TBare) (⟨q1.mem, (q1.guests.1, q52), q1.outs⟩ : PBare)] fun ac w β S => ?_
  have o60 := ow_Bare (x := (⟨b.mem, (b.guests.set g.toNat x), b.outs, b.pend⟩ : TBare)) (p := (⟨q1.mem, (q1.guests.1, q52), q1.outs⟩ : PBare)) o6 o50 o12 d57 d16 (Disj.symm d58) i14
  exact ret1_of S (show f_withGuest b g x = (⟨b.mem, (b.guests.set g.toNat x), b.outs, b.pend⟩ : TBare) from k0_impl_WithGuest) rfl o60
 have g61 := within_f h18
 refine S.gr 10 .nil [GT.val b q1] fun ac w β S => ?_
 have o62 := ow_Bare (x := b) (p := q1) o6 o9 o12 d15 d16 d17 i14
 exact ret1_of S (show f_withGuest b g x = b from k0_impl_WithGuest) rfl o62

theorem k0_impl_changed_impl_BareSet_1 {p : Prop} (h : p := by clear S; (first | (unfold f_changed; rw [if_neg (by rintro ⟨h1, h2, h3⟩; first | omega | simp_all)]; done) | ((have hg := guestAt_t (by assumption)); unfold f_changed f_withGuest; rw [if_pos ⟨by assumption, hg, by first | assumption | rfl⟩, if_pos hg, guestAt_1 hg]; done))) : p := h
theorem k1_impl_changed_impl_BareSet_1 {p : Prop} (h : p := by clear S; (first | (unfold f_changed; rw [if_neg (by rintro ⟨h1, h2, h3⟩; first | omega | simp_all)]; done) | ((have hg := guestAt_t (by assumption)); unfold f_changed; rw [if_pos ⟨by assumption, hg, by first | assumption | rfl⟩]; done))) : p := h
theorem c_impl_changed_impl_BareSet_1 (w0 : World) (b : TBare) (pb : PBare) (hb : RD w0 b pb) (g : Int) (condition : Bool) (page : Int) (qpage : LP Int) (hpage : RD w0 [page] qpage) (s : TSlot) (qs : LP TSlot) (hs : RD w0 [s] qs) : Calls Try.prog 102 [GT.val b pb, I g, B condition, .func (.func 104) #[] #[pt qpage.1.b (qpage.1.off + 0 * 1), pt qs.1.b (qs.1.off + 0 * 2)]].toArray w0 (Ret2 NoB w0 ((f_changed b g condition (fun x => ({ x with written := f_withSlot x.written page s } : TGuest))).1 : TBare) ((f_changed b g condition (fun x => ({ x with written := f_withSlot x.written page s } : TGuest))).2 : Bool)) := by
 refine Calls.run NoB Try.func102 ?_
 intro ac β S
 have hleb_mem : b.mem.length ≤ 4194304 := LRd.le (RBare.mem (d := b) hb)
 have hleb_guests : b.guests.length ≤ 4194304 := LRd.le (RBare.guests (d := b) hb)
 have hleb_outs : b.outs.length ≤ 4194304 := LRd.le (RBare.outs (d := b) hb)
 refine S.go 11 .nil fun ac w β S => S.K2 (r := (f_guestAt b g).1) (r' := (f_guestAt b g).2) (d := 15) (c_impl_GuestAt w b pb (S.rd (S.arg hb)) g) fun ac w N q1 q2 F3 F4 S up o5 o6 d7 d8 d9 => ?_
 clear up d7
 clear d8
 have i13 : In64 (f_guestAt b g).1.acc := RGuest.acc (d := (f_guestAt b g).1) o5.rn
 have i14 : In64 (f_guestAt b g).1.pc := RGuest.pc (d := (f_guestAt b g).1) o5.rn
 have i21 : RCtl (f_guestAt b g).1.ctl := RGuest.ctl (d := (f_guestAt b g).1) o5.rn
 have i22 : In64 (f_guestAt b g).1.pend := RGuest.pend (d := (f_guestAt b g).1) o5.rn
 have i23 : RExit (f_guestAt b g).1.exit := RGuest.exit (d := (f_guestAt b g).1) o5.rn
 obtain ⟨F10, F15, F18, F24, o11, o16, o19, o25, s12, s17, s20, s26, d27, d28, d29, d30, d31, d32⟩ := sp_Guest o5
 refine S.gb 15 (.cons (Q_call fun w hw => c_impl_BareOk w b pb (rd_of (S.arg hb) hw)) .nil) (!(f_bareOk b)) (fun ac w β h33 S => ?_) (fun ac w β h33 S => ?_)
 ·have h34 := not_t h33
  refine S.go 13 .nil fun ac w β S => S.K1 (r := b) (d := 30) (c_impl_copyBare w b pb (S.rd (S.arg hb))) fun ac w N q35 F36 S up o37 d38 => ?_
  clear up d38
  have i48 : In64 b.pend := RBare.pend (d := b) o37.rn
  obtain ⟨F39, F42, F45, o40, o43, o46, s41, s44, s47, d49, d50, d51⟩ := sp_Bare o37
  refine S.gr 5 .nil [GT.val b q35, B false] fun ac w β S => ?_
  have o52 := ow_Bare (x := b) (p := q35) o40 o43 o46 d49 d50 d51 i48
  exact ret2_of (p' := ()) S (show (f_changed b g condition (fun x => ({ x with written := f_withSlot x.written page s } : TGuest))).1 = b from k0_impl_changed_impl_BareSet_1) (show (f_changed b g condition (fun x => ({ x with written := f_withSlot x.written page s } : TGuest))).2 = false from k1_impl_changed_impl_BareSet_1) rfl rfl o52 trivial
 have h53 := not_f h33
 have g54 := bareOk_t h53
 refine S.gb 4 .nil (!(f_guestAt b g).2) (fun ac w β h55 S => ?_) (fun ac w β h55 S => ?_)
 ·have h56 := not_t h55
  have g57 := guestAt_f h56
  refine S.go 9 .nil fun ac w β S => S.K1 (r := b) (d := 30) (c_impl_copyBare w b pb (S.rd (S.arg hb))) fun ac w N q58 F59 S up o60 d61 => ?_
  clear up d61
  have i71 : In64 b.pend := RBare.pend (d := b) o60.rn
  obtain ⟨F62, F65, F68, o63, o66, o69, s64, s67, s70, d72, d73, d74⟩ := sp_Bare o60
  refine S.gr 5 .nil [GT.val b q58, B false] fun ac w β S => ?_
  have o75 := ow_Bare (x := b) (p := q58) o63 o66 o69 d72 d73 d74 i71
  exact ret2_of (p' := ()) S (show (f_changed b g condition (fun x => ({ x with written := f_withSlot x.written page s } : TGuest))).1 = b from k0_impl_changed_impl_BareSet_1) (show (f_changed b g condition (fun x => ({ x with written := f_withSlot x.written page s } : TGuest))).2 = false from k1_impl_changed_impl_BareSet_1) rfl rfl o75 trivial
 have h76 := not_f h55
 have g77 := guestAt_t h76
 refine S.gb 5 .nil (!condition) (fun ac w β h78 S => ?_) (fun ac w β h78 S => ?_)
 ·have h79 := not_t h78
  refine S.go 4 .nil fun ac w β S => S.K1 (r := b) (d := 30) (c_impl_copyBare w b pb (S.rd (S.arg hb))) fun ac w N q80 F81 S up o82 d83 => ?_
  clear up d83
  have i93 : In64 b.pend := RBare.pend (d := b) o82.rn
  obtain ⟨F84, F87, F90, o85, o88, o91, s86, s89, s92, d94, d95, d96⟩ := sp_Bare o82
  refine S.gr 5 .nil [GT.val b q80, B false] fun ac w β S => ?_
  have o97 := ow_Bare (x := b) (p := q80) o85 o88 o91 d94 d95 d96 i93
  exact ret2_of (p' := ()) S (show (f_changed b g condition (fun x => ({ x with written := f_withSlot x.written page s } : TGuest))).1 = b from k0_impl_changed_impl_BareSet_1) (show (f_changed b g condition (fun x => ({ x with written := f_withSlot x.written page s } : TGuest))).2 = false from k1_impl_changed_impl_BareSet_1) rfl rfl o97 trivial
 have h98 := not_f h78
 refine S.go 4 .nil fun ac w β S => ?_
 refine drw ?_
 refine S.draw0 (f := 8) 6 (by kernel_rfl) (by kernel_rfl) fun w S => ?_
 refine S.hq 0 [0] [] [(31, .v (GT.val b pb))] .nil fun ac S => ?_
 refine S.hq 1 [1] [] [(32, .v (I g))] .nil fun ac S => ?_
 refine S.hq 2 [2] [] [(33, .v (.func (.func 104) #[] #[pt qpage.1.b (qpage.1.off + 0 * 1), pt qs.1.b (qs.1.off + 0 * 2)]))] .nil fun ac S => ?_
 refine S.hq 3 [3] [] [(34, .v (GT.val (f_guestAt b g).1 q1))] .nil fun ac S => ?_
 refine WD.one (i := 4) (by kernel_rfl) ?_
 have o99 := ow_Guest (x := (f_guestAt b g).1) (p := q1) o11 o16 o19 o25 d27 d28 d29 d30 d31 d32 i13 i14 i21 i22 i23
 refine id (S.callT0 (r := ({ (f_guestAt b g).1 with written := f_withSlot (f_guestAt b g).1.written page s } : TGuest)) (d := 35) o99 (c_impl_BareSet_1 w (f_guestAt b g).1 q1 (uniB [F10, F15, F18, F24]) (S.ownw o99) (fun b hb => (S.sep b (o99.sub b hb)).1) page qpage (S.rd (S.arg hpage)) s qs (S.rd (S.arg hs))) fun ac w N q100 F101 S up o102 d103  => ?_)
 refine WD.next S up (by kernel_rfl) ?_
 clear up d103 o99
 have i107 : In64 ({ (f_guestAt b g).1 with written := f_withSlot (f_guestAt b g).1.written page s } : TGuest).acc := RGuest.acc (d := ({ (f_guestAt b g).1 with written := f_withSlot (f_guestAt b g).1.written page s } : TGuest)) o102.rn
 have i108 : In64 ({ (f_guestAt b g).1 with written := f_withSlot (f_guestAt b g).1.written page s } : TGuest).pc := RGuest.pc (d := ({ (f_guestAt b g).1 with written := f_withSlot (f_guestAt b g).1.written page s } : TGuest)) o102.rn
 have i115 : RCtl ({ (f_guestAt b g).1 with written := f_withSlot (f_guestAt b g).1.written page s } : TGuest).ctl := RGuest.ctl (d := ({ (f_guestAt b g).1 with written := f_withSlot (f_guestAt b g).1.written page s } : TGuest)) o102.rn
 have i116 : In64 ({ (f_guestAt b g).1 with written := f_withSlot (f_guestAt b g).1.written page s } : TGuest).pend := RGuest.pend (d := ({ (f_guestAt b g).1 with written := f_withSlot (f_guestAt b g).1.written page s } : TGuest)) o102.rn
 have i117 : RExit ({ (f_guestAt b g).1 with written := f_withSlot (f_guestAt b g).1.written page s } : TGuest).exit := RGuest.exit (d := ({ (f_guestAt b g).1 with written := f_withSlot (f_guestAt b g).1.written page s } : TGuest)) o102.rn
 obtain ⟨F104, F109, F112, F118, o105, o110, o113, o119, s106, s111, s114, s120, d121, d122, d123, d124, d125, d126⟩ := sp_Guest o102
 refine WD.one (i := 5) (by kernel_rfl) ?_
 refine id (S.k1 36 (c_impl_WithGuest w b pb (S.rd (S.arg hb)) g ({ (f_guestAt b g).1 with written := f_withSlot (f_guestAt b g).1.written page s } : TGuest) q100 (S.rd (show GT.rd KK _ _ ({ (f_guestAt b g).1 with written := f_withSlot (f_guestAt b g).1.written page s } : TGuest) q100 from ⟨o105.rn, i107, i108, o110.rn, o113.rn, i115, i116, i117, o119.rn⟩))) fun ac w N q127 F128 S up o129 d130 => ?_)
 refine WD.next S up (by kernel_rfl) ?_
 have d131 := Disj.w d130 o105.sub
 have d132 := Disj.w d130 o110.sub
 have d133 := Disj.w d130 o113.sub
 have d134 := Disj.w d130 o119.sub
 replace o105 := o105.up up
 replace o110 := o110.up up
 replace o113 := o113.up up
 replace o119 := o119.up up
 clear up d130
 have i144 : In64 (f_withGuest b g ({ (f_guestAt b g).1 with written := f_withSlot (f_guestAt b g).1.written page s } : TGuest)).pend := RBare.pend (d := (f_withGuest b g ({ (f_guestAt b g).1 with written := f_withSlot (f_guestAt b g).1.written page s } : TGuest))) o129.rn
 obtain ⟨F135, F138, F141, o136, o139, o142, s137, s140, s143, d145, d146, d147⟩ := sp_Bare o129
 refine WD.one (i := 6) (by kernel_rfl) ?_
 refine S.stepq (i := 6) (keep := [8]) (m := 3) (σ' := ⟨[(8, .p 1 0)], [GT.cells b pb, [slv (f_withGuest b g ({ (f_guestAt b g).1 with written := f_withSlot (f_guestAt b g).1.written page s } : TGuest)).mem.length q127.mem.1, slv (f_withGuest b g ({ (f_guestAt b g).1 with written := f_withSlot (f_guestAt b g).1.written page s } : TGuest)).guests.length q127.guests.1, slv (f_withGuest b g ({ (f_guestAt b g).1 with written := f_withSlot (f_guestAt b g).1.written page s } : TGuest)).outs.length q127.outs.1, I (f_withGuest b g ({ (f_guestAt b g).1 with written := f_withSlot (f_guestAt b g).1.written page s } : TGuest)).pend], [slv (f_guestAt b g).1.prog.length q1.prog.1, I (f_guestAt b g).1.acc, I (f_guestAt b g).1.pc, slv (f_guestAt b g).1.written.length q1.written.1, slv (f_guestAt b g).1.live.length q1.live.1, I (f_guestAt b g).1.ctl.traps, I (f_guestAt b g).1.ctl.post, B (f_guestAt b g).1.ctl.opn, I (f_guestAt b g).1.pend, I (f_guestAt b g).1.exit.kind, I (f_guestAt b g).1.exit.page, B (f_guestAt b g).1.exit.wr, I (f_guestAt b g).1.exit.n, B (f_guestAt b g).1.halted, slv (f_guestAt b g).1.seen.length q1.seen.1]]⟩) .nil (by kernel_rfl) fun ac w β S hβ => ?_
 refine WD.last (by kernel_rfl) ?_
 clear hβ
 refine WD.one (i := 7) (by kernel_rfl) ?_
 refine S.stepq (i := 7) (keep := [8, 9]) (m := 3) (σ' := ⟨[(8, .p 1 0), (9, .v (B true))], [GT.cells b pb, [slv (f_withGuest b g ({ (f_guestAt b g).1 with written := f_withSlot (f_guestAt b g).1.written page s } : TGuest)).mem.length q127.mem.1, slv (f_withGuest b g ({ (f_guestAt b g).1 with written := f_withSlot (f_guestAt b g).1.written page s } : TGuest)).guests.length q127.guests.1, slv (f_withGuest b g ({ (f_guestAt b g).1 with written := f_withSlot (f_guestAt b g).1.written page s } : TGuest)).outs.length q127.outs.1, I (f_withGuest b g ({ (f_guestAt b g).1 with written := f_withSlot (f_guestAt b g).1.written page s } : TGuest)).pend], [slv (f_guestAt b g).1.prog.length q1.prog.1, I (f_guestAt b g).1.acc, I (f_guestAt b g).1.pc, slv (f_guestAt b g).1.written.length q1.written.1, slv (f_guestAt b g).1.live.length q1.live.1, I (f_guestAt b g).1.ctl.traps, I (f_guestAt b g).1.ctl.post, B (f_guestAt b g).1.ctl.opn, I (f_guestAt b g).1.pend, I (f_guestAt b g).1.exit.kind, I (f_guestAt b g).1.exit.page, B (f_guestAt b g).1.exit.wr, I (f_guestAt b g).1.exit.n, B (f_guestAt b g).1.halted, slv (f_guestAt b g).1.seen.length q1.seen.1]]⟩) .nil (by kernel_rfl) fun ac w β S hβ => ?_
 refine WD.last (by kernel_rfl) ?_
 clear hβ
 refine WD.done (by kernel_rfl) ?_ _
 refine S.ex fun S => ?_
 refine S.gr 2 .nil [GT.val (f_withGuest b g ({ (f_guestAt b g).1 with written := f_withSlot (f_guestAt b g).1.written page s } : TGuest)) q127, B true] fun ac w β S => ?_
 have o148 := ow_Bare (x := (f_withGuest b g ({ (f_guestAt b g).1 with written := f_withSlot (f_guestAt b g).1.written page s } : TGuest))) (p := q127) o136 o139 o142 d145 d146 d147 i144
 exact ret2_of (p' := ()) S (show (f_changed b g condition (fun x => ({ x with written := f_withSlot x.written page s } : TGuest))).1 = (f_withGuest b g ({ (f_guestAt b g).1 with written := f_withSlot (f_guestAt b g).1.written page s } : TGuest)) from k0_impl_changed_impl_BareSet_1) (show (f_changed b g condition (fun x => ({ x with written := f_withSlot x.written page s } : TGuest))).2 = true from k1_impl_changed_impl_BareSet_1) rfl rfl o148 trivial

theorem k0_impl_changed_impl_BareFlush_1 {p : Prop} (h : p := by clear S; (first | (unfold f_changed; rw [if_neg (by rintro ⟨h1, h2, h3⟩; first | omega | simp_all)]; done) | ((have hg := guestAt_t (by assumption)); unfold f_changed f_withGuest; rw [if_pos ⟨by assumption, hg, by first | assumption | rfl⟩, if_pos hg, guestAt_1 hg]; done))) : p := h
theorem k1_impl_changed_impl_BareFlush_1 {p : Prop} (h : p := by clear S; (first | (unfold f_changed; rw [if_neg (by rintro ⟨h1, h2, h3⟩; first | omega | simp_all)]; done) | ((have hg := guestAt_t (by assumption)); unfold f_changed; rw [if_pos ⟨by assumption, hg, by first | assumption | rfl⟩]; done))) : p := h
theorem c_impl_changed_impl_BareFlush_1 (w0 : World) (b : TBare) (pb : PBare) (hb : RD w0 b pb) (g : Int) (condition : Bool) (page : Int) (qpage : LP Int) (hpage : RD w0 [page] qpage) : Calls Try.prog 102 [GT.val b pb, I g, B condition, .func (.func 106) #[] #[pt qpage.1.b (qpage.1.off + 0 * 1)]].toArray w0 (Ret2 NoB w0 ((f_changed b g condition (fun x => ({ x with live := f_withSlot x.live page (f_slotAt x.written page) } : TGuest))).1 : TBare) ((f_changed b g condition (fun x => ({ x with live := f_withSlot x.live page (f_slotAt x.written page) } : TGuest))).2 : Bool)) := by
 refine Calls.run NoB Try.func102 ?_
 intro ac β S
 have hleb_mem : b.mem.length ≤ 4194304 := LRd.le (RBare.mem (d := b) hb)
 have hleb_guests : b.guests.length ≤ 4194304 := LRd.le (RBare.guests (d := b) hb)
 have hleb_outs : b.outs.length ≤ 4194304 := LRd.le (RBare.outs (d := b) hb)
 refine S.go 11 .nil fun ac w β S => S.K2 (r := (f_guestAt b g).1) (r' := (f_guestAt b g).2) (d := 15) (c_impl_GuestAt w b pb (S.rd (S.arg hb)) g) fun ac w N q1 q2 F3 F4 S up o5 o6 d7 d8 d9 => ?_
 clear up d7
 clear d8
 have i13 : In64 (f_guestAt b g).1.acc := RGuest.acc (d := (f_guestAt b g).1) o5.rn
 have i14 : In64 (f_guestAt b g).1.pc := RGuest.pc (d := (f_guestAt b g).1) o5.rn
 have i21 : RCtl (f_guestAt b g).1.ctl := RGuest.ctl (d := (f_guestAt b g).1) o5.rn
 have i22 : In64 (f_guestAt b g).1.pend := RGuest.pend (d := (f_guestAt b g).1) o5.rn
 have i23 : RExit (f_guestAt b g).1.exit := RGuest.exit (d := (f_guestAt b g).1) o5.rn
 obtain ⟨F10, F15, F18, F24, o11, o16, o19, o25, s12, s17, s20, s26, d27, d28, d29, d30, d31, d32⟩ := sp_Guest o5
 refine S.gb 15 (.cons (Q_call fun w hw => c_impl_BareOk w b pb (rd_of (S.arg hb) hw)) .nil) (!(f_bareOk b)) (fun ac w β h33 S => ?_) (fun ac w β h33 S => ?_)
 ·have h34 := not_t h33
  refine S.go 13 .nil fun ac w β S => S.K1 (r := b) (d := 30) (c_impl_copyBare w b pb (S.rd (S.arg hb))) fun ac w N q35 F36 S up o37 d38 => ?_
  clear up d38
  have i48 : In64 b.pend := RBare.pend (d := b) o37.rn
  obtain ⟨F39, F42, F45, o40, o43, o46, s41, s44, s47, d49, d50, d51⟩ := sp_Bare o37
  refine S.gr 5 .nil [GT.val b q35, B false] fun ac w β S => ?_
  have o52 := ow_Bare (x := b) (p := q35) o40 o43 o46 d49 d50 d51 i48
  exact ret2_of (p' := ()) S (show (f_changed b g condition (fun x => ({ x with live := f_withSlot x.live page (f_slotAt x.written page) } : TGuest))).1 = b from k0_impl_changed_impl_BareFlush_1) (show (f_changed b g condition (fun x => ({ x with live := f_withSlot x.live page (f_slotAt x.written page) } : TGuest))).2 = false from k1_impl_changed_impl_BareFlush_1) rfl rfl o52 trivial
 have h53 := not_f h33
 have g54 := bareOk_t h53
 refine S.gb 4 .nil (!(f_guestAt b g).2) (fun ac w β h55 S => ?_) (fun ac w β h55 S => ?_)
 ·have h56 := not_t h55
  have g57 := guestAt_f h56
  refine S.go 9 .nil fun ac w β S => S.K1 (r := b) (d := 30) (c_impl_copyBare w b pb (S.rd (S.arg hb))) fun ac w N q58 F59 S up o60 d61 => ?_
  clear up d61
  have i71 : In64 b.pend := RBare.pend (d := b) o60.rn
  obtain ⟨F62, F65, F68, o63, o66, o69, s64, s67, s70, d72, d73, d74⟩ := sp_Bare o60
  refine S.gr 5 .nil [GT.val b q58, B false] fun ac w β S => ?_
  have o75 := ow_Bare (x := b) (p := q58) o63 o66 o69 d72 d73 d74 i71
  exact ret2_of (p' := ()) S (show (f_changed b g condition (fun x => ({ x with live := f_withSlot x.live page (f_slotAt x.written page) } : TGuest))).1 = b from k0_impl_changed_impl_BareFlush_1) (show (f_changed b g condition (fun x => ({ x with live := f_withSlot x.live page (f_slotAt x.written page) } : TGuest))).2 = false from k1_impl_changed_impl_BareFlush_1) rfl rfl o75 trivial
 have h76 := not_f h55
 have g77 := guestAt_t h76
 refine S.gb 5 .nil (!condition) (fun ac w β h78 S => ?_) (fun ac w β h78 S => ?_)
 ·have h79 := not_t h78
  refine S.go 4 .nil fun ac w β S => S.K1 (r := b) (d := 30) (c_impl_copyBare w b pb (S.rd (S.arg hb))) fun ac w N q80 F81 S up o82 d83 => ?_
  clear up d83
  have i93 : In64 b.pend := RBare.pend (d := b) o82.rn
  obtain ⟨F84, F87, F90, o85, o88, o91, s86, s89, s92, d94, d95, d96⟩ := sp_Bare o82
  refine S.gr 5 .nil [GT.val b q80, B false] fun ac w β S => ?_
  have o97 := ow_Bare (x := b) (p := q80) o85 o88 o91 d94 d95 d96 i93
  exact ret2_of (p' := ()) S (show (f_changed b g condition (fun x => ({ x with live := f_withSlot x.live page (f_slotAt x.written page) } : TGuest))).1 = b from k0_impl_changed_impl_BareFlush_1) (show (f_changed b g condition (fun x => ({ x with live := f_withSlot x.live page (f_slotAt x.written page) } : TGuest))).2 = false from k1_impl_changed_impl_BareFlush_1) rfl rfl o97 trivial
 have h98 := not_f h78
 refine S.go 4 .nil fun ac w β S => ?_
 refine drw ?_
 refine S.draw0 (f := 8) 6 (by kernel_rfl) (by kernel_rfl) fun w S => ?_
 refine S.hq 0 [0] [] [(31, .v (GT.val b pb))] .nil fun ac S => ?_
 refine S.hq 1 [1] [] [(32, .v (I g))] .nil fun ac S => ?_
 refine S.hq 2 [2] [] [(33, .v (.func (.func 106) #[] #[pt qpage.1.b (qpage.1.off + 0 * 1)]))] .nil fun ac S => ?_
 refine S.hq 3 [3] [] [(34, .v (GT.val (f_guestAt b g).1 q1))] .nil fun ac S => ?_
 refine WD.one (i := 4) (by kernel_rfl) ?_
 have o99 := ow_Guest (x := (f_guestAt b g).1) (p := q1) o11 o16 o19 o25 d27 d28 d29 d30 d31 d32 i13 i14 i21 i22 i23
 refine id (S.callT0 (r := ({ (f_guestAt b g).1 with live := f_withSlot (f_guestAt b g).1.live page (f_slotAt (f_guestAt b g).1.written page) } : TGuest)) (d := 35) o99 (c_impl_BareFlush_1 w (f_guestAt b g).1 q1 (uniB [F10, F15, F18, F24]) (S.ownw o99) (fun b hb => (S.sep b (o99.sub b hb)).1) page qpage (S.rd (S.arg hpage))) fun ac w N q100 F101 S up o102 d103  => ?_)
 refine WD.next S up (by kernel_rfl) ?_
 clear up d103 o99
 have i107 : In64 ({ (f_guestAt b g).1 with live := f_withSlot (f_guestAt b g).1.live page (f_slotAt (f_guestAt b g).1.written page) } : TGuest).acc := RGuest.acc (d := ({ (f_guestAt b g).1 with live := f_withSlot (f_guestAt b g).1.live page (f_slotAt (f_guestAt b g).1.written page) } : TGuest)) o102.rn
 have i108 : In64 ({ (f_guestAt b g).1 with live := f_withSlot (f_guestAt b g).1.live page (f_slotAt (f_guestAt b g).1.written page) } : TGuest).pc := RGuest.pc (d := ({ (f_guestAt b g).1 with live := f_withSlot (f_guestAt b g).1.live page (f_slotAt (f_guestAt b g).1.written page) } : TGuest)) o102.rn
 have i115 : RCtl ({ (f_guestAt b g).1 with live := f_withSlot (f_guestAt b g).1.live page (f_slotAt (f_guestAt b g).1.written page) } : TGuest).ctl := RGuest.ctl (d := ({ (f_guestAt b g).1 with live := f_withSlot (f_guestAt b g).1.live page (f_slotAt (f_guestAt b g).1.written page) } : TGuest)) o102.rn
 have i116 : In64 ({ (f_guestAt b g).1 with live := f_withSlot (f_guestAt b g).1.live page (f_slotAt (f_guestAt b g).1.written page) } : TGuest).pend := RGuest.pend (d := ({ (f_guestAt b g).1 with live := f_withSlot (f_guestAt b g).1.live page (f_slotAt (f_guestAt b g).1.written page) } : TGuest)) o102.rn
 have i117 : RExit ({ (f_guestAt b g).1 with live := f_withSlot (f_guestAt b g).1.live page (f_slotAt (f_guestAt b g).1.written page) } : TGuest).exit := RGuest.exit (d := ({ (f_guestAt b g).1 with live := f_withSlot (f_guestAt b g).1.live page (f_slotAt (f_guestAt b g).1.written page) } : TGuest)) o102.rn
 obtain ⟨F104, F109, F112, F118, o105, o110, o113, o119, s106, s111, s114, s120, d121, d122, d123, d124, d125, d126⟩ := sp_Guest o102
 refine WD.one (i := 5) (by kernel_rfl) ?_
 refine id (S.k1 36 (c_impl_WithGuest w b pb (S.rd (S.arg hb)) g ({ (f_guestAt b g).1 with live := f_withSlot (f_guestAt b g).1.live page (f_slotAt (f_guestAt b g).1.written page) } : TGuest) q100 (S.rd (show GT.rd KK _ _ ({ (f_guestAt b g).1 with live := f_withSlot (f_guestAt b g).1.live page (f_slotAt (f_guestAt b g).1.written page) } : TGuest) q100 from ⟨o105.rn, i107, i108, o110.rn, o113.rn, i115, i116, i117, o119.rn⟩))) fun ac w N q127 F128 S up o129 d130 => ?_)
 refine WD.next S up (by kernel_rfl) ?_
 have d131 := Disj.w d130 o105.sub
 have d132 := Disj.w d130 o110.sub
 have d133 := Disj.w d130 o113.sub
 have d134 := Disj.w d130 o119.sub
 replace o105 := o105.up up
 replace o110 := o110.up up
 replace o113 := o113.up up
 replace o119 := o119.up up
 clear up d130
 have i144 : In64 (f_withGuest b g ({ (f_guestAt b g).1 with live := f_withSlot (f_guestAt b g).1.live page (f_slotAt (f_guestAt b g).1.written page) } : TGuest)).pend := RBare.pend (d := (f_withGuest b g ({ (f_guestAt b g).1 with live := f_withSlot (f_guestAt b g).1.live page (f_slotAt (f_guestAt b g).1.written page) } : TGuest))) o129.rn
 obtain ⟨F135, F138, F141, o136, o139, o142, s137, s140, s143, d145, d146, d147⟩ := sp_Bare o129
 refine WD.one (i := 6) (by kernel_rfl) ?_
 refine S.stepq (i := 6) (keep := [8]) (m := 3) (σ' := ⟨[(8, .p 1 0)], [GT.cells b pb, [slv (f_withGuest b g ({ (f_guestAt b g).1 with live := f_withSlot (f_guestAt b g).1.live page (f_slotAt (f_guestAt b g).1.written page) } : TGuest)).mem.length q127.mem.1, slv (f_withGuest b g ({ (f_guestAt b g).1 with live := f_withSlot (f_guestAt b g).1.live page (f_slotAt (f_guestAt b g).1.written page) } : TGuest)).guests.length q127.guests.1, slv (f_withGuest b g ({ (f_guestAt b g).1 with live := f_withSlot (f_guestAt b g).1.live page (f_slotAt (f_guestAt b g).1.written page) } : TGuest)).outs.length q127.outs.1, I (f_withGuest b g ({ (f_guestAt b g).1 with live := f_withSlot (f_guestAt b g).1.live page (f_slotAt (f_guestAt b g).1.written page) } : TGuest)).pend], [slv (f_guestAt b g).1.prog.length q1.prog.1, I (f_guestAt b g).1.acc, I (f_guestAt b g).1.pc, slv (f_guestAt b g).1.written.length q1.written.1, slv (f_guestAt b g).1.live.length q1.live.1, I (f_guestAt b g).1.ctl.traps, I (f_guestAt b g).1.ctl.post, B (f_guestAt b g).1.ctl.opn, I (f_guestAt b g).1.pend, I (f_guestAt b g).1.exit.kind, I (f_guestAt b g).1.exit.page, B (f_guestAt b g).1.exit.wr, I (f_guestAt b g).1.exit.n, B (f_guestAt b g).1.halted, slv (f_guestAt b g).1.seen.length q1.seen.1]]⟩) .nil (by kernel_rfl) fun ac w β S hβ => ?_
 refine WD.last (by kernel_rfl) ?_
 clear hβ
 refine WD.one (i := 7) (by kernel_rfl) ?_
 refine S.stepq (i := 7) (keep := [8, 9]) (m := 3) (σ' := ⟨[(8, .p 1 0), (9, .v (B true))], [GT.cells b pb, [slv (f_withGuest b g ({ (f_guestAt b g).1 with live := f_withSlot (f_guestAt b g).1.live page (f_slotAt (f_guestAt b g).1.written page) } : TGuest)).mem.length q127.mem.1, slv (f_withGuest b g ({ (f_guestAt b g).1 with live := f_withSlot (f_guestAt b g).1.live page (f_slotAt (f_guestAt b g).1.written page) } : TGuest)).guests.length q127.guests.1, slv (f_withGuest b g ({ (f_guestAt b g).1 with live := f_withSlot (f_guestAt b g).1.live page (f_slotAt (f_guestAt b g).1.written page) } : TGuest)).outs.length q127.outs.1, I (f_withGuest b g ({ (f_guestAt b g).1 with live := f_withSlot (f_guestAt b g).1.live page (f_slotAt (f_guestAt b g).1.written page) } : TGuest)).pend], [slv (f_guestAt b g).1.prog.length q1.prog.1, I (f_guestAt b g).1.acc, I (f_guestAt b g).1.pc, slv (f_guestAt b g).1.written.length q1.written.1, slv (f_guestAt b g).1.live.length q1.live.1, I (f_guestAt b g).1.ctl.traps, I (f_guestAt b g).1.ctl.post, B (f_guestAt b g).1.ctl.opn, I (f_guestAt b g).1.pend, I (f_guestAt b g).1.exit.kind, I (f_guestAt b g).1.exit.page, B (f_guestAt b g).1.exit.wr, I (f_guestAt b g).1.exit.n, B (f_guestAt b g).1.halted, slv (f_guestAt b g).1.seen.length q1.seen.1]]⟩) .nil (by kernel_rfl) fun ac w β S hβ => ?_
 refine WD.last (by kernel_rfl) ?_
 clear hβ
 refine WD.done (by kernel_rfl) ?_ _
 refine S.ex fun S => ?_
 refine S.gr 2 .nil [GT.val (f_withGuest b g ({ (f_guestAt b g).1 with live := f_withSlot (f_guestAt b g).1.live page (f_slotAt (f_guestAt b g).1.written page) } : TGuest)) q127, B true] fun ac w β S => ?_
 have o148 := ow_Bare (x := (f_withGuest b g ({ (f_guestAt b g).1 with live := f_withSlot (f_guestAt b g).1.live page (f_slotAt (f_guestAt b g).1.written page) } : TGuest))) (p := q127) o136 o139 o142 d145 d146 d147 i144
 exact ret2_of (p' := ()) S (show (f_changed b g condition (fun x => ({ x with live := f_withSlot x.live page (f_slotAt x.written page) } : TGuest))).1 = (f_withGuest b g ({ (f_guestAt b g).1 with live := f_withSlot (f_guestAt b g).1.live page (f_slotAt (f_guestAt b g).1.written page) } : TGuest)) from k0_impl_changed_impl_BareFlush_1) (show (f_changed b g condition (fun x => ({ x with live := f_withSlot x.live page (f_slotAt x.written page) } : TGuest))).2 = true from k1_impl_changed_impl_BareFlush_1) rfl rfl o148 trivial

theorem k0_impl_BareSet {p : Prop} (h : p := by clear S; (first | (rw [set_has (by assumption)]; done) | (rw [set_hasnt (by assumption)]; done))) : p := h
theorem c_impl_BareSet (w0 : World) (b : TBare) (pb : PBare) (hb : RD w0 b pb) (g : Int) (page : Int) (hpage : In64 page) (s : TSlot) (hs : RSlot s) : Calls Try.prog 71 [GT.val b pb, I g, I page, GT.val s ()].toArray w0 (Ret2 NoB w0 ((f_bareSet b g page s).1 : TBare) ((f_bareSet b g page s).2 : Bool)) := by
 refine Calls.run NoB Try.func71 ?_
 intro ac β S
 have hleb_mem : b.mem.length ≤ 4194304 := LRd.le (RBare.mem (d := b) hb)
 have hleb_guests : b.guests.length ≤ 4194304 := LRd.le (RBare.guests (d := b) hb)
 have hleb_outs : b.outs.length ≤ 4194304 := LRd.le (RBare.outs (d := b) hb)
 have hlopage := hpage.lo; have hhipage := hpage.hi
 refine S.go 10 .nil fun ac w β S => ?_
 refine S.Frz 1 page () hpage fun β N b1 F2 S up o3 d4 => ?_
 clear up d4
 refine S.Frz 1 s () hs fun β N b5 F6 S up o7 d8 => ?_
 have d9 := Disj.w d8 o3.sub
 replace o3 := o3.up up
 clear up d8
 refine drw ?_
 rcases Bool.eq_false_or_eq_true (f_within page 0 (4 - 1)) with h10 | h10
 ·have g11 := within_t h10
  let σ12 : Sy := ⟨[(1, .v (I g)), (4, .p 0 0), (6, .v (pt (cap1 b1 () : LP Int).1.b ((cap1 b1 () : LP Int).1.off + 0 * 1))), (7, .v (pt (cap1 b5 () : LP TSlot).1.b ((cap1 b5 () : LP TSlot).1.off + 0 * 2))), (8, .p 1 0)], [GT.cells b pb, Zc TBare]⟩
  obtain ⟨u0, N0, β0, S, o3, o7⟩ : ∃ u0 N0 β0, St Try.prog Try.f71.ntmps w0 NoB u0 N0 β0 σ12 ac w ∧ Ow w0 NoB u0 N0 F2 ([page]) (cap1 b1 () : LP Int) ∧ Ow w0 NoB u0 N0 F6 ([s]) (cap1 b5 () : LP TSlot) := ⟨_, _, _, S.z, o3, o7⟩
  refine wp_region_cut (fun ac w => ∃ q54 F55 q51 F52 q57 F58 u N β, St Try.prog Try.f71.ntmps w0 NoB u N β (σ12.dl [1, 4, 6, 7] [(9, .v (B (f_changed b g (f_slotOk s 8) (fun x => ({ x with written := f_withSlot x.written page s } : TGuest))).2))] 2 [(1, [slv (f_changed b g (f_slotOk s 8) (fun x => ({ x with written := f_withSlot x.written page s } : TGuest))).1.mem.length q51.1, slv (f_changed b g (f_slotOk s 8) (fun x => ({ x with written := f_withSlot x.written page s } : TGuest))).1.guests.length q54.1, slv (f_changed b g (f_slotOk s 8) (fun x => ({ x with written := f_withSlot x.written page s } : TGuest))).1.outs.length q57.1, I (f_changed b g (f_slotOk s 8) (fun x => ({ x with written := f_withSlot x.written page s } : TGuest))).1.pend])]) ac w ∧ Ow w0 NoB u N F55 (f_changed b g (f_slotOk s 8) (fun x => ({ x with written := f_withSlot x.written page s } : TGuest))).1.guests q54 ∧ Ow w0 NoB u N F52 (f_changed b g (f_slotOk s 8) (fun x => ({ x with written := f_withSlot x.written page s } : TGuest))).1.mem q51 ∧ Ow w0 NoB u N F58 (f_changed b g (f_slotOk s 8) (fun x => ({ x with written := f_withSlot x.written page s } : TGuest))).1.outs q57 ∧ Disj F55 F52 ∧ Disj F55 F58 ∧ Disj F52 F58 ∧ In64 (f_changed b g (f_slotOk s 8) (fun x => ({ x with written := f_withSlot x.written page s } : TGuest))).1.pend) ?_ ?_
  ·refine S.draw0 (f := 14) 12 (by kernel_rfl) (by kernel_rfl) fun w S => ?_
   refine S.hq 0 [0] [] [(10, .v (GT.val b pb))] .nil fun ac S => ?_
   refine S.hq 1 [1] [] [(11, .v (I g))] .nil fun ac S => ?_
   refine S.hq 2 [2] [] [(12, .v (I page))] (.cons (Q_el1 o3.rn (t := 3) (k := 0) (Nat.succ_pos 0) rfl (by kernel_rfl)) .nil) fun ac S => ?_
   refine S.hq 8 [8] [] [(18, .v (.func (.func 104) #[] #[pt (cap1 b1 () : LP Int).1.b ((cap1 b1 () : LP Int).1.off + 0 * 1), pt (cap1 b5 () : LP TSlot).1.b ((cap1 b5 () : LP TSlot).1.off + 0 * 2)]))] .nil fun ac S => ?_
   refine WD.nameW fun W hW => ?_
   refine WD.castW (l' := mkL 14 [0, 1, 2, 8]) (by kernel_rfl) ?_
   have hK59 ac w q54 F55 q51 F52 q57 F58 u N β (S : St Try.prog Try.f71.ntmps w0 NoB u N β (σ12.dl [1, 4, 6, 7] [(9, .v (B (f_changed b g (f_slotOk s 8) (fun x => ({ x with written := f_withSlot x.written page s } : TGuest))).2))] 2 [(1, [slv (f_changed b g (f_slotOk s 8) (fun x => ({ x with written := f_withSlot x.written page s } : TGuest))).1.mem.length q51.1, slv (f_changed b g (f_slotOk s 8) (fun x => ({ x with written := f_withSlot x.written page s } : TGuest))).1.guests.length q54.1, slv (f_changed b g (f_slotOk s 8) (fun x => ({ x with written := f_withSlot x.written page s } : TGuest))).1.outs.length q57.1, I (f_changed b g (f_slotOk s 8) (fun x => ({ x with written := f_withSlot x.written page s } : TGuest))).1.pend])]) ac w) (o53 : Ow w0 NoB u N F55 (f_changed b g (f_slotOk s 8) (fun x => ({ x with written := f_withSlot x.written page s } : TGuest))).1.guests q54) (o50 : Ow w0 NoB u N F52 (f_changed b g (f_slotOk s 8) (fun x => ({ x with written := f_withSlot x.written page s } : TGuest))).1.mem q51) (o56 : Ow w0 NoB u N F58 (f_changed b g (f_slotOk s 8) (fun x => ({ x with written := f_withSlot x.written page s } : TGuest))).1.outs q57) (d60 : Disj F55 F52) (d61 : Disj F55 F58) (d62 : Disj F52 F58) (i49 : In64 (f_changed b g (f_slotOk s 8) (fun x => ({ x with written := f_withSlot x.written page s } : TGuest))).1.pend) : W 0 (mkL 14 [0, 1, 2, 3, 4, 5, 6, 7, 8, 9, 10, 11, 12, 13]) ac w := by
    exact od hW ⟨rfl, q54, F55, q51, F52, q57, F58, _, _, _, S.z, o53, o50, o56, d60, d61, d62, i49⟩
   have hK63 ac w q44 F45 q41 F42 q47 F48 u N β (S : St Try.prog Try.f71.ntmps w0 NoB u N β (σ12.dl [1, 4, 6, 7] [(20, .v (GT.val (f_changed b g (f_slotOk s 8) (fun x => ({ x with written := f_withSlot x.written page s } : TGuest))).1 (⟨q41, q44, q47⟩ : PBare))), (21, .v (B (f_changed b g (f_slotOk s 8) (fun x => ({ x with written := f_withSlot x.written page s } : TGuest))).2))] 2 []) ac w) (o43 : Ow w0 NoB u N F45 (f_changed b g (f_slotOk s 8) (fun x => ({ x with written := f_withSlot x.written page s } : TGuest))).1.guests q44) (o40 : Ow w0 NoB u N F42 (f_changed b g (f_slotOk s 8) (fun x => ({ x with written := f_withSlot x.written page s } : TGuest))).1.mem q41) (o46 : Ow w0 NoB u N F48 (f_changed b g (f_slotOk s 8) (fun x => ({ x with written := f_withSlot x.written page s } : TGuest))).1.outs q47) (d64 : Disj F45 F42) (d65 : Disj F45 F48) (d66 : Disj F42 F48) (i49 : In64 (f_changed b g (f_slotOk s 8) (fun x => ({ x with written := f_withSlot x.written page s } : TGuest))).1.pend) (hNN : NN N0 u0 N u) (hBB : BB σ12.bx.length β0 β) : W 2 (mkL 14 [0, 1, 2, 3, 4, 5, 6, 7, 8, 9, 10, 11]) ac w := by
    exact ox1 hW 12 (S.wl hW [13] .nil fun _ _ _ S => hK59 _ _ q44 F45 q41 F42 q47 F48 _ _ _ S o43 o40 o46 d64 d65 d66 i49)
   have hK67 ac w u N β (S : St Try.prog Try.f71.ntmps w0 NoB u N β (σ12.dl [1, 4, 6, 7] [(10, .v (GT.val b pb)), (11, .v (I g)), (17, .v (B (f_slotOk s 8))), (18, .v (.func (.func 104) #[] #[pt (cap1 b1 () : LP Int).1.b ((cap1 b1 () : LP Int).1.off + 0 * 1), pt (cap1 b5 () : LP TSlot).1.b ((cap1 b5 () : LP TSlot).1.off + 0 * 2)]))] 2 []) ac w) (o3 : Ow w0 NoB u N F2 ([page]) (cap1 b1 () : LP Int)) (o7 : Ow w0 NoB u N F6 ([s]) (cap1 b5 () : LP TSlot)) (hNN : NN N0 u0 N u) (hBB : BB σ12.bx.length β0 β) : W 5 (mkL 14 [0, 1, 2, 3, 4, 5, 6, 7, 8]) ac w := by
    refine ox1 hW 9 ?_
    refine id (S.call2 (r := (f_changed b g (f_slotOk s 8) (fun x => ({ x with written := f_withSlot x.written page s } : TGuest))).1) (r' := (f_changed b g (f_slotOk s 8) (fun x => ({ x with written := f_withSlot x.written page s } : TGuest))).2) (d := 19) (c_impl_changed_impl_BareSet_1 w b pb (S.rd (S.arg hb)) g (f_slotOk s 8) page (cap1 b1 () : LP Int) (S.rd o3.rn) s (cap1 b5 () : LP TSlot) (S.rd o7.rn)) (by kernel_rfl) rfl fun ac w N q68 q69 F70 F71 S up o72 o73 d74 d75 d76 => ?_)
    have hb77 := fun b h => (⟨(up b (hNN b h).1).1, (up b (hNN b h).1).2.trans (hNN b h).2⟩ : _ ∧ _)
    refine WD.sc S hb77 hBB fun hC => ?_
    have d78 := Disj.w d75 o3.sub
    have d79 := Disj.w d75 o7.sub
    have d80 := Disj.w d74 o3.sub
    have d81 := Disj.w d74 o7.sub
    replace o3 := o3.up up
    replace o7 := o7.up up
    clear up d74
    clear d75
    have i91 : In64 (f_changed b g (f_slotOk s 8) (fun x => ({ x with written := f_withSlot x.written page s } : TGuest))).1.pend := RBare.pend (d := (f_changed b g (f_slotOk s 8) (fun x => ({ x with written := f_withSlot x.written page s } : TGuest))).1) o72.rn
    obtain ⟨F82, F85, F88, o83, o86, o89, s84, s87, s90, d92, d93, d94⟩ := sp_Bare o72
    exact S.wh hW [10, 11] hC fun _ S => hK63 _ _ q68.guests F85 q68.mem F82 q68.outs F88 _ _ _ S o86 o83 o89 (Disj.symm d92) d94 d93 i91 hb77 hBB
   have hK95 ac w u N β (S : St Try.prog Try.f71.ntmps w0 NoB u N β (σ12.dl [1, 4, 6, 7] [(10, .v (GT.val b pb)), (11, .v (I g)), (14, .v (B true)), (15, .v (GT.val s ())), (18, .v (.func (.func 104) #[] #[pt (cap1 b1 () : LP Int).1.b ((cap1 b1 () : LP Int).1.off + 0 * 1), pt (cap1 b5 () : LP TSlot).1.b ((cap1 b5 () : LP TSlot).1.off + 0 * 2)]))] 2 []) ac w) (o3 : Ow w0 NoB u N F2 ([page]) (cap1 b1 () : LP Int)) (o7 : Ow w0 NoB u N F6 ([s]) (cap1 b5 () : LP TSlot)) (hNN : NN N0 u0 N u) (hBB : BB σ12.bx.length β0 β) : W 7 (mkL 14 [0, 1, 2, 3, 4, 5, 8]) ac w := by
    exact ox1 hW 6 (S.wq hW hNN hBB [7] (.cons (Q_call fun w hw => c_impl_SlotOk w s 8 (by omega) (by omega)) .nil) fun _ _ _ S hB => hK67 _ _ _ _ _ S o3 o7 hNN hB)
   have hK96 ac w u N β (S : St Try.prog Try.f71.ntmps w0 NoB u N β (σ12.dl [1, 4, 6] [(10, .v (GT.val b pb)), (11, .v (I g)), (14, .v (B true)), (18, .v (.func (.func 104) #[] #[pt (cap1 b1 () : LP Int).1.b ((cap1 b1 () : LP Int).1.off + 0 * 1), pt (cap1 b5 () : LP TSlot).1.b ((cap1 b5 () : LP TSlot).1.off + 0 * 2)]))] 2 []) ac w) (o3 : Ow w0 NoB u N F2 ([page]) (cap1 b1 () : LP Int)) (o7 : Ow w0 NoB u N F6 ([s]) (cap1 b5 () : LP TSlot)) (hNN : NN N0 u0 N u) (hBB : BB σ12.bx.length β0 β) : W 8 (mkL 14 [0, 1, 2, 3, 4, 8]) ac w := by
    exact ox1 hW 5 (S.wq hW hNN hBB [] (.cons (Q_el o7.rn (t := 54) (k := 0) (Nat.succ_pos 0) rfl (by kernel_rfl) (by kernel_rfl)) .nil) fun _ _ _ S hB => hK95 _ _ _ _ _ S o3 o7 hNN hB)
   have hNN : NN N0 u0 N0 u0 := fun b h => ⟨h, rfl⟩
   have hBB : BB σ12.bx.length β0 β0 := fun _ _ => rfl
   exact ox1 hW 3 (S.wqo hW hNN hBB [4] [(4, true)] (.cons (Q_call fun w hw => c_impl_has w page 4 (by omega)) .nil) (.cons h10 .nil) fun _ _ _ S hB => hK96 _ _ _ _ _ S o3 o7 hNN hB)
  clear S o3 o7
  rintro ac w ⟨q54, F55, q51, F52, q57, F58, u, N, β, S, o53, o50, o56, d97, d98, d99, i49⟩
  refine S.ex fun S => ?_
  refine S.gr 2 .nil [GT.val (f_changed b g (f_slotOk s 8) (fun x => ({ x with written := f_withSlot x.written page s } : TGuest))).1 (⟨q51, q54, q57⟩ : PBare), B (f_changed b g (f_slotOk s 8) (fun x => ({ x with written := f_withSlot x.written page s } : TGuest))).2] fun ac w β S => ?_
  have o100 := ow_Bare (x := (f_changed b g (f_slotOk s 8) (fun x => ({ x with written := f_withSlot x.written page s } : TGuest))).1) (p := (⟨q51, q54, q57⟩ : PBare)) o50 o53 o56 (Disj.symm d97) d99 d98 i49
  exact ret2_of (p' := ()) S (show (f_bareSet b g page s).1 = (f_changed b g (f_slotOk s 8) (fun x => ({ x with written := f_withSlot x.written page s } : TGuest))).1 from k0_impl_BareSet) (show (f_bareSet b g page s).2 = (f_changed b g (f_slotOk s 8) (fun x => ({ x with written := f_withSlot x.written page s } : TGuest))).2 from k0_impl_BareSet) rfl rfl o100 trivial
 ·have g101 := within_f h10
  let σ102 : Sy := ⟨[(1, .v (I g)), (4, .p 0 0), (6, .v (pt (cap1 b1 () : LP Int).1.b ((cap1 b1 () : LP Int).1.off + 0 * 1))), (7, .v (pt (cap1 b5 () : LP TSlot).1.b ((cap1 b5 () : LP TSlot).1.off + 0 * 2))), (8, .p 1 0)], [GT.cells b pb, Zc TBare]⟩
  obtain ⟨u0, N0, β0, S, o3, o7⟩ : ∃ u0 N0 β0, St Try.prog Try.f71.ntmps w0 NoB u0 N0 β0 σ102 ac w ∧ Ow w0 NoB u0 N0 F2 ([page]) (cap1 b1 () : LP Int) ∧ Ow w0 NoB u0 N0 F6 ([s]) (cap1 b5 () : LP TSlot) := ⟨_, _, _, S.z, o3, o7⟩
  refine wp_region_cut (fun ac w => ∃ q144 F145 q141 F142 q147 F148 u N β, St Try.prog Try.f71.ntmps w0 NoB u N β (σ102.dl [1, 4, 6, 7] [(9, .v (B (f_changed b g false (fun x => ({ x with written := f_withSlot x.written page s } : TGuest))).2))] 2 [(1, [slv (f_changed b g false (fun x => ({ x with written := f_withSlot x.written page s } : TGuest))).1.mem.length q141.1, slv (f_changed b g false (fun x => ({ x with written := f_withSlot x.written page s } : TGuest))).1.guests.length q144.1, slv (f_changed b g false (fun x => ({ x with written := f_withSlot x.written page s } : TGuest))).1.outs.length q147.1, I (f_changed b g false (fun x => ({ x with written := f_withSlot x.written page s } : TGuest))).1.pend])]) ac w ∧ Ow w0 NoB u N F145 (f_changed b g false (fun x => ({ x with written := f_withSlot x.written page s } : TGuest))).1.guests q144 ∧ Ow w0 NoB u N F142 (f_changed b g false (fun x => ({ x with written := f_withSlot x.written page s } : TGuest))).1.mem q141 ∧ Ow w0 NoB u N F148 (f_changed b g false (fun x => ({ x with written := f_withSlot x.written page s } : TGuest))).1.outs q147 ∧ Disj F145 F142 ∧ Disj F145 F148 ∧ Disj F142 F148 ∧ In64 (f_changed b g false (fun x => ({ x with written := f_withSlot x.written page s } : TGuest))).1.pend) ?_ ?_
  ·refine S.draw0 (f := 14) 12 (by kernel_rfl) (by kernel_rfl) fun w S => ?_
   refine S.hq 0 [0] [] [(10, .v (GT.val b pb))] .nil fun ac S => ?_
   refine S.hq 1 [1] [] [(11, .v (I g))] .nil fun ac S => ?_
   refine S.hq 2 [2] [] [(12, .v (I page))] (.cons (Q_el1 o3.rn (t := 3) (k := 0) (Nat.succ_pos 0) rfl (by kernel_rfl)) .nil) fun ac S => ?_
   refine S.hq 8 [8] [] [(18, .v (.func (.func 104) #[] #[pt (cap1 b1 () : LP Int).1.b ((cap1 b1 () : LP Int).1.off + 0 * 1), pt (cap1 b5 () : LP TSlot).1.b ((cap1 b5 () : LP TSlot).1.off + 0 * 2)]))] .nil fun ac S => ?_
   refine WD.nameW fun W hW => ?_
   refine WD.castW (l' := mkL 14 [0, 1, 2, 8]) (by kernel_rfl) ?_
   have hK149 ac w q144 F145 q141 F142 q147 F148 u N β (S : St Try.prog Try.f71.ntmps w0 NoB u N β (σ102.dl [1, 4, 6, 7] [(9, .v (B (f_changed b g false (fun x => ({ x with written := f_withSlot x.written page s } : TGuest))).2))] 2 [(1, [slv (f_changed b g false (fun x => ({ x with written := f_withSlot x.written page s } : TGuest))).1.mem.length q141.1, slv (f_changed b g false (fun x => ({ x with written := f_withSlot x.written page s } : TGuest))).1.guests.length q144.1, slv (f_changed b g false (fun x => ({ x with written := f_withSlot x.written page s } : TGuest))).1.outs.length q147.1, I (f_changed b g false (fun x => ({ x with written := f_withSlot x.written page s } : TGuest))).1.pend])]) ac w) (o143 : Ow w0 NoB u N F145 (f_changed b g false (fun x => ({ x with written := f_withSlot x.written page s } : TGuest))).1.guests q144) (o140 : Ow w0 NoB u N F142 (f_changed b g false (fun x => ({ x with written := f_withSlot x.written page s } : TGuest))).1.mem q141) (o146 : Ow w0 NoB u N F148 (f_changed b g false (fun x => ({ x with written := f_withSlot x.written page s } : TGuest))).1.outs q147) (d150 : Disj F145 F142) (d151 : Disj F145 F148) (d152 : Disj F142 F148) (i139 : In64 (f_changed b g false (fun x => ({ x with written := f_withSlot x.written page s } : TGuest))).1.pend) : W 0 (mkL 14 [0, 1, 2, 3, 4, 5, 6, 7, 8, 9, 10, 11, 12, 13]) ac w := by
    exact od hW ⟨rfl, q144, F145, q141, F142, q147, F148, _, _, _, S.z, o143, o140, o146, d150, d151, d152, i139⟩
   have hK153 ac w q134 F135 q131 F132 q137 F138 u N β (S : St Try.prog Try.f71.ntmps w0 NoB u N β (σ102.dl [1, 4, 6, 7] [(20, .v (GT.val (f_changed b g false (fun x => ({ x with written := f_withSlot x.written page s } : TGuest))).1 (⟨q131, q134, q137⟩ : PBare))), (21, .v (B (f_changed b g false (fun x => ({ x with written := f_withSlot x.written page s } : TGuest))).2))] 2 []) ac w) (o133 : Ow w0 NoB u N F135 (f_changed b g false (fun x => ({ x with written := f_withSlot x.written page s } : TGuest))).1.guests q134) (o130 : Ow w0 NoB u N F132 (f_changed b g false (fun x => ({ x with written := f_withSlot x.written page s } : TGuest))).1.mem q131) (o136 : Ow w0 NoB u N F138 (f_changed b g false (fun x => ({ x with written := f_withSlot x.written page s } : TGuest))).1.outs q137) (d154 : Disj F135 F132) (d155 : Disj F135 F138) (d156 : Disj F132 F138) (i139 : In64 (f_changed b g false (fun x => ({ x with written := f_withSlot x.written page s } : TGuest))).1.pend) (hNN : NN N0 u0 N u) (hBB : BB σ102.bx.length β0 β) : W 2 (mkL 14 [0, 1, 2, 3, 4, 5, 6, 7, 8, 9, 10, 11]) ac w := by
    exact ox1 hW 12 (S.wl hW [13] .nil fun _ _ _ S => hK149 _ _ q134 F135 q131 F132 q137 F138 _ _ _ S o133 o130 o136 d154 d155 d156 i139)
   have hK157 ac w u N β (S : St Try.prog Try.f71.ntmps w0 NoB u N β (σ102.dl [1, 4, 6, 7] [(10, .v (GT.val b pb)), (11, .v (I g)), (17, .v (B false)), (18, .v (.func (.func 104) #[] #[pt (cap1 b1 () : LP Int).1.b ((cap1 b1 () : LP Int).1.off + 0 * 1), pt (cap1 b5 () : LP TSlot).1.b ((cap1 b5 () : LP TSlot).1.off + 0 * 2)]))] 2 []) ac w) (o3 : Ow w0 NoB u N F2 ([page]) (cap1 b1 () : LP Int)) (o7 : Ow w0 NoB u N F6 ([s]) (cap1 b5 () : LP TSlot)) (hNN : NN N0 u0 N u) (hBB : BB σ102.bx.length β0 β) : W 5 (mkL 14 [0, 1, 2, 3, 4, 5, 6, 7, 8]) ac w := by
    refine ox1 hW 9 ?_
    refine id (S.call2 (r := (f_changed b g false (fun x => ({ x with written := f_withSlot x.written page s } : TGuest))).1) (r' := (f_changed b g false (fun x => ({ x with written := f_withSlot x.written page s } : TGuest))).2) (d := 19) (c_impl_changed_impl_BareSet_1 w b pb (S.rd (S.arg hb)) g false page (cap1 b1 () : LP Int) (S.rd o3.rn) s (cap1 b5 () : LP TSlot) (S.rd o7.rn)) (by kernel_rfl) rfl fun ac w N q158 q159 F160 F161 S up o162 o163 d164 d165 d166 => ?_)
    have hb167 := fun b h => (⟨(up b (hNN b h).1).1, (up b (hNN b h).1).2.trans (hNN b h).2⟩ : _ ∧ _)
    refine WD.sc S hb167 hBB fun hC => ?_
    have d168 := Disj.w d165 o3.sub
    have d169 := Disj.w d165 o7.sub
    have d170 := Disj.w d164 o3.sub
    have d171 := Disj.w d164 o7.sub
    replace o3 := o3.up up
    replace o7 := o7.up up
    clear up d164
    clear d165
    have i181 : In64 (f_changed b g false (fun x => ({ x with written := f_withSlot x.written page s } : TGuest))).1.pend := RBare.pend (d := (f_changed b g false (fun x => ({ x with written := f_withSlot x.written page s } : TGuest))).1) o162.rn
    obtain ⟨F172, F175, F178, o173, o176, o179, s174, s177, s180, d182, d183, d184⟩ := sp_Bare o162
    exact S.wh hW [10, 11] hC fun _ S => hK153 _ _ q158.guests F175 q158.mem F172 q158.outs F178 _ _ _ S o176 o173 o179 (Disj.symm d182) d184 d183 i181 hb167 hBB
   have hK185 ac w u N β (S : St Try.prog Try.f71.ntmps w0 NoB u N β (σ102.dl [1, 4, 6, 7] [(10, .v (GT.val b pb)), (11, .v (I g)), (14, .v (B false)), (15, .v undef), (18, .v (.func (.func 104) #[] #[pt (cap1 b1 () : LP Int).1.b ((cap1 b1 () : LP Int).1.off + 0 * 1), pt (cap1 b5 () : LP TSlot).1.b ((cap1 b5 () : LP TSlot).1.off + 0 * 2)]))] 2 []) ac w) (o3 : Ow w0 NoB u N F2 ([page]) (cap1 b1 () : LP Int)) (o7 : Ow w0 NoB u N F6 ([s]) (cap1 b5 () : LP TSlot)) (hNN : NN N0 u0 N u) (hBB : BB σ102.bx.length β0 β) : W 7 (mkL 14 [0, 1, 2, 3, 4, 5, 8]) ac w := by
    exact ox1 hW 6 (S.wq hW hNN hBB [7] .nil fun _ _ _ S hB => hK157 _ _ _ _ _ S o3 o7 hNN hB)
   have hK186 ac w u N β (S : St Try.prog Try.f71.ntmps w0 NoB u N β (σ102.dl [1, 4, 6] [(10, .v (GT.val b pb)), (11, .v (I g)), (14, .v (B false)), (18, .v (.func (.func 104) #[] #[pt (cap1 b1 () : LP Int).1.b ((cap1 b1 () : LP Int).1.off + 0 * 1), pt (cap1 b5 () : LP TSlot).1.b ((cap1 b5 () : LP TSlot).1.off + 0 * 2)]))] 2 []) ac w) (o3 : Ow w0 NoB u N F2 ([page]) (cap1 b1 () : LP Int)) (o7 : Ow w0 NoB u N F6 ([s]) (cap1 b5 () : LP TSlot)) (hNN : NN N0 u0 N u) (hBB : BB σ102.bx.length β0 β) : W 8 (mkL 14 [0, 1, 2, 3, 4, 8]) ac w := by
    exact ox1 hW 5 (S.wq hW hNN hBB [] .nil fun _ _ _ S hB => hK185 _ _ _ _ _ S o3 o7 hNN hB)
   have hNN : NN N0 u0 N0 u0 := fun b h => ⟨h, rfl⟩
   have hBB : BB σ102.bx.length β0 β0 := fun _ _ => rfl
   exact ox1 hW 3 (S.wqo hW hNN hBB [4] [(4, false)] (.cons (Q_call fun w hw => c_impl_has w page 4 (by omega)) .nil) (.cons h10 .nil) fun _ _ _ S hB => hK186 _ _ _ _ _ S o3 o7 hNN hB)
  clear S o3 o7
  rintro ac w ⟨q144, F145, q141, F142, q147, F148, u, N, β, S, o143, o140, o146, d187, d188, d189, i139⟩
  refine S.ex fun S => ?_
  refine S.gr 2 .nil [GT.val (f_changed b g false (fun x => ({ x with written := f_withSlot x.written page s } : TGuest))).1 (⟨q141, q144, q147⟩ : PBare), B (f_changed b g false (fun x => ({ x with written := f_withSlot x.written page s } : TGuest))).2] fun ac w β S => ?_
  have o190 := ow_Bare (x := (f_changed b g false (fun x => ({ x with written := f_withSlot x.written page s } : TGuest))).1) (p := (⟨q141, q144, q147⟩ : PBare)) o140 o143 o146 (Disj.symm d187) d189 d188 i139
  exact ret2_of (p' := ()) S (show (f_bareSet b g page s).1 = (f_changed b g false (fun x => ({ x with written := f_withSlot x.written page s } : TGuest))).1 from k0_impl_BareSet) (show (f_bareSet b g page s).2 = (f_changed b g false (fun x => ({ x with written := f_withSlot x.written page s } : TGuest))).2 from k0_impl_BareSet) rfl rfl o190 trivial

theorem c_impl_HostSet_1 (w0 : World) (b : TBare) (pb : PBare) (hb : RD w0 b pb) (g : Int) (qg : LP Int) (hg : RD w0 [g] qg) (page : Int) (qpage : LP Int) (hpage : RD w0 [page] qpage) (s : TSlot) (qs : LP TSlot) (hs : RD w0 [s] qs) : Calls Try.prog 70 [GT.val b pb, pt qg.1.b (qg.1.off + 0 * 1), pt qpage.1.b (qpage.1.off + 0 * 1), pt qs.1.b (qs.1.off + 0 * 2)].toArray w0 (Ret2 NoB w0 ((f_bareSet b g page s).1 : TBare) ((f_bareSet b g page s).2 : Bool)) := by
 refine Calls.run NoB Try.func70 ?_
 intro ac β S
 have hleb_mem : b.mem.length ≤ 4194304 := LRd.le (RBare.mem (d := b) hb)
 have hleb_guests : b.guests.length ≤ 4194304 := LRd.le (RBare.guests (d := b) hb)
 have hleb_outs : b.outs.length ≤ 4194304 := LRd.le (RBare.outs (d := b) hb)
 refine S.go 13 (.cons (Q_el1 (S.arg hg) (t := 3) (k := 0) (Nat.succ_pos 0) rfl (by kernel_rfl)) (.cons (Q_el1 (S.arg hpage) (t := 3) (k := 0) (Nat.succ_pos 0) rfl (by kernel_rfl)) (.cons (Q_el (S.arg hs) (t := 54) (k := 0) (Nat.succ_pos 0) rfl (by kernel_rfl) (by kernel_rfl)) .nil))) fun ac w β S => S.K2 (r := (f_bareSet b g page s).1) (r' := (f_bareSet b g page s).2) (d := 11) (c_impl_BareSet w b pb (S.rd (S.arg hb)) g page (show In64 page from LRd.el (S.arg hpage) 0 (Nat.succ_pos 0)) s (show RSlot s from LRd.el (S.arg hs) 0 (Nat.succ_pos 0))) fun ac w N q1 q2 F3 F4 S up o5 o6 d7 d8 d9 => ?_
 clear up d7
 clear d8
 have i19 : In64 (f_bareSet b g page s).1.pend := RBare.pend (d := (f_bareSet b g page s).1) o5.rn
 obtain ⟨F10, F13, F16, o11, o14, o17, s12, s15, s18, d20, d21, d22⟩ := sp_Bare o5
 refine S.gr 7 .nil [GT.val (f_bareSet b g page s).1 q1, B (f_bareSet b g page s).2] fun ac w β S => ?_
 have o23 := ow_Bare (x := (f_bareSet b g page s).1) (p := q1) o11 o14 o17 d20 d21 d22 i19
 exact ret2_of (p' := ()) S (show (f_bareSet b g page s).1 = (f_bareSet b g page s).1 by clear S; rfl) (show (f_bareSet b g page s).2 = (f_bareSet b g page s).2 by clear S; rfl) rfl rfl o23 trivial

theorem c_impl_BareFlush (w0 : World) (b : TBare) (pb : PBare) (hb : RD w0 b pb) (g : Int) (page : Int) (hpage : In64 page) : Calls Try.prog 73 [GT.val b pb, I g, I page].toArray w0 (Ret2 NoB w0 ((f_bareFlush b g page).1 : TBare) ((f_bareFlush b g page).2 : Bool)) := by
 refine Calls.run NoB Try.func73 ?_
 intro ac β S
 have hleb_mem : b.mem.length ≤ 4194304 := LRd.le (RBare.mem (d := b) hb)
 have hleb_guests : b.guests.length ≤ 4194304 := LRd.le (RBare.guests (d := b) hb)
 have hleb_outs : b.outs.length ≤ 4194304 := LRd.le (RBare.outs (d := b) hb)
 have hlopage := hpage.lo; have hhipage := hpage.hi
 refine S.go 9 .nil fun ac w β S => ?_
 refine S.Frz 1 page () hpage fun β N b1 F2 S up o3 d4 => ?_
 clear up d4
 refine drw ?_
 refine S.draw0 (f := 10) 8 (by kernel_rfl) (by kernel_rfl) fun w S => ?_
 refine S.hq 0 [0] [] [(8, .v (GT.val b pb))] .nil fun ac S => ?_
 refine S.hq 1 [1] [] [(9, .v (I g))] .nil fun ac S => ?_
 refine S.hq 2 [2] [] [(10, .v (I page))] (.cons (Q_el1 o3.rn (t := 3) (k := 0) (Nat.succ_pos 0) rfl (by kernel_rfl)) .nil) fun ac S => ?_
 refine S.hq 4 [4] [] [(12, .v (.func (.func 106) #[] #[pt (cap1 b1 () : LP Int).1.b ((cap1 b1 () : LP Int).1.off + 0 * 1)]))] .nil fun ac S => ?_
 refine WD.one (i := 3) (by kernel_rfl) ?_
 refine S.stepq (i := 3) (keep := [6, 8, 9, 11, 12]) (m := 2) (σ' := ⟨[(6, .p 1 0), (8, .v (GT.val b pb)), (9, .v (I g)), (11, .v (B (f_within page 0 (4 - 1)))), (12, .v (.func (.func 106) #[] #[pt (cap1 b1 () : LP Int).1.b ((cap1 b1 () : LP Int).1.off + 0 * 1)]))], [GT.cells b pb, Zc TBare]⟩) (.cons (Q_call fun w hw => c_impl_has w page 4 (by omega)) .nil) (by kernel_rfl) fun ac w β S hβ => ?_
 refine WD.stayq S hβ ?_
 clear hβ
 refine WD.one (i := 5) (by kernel_rfl) ?_
 refine id (S.call2 (r := (f_changed b g (f_within page 0 (4 - 1)) (fun x => ({ x with live := f_withSlot x.live page (f_slotAt x.written page) } : TGuest))).1) (r' := (f_changed b g (f_within page 0 (4 - 1)) (fun x => ({ x with live := f_withSlot x.live page (f_slotAt x.written page) } : TGuest))).2) (d := 13) (c_impl_changed_impl_BareFlush_1 w b pb (S.rd (S.arg hb)) g (f_within page 0 (4 - 1)) page (cap1 b1 () : LP Int) (S.rd o3.rn)) (by kernel_rfl) rfl fun ac w N q5 q6 F7 F8 S up o9 o10 d11 d12 d13 => ?_)
 refine WD.next S up (by kernel_rfl) ?_
 have d14 := Disj.w d12 o3.sub
 have d15 := Disj.w d11 o3.sub
 replace o3 := o3.up up
 clear up d11
 clear d12
 have i25 : In64 (f_changed b g (f_within page 0 (4 - 1)) (fun x => ({ x with live := f_withSlot x.live page (f_slotAt x.written page) } : TGuest))).1.pend := RBare.pend (d := (f_changed b g (f_within page 0 (4 - 1)) (fun x => ({ x with live := f_withSlot x.live page (f_slotAt x.written page) } : TGuest))).1) o9.rn
 obtain ⟨F16, F19, F22, o17, o20, o23, s18, s21, s24, d26, d27, d28⟩ := sp_Bare o9
 refine S.hq 6 [6] [] [(13, .v (.tuple #[GT.val (f_changed b g (f_within page 0 (4 - 1)) (fun x => ({ x with live := f_withSlot x.live page (f_slotAt x.written page) } : TGuest))).1 q5, B (f_changed b g (f_within page 0 (4 - 1)) (fun x => ({ x with live := f_withSlot x.live page (f_slotAt x.written page) } : TGuest))).2])), (14, .v (GT.val (f_changed b g (f_within page 0 (4 - 1)) (fun x => ({ x with live := f_withSlot x.live page (f_slotAt x.written page) } : TGuest))).1 q5))] .nil fun ac S => ?_
 refine S.hq 7 [7] [] [(15, .v (B (f_changed b g (f_within page 0 (4 - 1)) (fun x => ({ x with live := f_withSlot x.live page (f_slotAt x.written page) } : TGuest))).2))] .nil fun ac S => ?_
 refine WD.one (i := 8) (by kernel_rfl) ?_
 refine S.stepq (i := 8) (keep := [6, 15]) (m := 2) (σ' := ⟨[(6, .p 1 0), (15, .v (B (f_changed b g (f_within page 0 (4 - 1)) (fun x => ({ x with live := f_withSlot x.live page (f_slotAt x.written page) } : TGuest))).2))], [GT.cells b pb, [slv (f_changed b g (f_within page 0 (4 - 1)) (fun x => ({ x with live := f_withSlot x.live page (f_slotAt x.written page) } : TGuest))).1.mem.length q5.mem.1, slv (f_changed b g (f_within page 0 (4 - 1)) (fun x => ({ x with live := f_withSlot x.live page (f_slotAt x.written page) } : TGuest))).1.guests.length q5.guests.1, slv (f_changed b g (f_within page 0 (4 - 1)) (fun x => ({ x with live := f_withSlot x.live page (f_slotAt x.written page) } : TGuest))).1.outs.length q5.outs.1, I (f_changed b g (f_within page 0 (4 - 1)) (fun x => ({ x with live := f_withSlot x.live page (f_slotAt x.written page) } : TGuest))).1.pend]]⟩) .nil (by kernel_rfl) fun ac w β S hβ => ?_
 refine WD.last (by kernel_rfl) ?_
 clear hβ
 refine WD.one (i := 9) (by kernel_rfl) ?_
 refine S.stepq (i := 9) (keep := [6, 7]) (m := 2) (σ' := ⟨[(6, .p 1 0), (7, .v (B (f_changed b g (f_within page 0 (4 - 1)) (fun x => ({ x with live := f_withSlot x.live page (f_slotAt x.written page) } : TGuest))).2))], [GT.cells b pb, [slv (f_changed b g (f_within page 0 (4 - 1)) (fun x => ({ x with live := f_withSlot x.live page (f_slotAt x.written page) } : TGuest))).1.mem.length q5.mem.1, slv (f_changed b g (f_within page 0 (4 - 1)) (fun x => ({ x with live := f_withSlot x.live page (f_slotAt x.written page) } : TGuest))).1.guests.length q5.guests.1, slv (f_changed b g (f_within page 0 (4 - 1)) (fun x => ({ x with live := f_withSlot x.live page (f_slotAt x.written page) } : TGuest))).1.outs.length q5.outs.1, I (f_changed b g (f_within page 0 (4 - 1)) (fun x => ({ x with live := f_withSlot x.live page (f_slotAt x.written page) } : TGuest))).1.pend]]⟩) .nil (by kernel_rfl) fun ac w β S hβ => ?_
 refine WD.last (by kernel_rfl) ?_
 clear hβ
 refine WD.done (by kernel_rfl) ?_ _
 refine S.ex fun S => ?_
 refine S.gr 2 .nil [GT.val (f_changed b g (f_within page 0 (4 - 1)) (fun x => ({ x with live := f_withSlot x.live page (f_slotAt x.written page) } : TGuest))).1 q5, B (f_changed b g (f_within page 0 (4 - 1)) (fun x => ({ x with live := f_withSlot x.live page (f_slotAt x.written page) } : TGuest))).2] fun ac w β S => ?_
 have o29 := ow_Bare (x := (f_changed b g (f_within page 0 (4 - 1)) (fun x => ({ x with live := f_withSlot x.live page (f_slotAt x.written page) } : TGuest))).1) (p := q5) o17 o20 o23 d26 d27 d28 i25
 exact ret2_of (p' := ()) S (show (f_bareFlush b g page).1 = (f_changed b g (f_within page 0 (4 - 1)) (fun x => ({ x with live := f_withSlot x.live page (f_slotAt x.written page) } : TGuest))).1 by clear S; rfl) (show (f_bareFlush b g page).2 = (f_changed b g (f_within page 0 (4 - 1)) (fun x => ({ x with live := f_withSlot x.live page (f_slotAt x.written page) } : TGuest))).2 by clear S; rfl) rfl rfl o29 trivial

theorem c_impl_HostFlush_1 (w0 : World) (b : TBare) (pb : PBare) (hb : RD w0 b pb) (g : Int) (qg : LP Int) (hg : RD w0 [g] qg) (page : Int) (qpage : LP Int) (hpage : RD w0 [page] qpage) : Calls Try.prog 72 [GT.val b pb, pt qg.1.b (qg.1.off + 0 * 1), pt qpage.1.b (qpage.1.off + 0 * 1)].toArray w0 (Ret2 NoB w0 ((f_bareFlush b g page).1 : TBare) ((f_bareFlush b g page).2 : Bool)) := by
 refine Calls.run NoB Try.func72 ?_
 intro ac β S
 have hleb_mem : b.mem.length ≤ 4194304 := LRd.le (RBare.mem (d := b) hb)
 have hleb_guests : b.guests.length ≤ 4194304 := LRd.le (RBare.guests (d := b) hb)
 have hleb_outs : b.outs.length ≤ 4194304 := LRd.le (RBare.outs (d := b) hb)
 refine S.go 12 (.cons (Q_el1 (S.arg hg) (t := 3) (k := 0) (Nat.succ_pos 0) rfl (by kernel_rfl)) (.cons (Q_el1 (S.arg hpage) (t := 3) (k := 0) (Nat.succ_pos 0) rfl (by kernel_rfl)) .nil)) fun ac w β S => S.K2 (r := (f_bareFlush b g page).1) (r' := (f_bareFlush b g page).2) (d := 9) (c_impl_BareFlush w b pb (S.rd (S.arg hb)) g page (show In64 page from LRd.el (S.arg hpage) 0 (Nat.succ_pos 0))) fun ac w N q1 q2 F3 F4 S up o5 o6 d7 d8 d9 => ?_
 clear up d7
 clear d8
 have i19 : In64 (f_bareFlush b g page).1.pend := RBare.pend (d := (f_bareFlush b g page).1) o5.rn
 obtain ⟨F10, F13, F16, o11, o14, o17, s12, s15, s18, d20, d21, d22⟩ := sp_Bare o5
 refine S.gr 7 .nil [GT.val (f_bareFlush b g page).1 q1, B (f_bareFlush b g page).2] fun ac w β S => ?_
 have o23 := ow_Bare (x := (f_bareFlush b g page).1) (p := q1) o11 o14 o17 d20 d21 d22 i19
 exact ret2_of (p' := ()) S (show (f_bareFlush b g page).1 = (f_bareFlush b g page).1 by clear S; rfl) (show (f_bareFlush b g page).2 = (f_bareFlush b g page).2 by clear S; rfl) rfl rfl o23 trivial

theorem c_impl_copyKept (w0 : World) (k : TKept) (pk : PKept) (hk : RD w0 k pk) : Calls Try.prog 50 [GT.val k pk].toArray w0 (Ret1 NoB w0 (k : TKept)) := by
 refine Calls.run NoB Try.func50 ?_
 intro ac β S
 have hlek_known : k.known.length ≤ 4194304 := LRd.le (RKept.known (d := k) hk)
 have hlek_slots : k.slots.length ≤ 4194304 := LRd.le (RKept.slots (d := k) hk)
 refine S.go 7 .nil fun ac w β S => ?_
 refine drw ?_
 refine S.draw0 (f := 9) 8 (by kernel_rfl) (by kernel_rfl) fun w S => ?_
 refine S.hq 1 [1] [] [(4, .p 0 0)] .nil fun ac S => ?_
 refine S.hq 2 [2] [] [(5, .v (slv k.known.length pk.known.1))] .nil fun ac S => ?_
 refine S.hq 4 [4] [] [(7, .p 0 1)] .nil fun ac S => ?_
 refine S.hq 5 [5] [] [(8, .v (slv k.slots.length pk.slots.1))] .nil fun ac S => ?_
 refine WD.one (i := 0) (by kernel_rfl) ?_
 refine id (S.bs0 (α := Bool) (d := 3) (by kernel_rfl) fun ac w N q1 F2 S up o3 d4 => ?_)
 have hb5 := fun b h => (⟨(up b h).1, (up b h).2, d4 b h⟩ : _ ∧ _ ∧ _)
 refine WD.keep S up (by kernel_rfl) ?_
 clear up d4
 refine WD.one (i := 3) (by kernel_rfl) ?_
 have b10 : k.known.length ≤ 4194304 := LRd.le (RKept.known (d := k) (S.arg hk))
 refine id (S.appFlat0 (α := Bool) o3 (RKept.known (d := k) (S.arg hk)) (fun _ _ h => h) (by' := 1) (d := 6) (lx := 0) (ly := k.known.length) rfl fun ac w N q6 F7 S up o8 d9 => ?_)
 have hb11 := fun b h => (⟨(up b (hb5 b h).1 (hb5 b h).2.2).1, (up b (hb5 b h).1 (hb5 b h).2.2).2.trans (hb5 b h).2.1⟩ : _ ∧ _)
 refine WD.next S hb11 (by kernel_rfl) ?_
 clear up d9
 refine WD.one (i := 6) (by kernel_rfl) ?_
 refine id (S.k1 9 (c_impl_copyTable w k.slots pk.slots (S.rd (RKept.slots (d := k) (S.arg hk)))) fun ac w N q12 F13 S up o14 d15 => ?_)
 refine WD.next S up (by kernel_rfl) ?_
 have d16 := Disj.w d15 o8.sub
 replace o8 := o8.up up
 clear up d15
 refine S.hq 7 [7] [] [(10, .v (GT.val (⟨k.known, k.slots⟩ : TKept) (⟨q6, q12⟩ : PKept)))] (.cons (Q_sem (s := Instr.build 45 [(0, slv k.known.length q6.1), (1, slv k.slots.length q12.1)].toArray) (v := .agg [slv k.known.length q6.1, slv k.slots.length q12.1].toArray) (fun w => by kernel_rfl)) .nil) fun ac S => ?_
 refine WD.one (i := 8) (by kernel_rfl) ?_
 refine S.stepq (i := 8) (keep := [2]) (m := 2) (σ' := ⟨[(2, .p 1 0)], [GT.cells k pk, [slv k.known.length q6.1, slv k.slots.length q12.1]]⟩) .nil (by kernel_rfl) fun ac w β S hβ => ?_
 refine WD.last (by kernel_rfl) ?_
 clear hβ
 refine WD.done (by kernel_rfl) ?_ _
 refine S.ex fun S => ?_
 refine S.gr 2 .nil [GT.val (⟨k.known, k.slots⟩ : TKept) (⟨q6, q12⟩ : PKept)] fun ac w β S => ?_
 have o17 := ow_Kept (x := (⟨k.known, k.slots⟩ : TKept)) (p := (⟨q6, q12⟩ : PKept)) o8 o14 d16 
 exact ret1_of S (show k = (⟨k.known, k.slots⟩ : TKept) by clear S; (first | rfl | simp)) rfl o17

theorem c_impl_copyMon (w0 : World) (m : TMon) (pm : PMon) (hm : RD w0 m pm) : Calls Try.prog 111 [GT.val m pm].toArray w0 (Ret1 NoB w0 (m : TMon)) := by
 refine Calls.run NoB Try.func111 ?_
 intro ac β S
 have hlem_outer : m.outer.length ≤ 4194304 := LRd.le (RMon.outer (d := m) hm)
 have hlem_out : m.out.length ≤ 4194304 := LRd.le (RMon.out (d := m) hm)
 have hlem_dirty : m.dirty.length ≤ 4194304 := LRd.le (RMon.dirty (d := m) hm)
 have hlem_guests : m.guests.length ≤ 4194304 := LRd.le (RMon.guests (d := m) hm)
 have hlem_outs : m.outs.length ≤ 4194304 := LRd.le (RMon.outs (d := m) hm)
 have hlem_tables : m.tables.length ≤ 4194304 := LRd.le (RMon.tables (d := m) hm)
 refine S.go 10 .nil fun ac w β S => S.K1 (r := m.outer) (d := 8) (c_impl_copyTable w m.outer pm.outer (S.rd (RMon.outer (d := m) (S.arg hm)))) fun ac w N q1 F2 S up o3 d4 => ?_
 clear up d4
 refine S.go 8 .nil fun ac w β S => S.K1 (r := m.out) (d := 12) (c_impl_copyMem w m.out pm.out (S.rd (RMon.out (d := m) (S.arg hm)))) fun ac w N q5 F6 S up o7 d8 => ?_
 have d9 := Disj.w d8 o3.sub
 replace o3 := o3.up up
 clear up d8
 refine S.go 6 .nil fun ac w β S => S.B0 (α := Bool) (d := 14) fun ac w N q10 F11 S up o12 d13 => ?_
 have d14 := Disj.w d13 o3.sub
 have d15 := Disj.w d13 o7.sub
 replace o3 := o3.up up
 replace o7 := o7.up up
 clear up d13
 have b20 : m.dirty.length ≤ 4194304 := LRd.le (RMon.dirty (d := m) (S.arg hm))
 refine S.go 2 .nil fun ac w β S => S.AF0 (α := Bool) o12 (RMon.dirty (d := m) (S.arg hm)) (fun _ _ h => h) (by' := 1) (d := 17) (lx := 0) (ly := m.dirty.length) rfl fun ac w N q16 F17 S up o18 d19 => ?_
 have d21 := d19 _ d14 o3.sub
 have d22 := d19 _ d15 o7.sub
 replace o3 := o3.upF d14 up
 replace o7 := o7.upF d15 up
 clear up d19
 refine S.go 8 .nil fun ac w β S => S.K1 (r := m.guests) (d := 21) (c_impl_copyGuests w m.guests pm.guests (S.rd (RMon.guests (d := m) (S.arg hm)))) fun ac w N q23 F24 S up o25 d26 => ?_
 have d27 := Disj.w d26 o3.sub
 have d28 := Disj.w d26 o7.sub
 have d29 := Disj.w d26 o18.sub
 replace o3 := o3.up up
 replace o7 := o7.up up
 replace o18 := o18.up up
 clear up d26
 refine S.go 8 .nil fun ac w β S => S.K1 (r := m.outs) (d := 25) (c_impl_copyInts w m.outs pm.outs (S.rd (RMon.outs (d := m) (S.arg hm)))) fun ac w N q30 F31 S up o32 d33 => ?_
 have d34 := Disj.w d33 o3.sub
 have d35 := Disj.w d33 o7.sub
 have d36 := Disj.w d33 o18.sub
 have d37 := Disj.w d33 o25.sub
 replace o3 := o3.up up
 replace o7 := o7.up up
 replace o18 := o18.up up
 replace o25 := o25.up up
 clear up d33
 refine S.go 6 .nil fun ac w β S => S.B0 (α := TKept) (d := 27) fun ac w N q38 F39 S up o40 d41 => ?_
 have d42 := Disj.w d41 o3.sub
 have d43 := Disj.w d41 o7.sub
 have d44 := Disj.w d41 o18.sub
 have d45 := Disj.w d41 o25.sub
 have d46 := Disj.w d41 o32.sub
 replace o3 := o3.up up
 replace o7 := o7.up up
 replace o18 := o18.up up
 replace o25 := o25.up up
 replace o32 := o32.up up
 clear up d41
 refine S.go 13 .nil fun ac w β S => ?_
 refine lp (fun mm ac w => ∃ (k : Nat) (acc : List TKept) (q47 : _) (F48 : _) (u : _) (N : _) (β : _), mm = m.tables.length - k ∧ (k ≤ m.tables.length) ∧ (acc = m.tables.take k) ∧ St Try.prog Try.f111.ntmps w0 NoB u N β ⟨[(1, .p 0 0), (2, .p 1 0), (3, .v (slv acc.length q47.1)), (29, .v (slv m.tables.length pm.tables.1)), (30, .v (I (m.tables.length : Int))), (31, .v (I (k : Int)))], [[slv m.outer.length q1.1, slv m.out.length q5.1, slv m.dirty.length q16.1, slv m.guests.length q23.1, slv m.outs.length q30.1, I m.pend, I m.traps, slv m.tables.length pm.tables.1, I m.owned], Zc TMon]⟩ ac w ∧ Ow w0 NoB u N F48 acc q47 ∧ Ow w0 NoB u N F2 m.outer q1 ∧ Ow w0 NoB u N F6 m.out q5 ∧ Ow w0 NoB u N F17 m.dirty q16 ∧ Ow w0 NoB u N F24 m.guests q23 ∧ Ow w0 NoB u N F31 m.outs q30 ∧ Disj F48 F2 ∧ Disj F48 F6 ∧ Disj F48 F17 ∧ Disj F48 F24 ∧ Disj F48 F31) _ ⟨0, ([] : List TKept), q38, F39, _, _, _, rfl, o0, (by simp), S.z, o40, o3, o7, o18, o25, o32, (Disj.symm d42), (Disj.symm d43), (Disj.symm d44), (Disj.symm d45), (Disj.symm d46)⟩ ?_
 clear S o18 o25 o3 o32 o40 o7
 rintro f55 mm hf56 ac w ⟨k, acc, q47, F48, u, N, β, rfl, hk, hacc, S, o49, o3, o7, o18, o25, o32, d50, d51, d52, d53, d54⟩
 refine S.rs fun S => ?_
 have hlacc : acc.length = k := by rw [hacc]; simp; omega
 refine S.gd 6 .nil (decide ((k : Int) < (m.tables.length : Int))) (fun ac w β h57 g58 S => ?_) (fun ac w β h57 g58 S => ?_)
 ·refine S.go 16 (.cons (qn (RMon.tables (d := m) (S.arg hm)) k Try.underlying40) (.cons (qs (RMon.tables (d := m) (S.arg hm)) 45 k) .nil)) fun ac w β S => S.K1 (r := (el m.tables k)) (d := 37) (c_impl_copyKept w (el m.tables k) (pm.tables.2 k) (S.rd (LRd.el (RMon.tables (d := m) (S.arg hm)) k (by omega)))) fun ac w N q59 F60 S up o61 d62 => ?_
  have d63 := Disj.w d62 o49.sub
  have d64 := Disj.w d62 o3.sub
  have d65 := Disj.w d62 o7.sub
  have d66 := Disj.w d62 o18.sub
  have d67 := Disj.w d62 o25.sub
  have d68 := Disj.w d62 o32.sub
  replace o49 := o49.up up
  replace o3 := o3.up up
  replace o7 := o7.up up
  replace o18 := o18.up up
  replace o25 := o25.up up
  replace o32 := o32.up up
  clear up d62
  obtain ⟨F69, F72, o70, o73, s71, s74, d75⟩ := sp_Kept o61
  have o80 := ow_Kept (x := (el m.tables k)) (p := q59) o70 o73 d75 
  refine S.B1 (α := TKept) (x := (el m.tables k)) (p := q59) o80.own o80.sub o80.young (d := 38) fun ac w N q76 F77 S up o78 d79 => ?_
  have d81 := d79 _ (Disj.symm (Disj.or (Disj.part (Disj.symm d63) s71) (Disj.or (Disj.part (Disj.symm d63) s74) Disj.nob))) o49.sub
  have d82 := d79 _ (Disj.symm (Disj.or (Disj.part (Disj.symm d64) s71) (Disj.or (Disj.part (Disj.symm d64) s74) Disj.nob))) o3.sub
  have d83 := d79 _ (Disj.symm (Disj.or (Disj.part (Disj.symm d65) s71) (Disj.or (Disj.part (Disj.symm d65) s74) Disj.nob))) o7.sub
  have d84 := d79 _ (Disj.symm (Disj.or (Disj.part (Disj.symm d66) s71) (Disj.or (Disj.part (Disj.symm d66) s74) Disj.nob))) o18.sub
  have d85 := d79 _ (Disj.symm (Disj.or (Disj.part (Disj.symm d67) s71) (Disj.or (Disj.part (Disj.symm d67) s74) Disj.nob))) o25.sub
  have d86 := d79 _ (Disj.symm (Disj.or (Disj.part (Disj.symm d68) s71) (Disj.or (Disj.part (Disj.symm d68) s74) Disj.nob))) o32.sub
  replace o49 := o49.up up
  replace o3 := o3.up up
  replace o7 := o7.up up
  replace o18 := o18.up up
  replace o25 := o25.up up
  replace o32 := o32.up up
  clear up d79
  refine S.AO (α := TKept) o49 o78 d81 (by' := 48) (d := 39) (lx := acc.length) (ly := 1) rfl rfl (show _ ≤ 4194304 by simp only [List.length_append, List.length_cons, List.length_nil]; omega) fun ac w N q87 F88 S up o89 d90 => ?_
  have d91 := d90 _ (Disj.symm d50) d82 o3.sub
  have d92 := d90 _ (Disj.symm d51) d83 o7.sub
  have d93 := d90 _ (Disj.symm d52) d84 o18.sub
  have d94 := d90 _ (Disj.symm d53) d85 o25.sub
  have d95 := d90 _ (Disj.symm d54) d86 o32.sub
  replace o3 := o3.upF (Disj.symm d50) up
  replace o7 := o7.upF (Disj.symm d51) up
  replace o18 := o18.upF (Disj.symm d52) up
  replace o25 := o25.upF (Disj.symm d53) up
  replace o32 := o32.upF (Disj.symm d54) up
  clear up d90
  refine S.ge 8 (.cons (qp (k : Int) 1) .nil) f55 fun ac w β S => hf56.of (m.tables.length - (k + 1)) _ _ (by omega) ⟨k + 1, (acc ++ [(el m.tables k)]), q87, F88, _, _, _, rfl, ?_, ?_, S.z, o89, o3, o7, o18, o25, o32, (Disj.symm d91), (Disj.symm d92), (Disj.symm d93), (Disj.symm d94), (Disj.symm d95)⟩
  ·exact oz
  ·clear S; (first | (rw [take_el (by omega), hacc]; done) | (rw [take_el (by omega), hacc]; simp; done))
 refine S.gr 20 .nil [GT.val (⟨m.outer, m.out, m.dirty, m.guests, m.outs, m.pend, m.traps, acc, m.owned⟩ : TMon) (⟨q1, q5, q16, q23, q30, q47⟩ : PMon)] fun ac w β S => ?_
 have o96 := ow_Mon (x := (⟨m.outer, m.out, m.dirty, m.guests, m.outs, m.pend, m.traps, acc, m.owned⟩ : TMon)) (p := (⟨q1, q5, q16, q23, q30, q47⟩ : PMon)) o3 o7 o18 o25 o32 o49 d9 d21 d27 d34 (Disj.symm d50) d22 d28 d35 (Disj.symm d51) d29 d36 (Disj.symm d52) d37 (Disj.symm d53) (Disj.symm d54) (RMon.pend (d := m) (S.arg hm)) (RMon.traps (d := m) (S.arg hm)) (RMon.owned (d := m) (S.arg hm))
 exact ret1_of S (show m = (⟨m.outer, m.out, m.dirty, m.guests, m.outs, m.pend, m.traps, acc, m.owned⟩ : TMon) by clear S; (first | rfl | (rw [hacc, take_all (by omega)]; done) | (rw [hacc, take_all (by omega)]; simp; done) | simp)) rfl o96

end Go.Proofs.Ytgonaioedbphgaa
