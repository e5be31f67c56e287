/- The walks: what each function that the laws reach computes (part 1). -/
import Derived.Test.YtgonaioedbphgaaGreatA1
import Derived.Test.YtgonaioedbphgaaGreatA2
import Derived.Test.YtgonaioedbphgaaGreatA3
import Derived.Test.YtgonaioedbphgaaGreatProg
import Derived.KernelRfl
namespace Go.Proofs.YtgonaioedbphgaaGreat
open Go
set_option linter.unusedVariables false
set_option linter.unusedSimpArgs false
set_option maxRecDepth 100000
set_option maxHeartbeats 2000000

theorem c_laws_big (w0 : World) (code : List TByte) (pcode : LP TByte) (hcode : GT.rd KR (Lt w0.heap.size) w0 code pcode) : Calls Tryz.prog 6 [slv code.length pcode.1].toArray w0 (fun e w' => e = .returned (B (decide (((code.length : Nat) : Int) > 1048576))) ∧ Chg NoB w0 w') := by
 refine Calls.run NoB Tryz.func6 ?_
 intro ac β S
 have hlecode : code.length ≤ 9223372036854775807 := LRd.le hcode
 exact S.gf 14 .nil [B (decide ((code.length : Int) > 1048576))] (retB (by clear S; rfl))

theorem k0_spec_Brought {p : Prop} (h : p := by clear S; (unfold f_brought; (repeat' split) <;> first | rfl | omega | (exfalso; simp_all; omega))) : p := h
theorem c_spec_Brought (w0 : World) (n : Int) (a : Int) (b : Int) : Calls Tryz.prog 109 [I n, I a, I b].toArray w0 (fun e w' => e = .returned (I (f_brought n a b)) ∧ Chg NoB w0 w') := by
 refine Calls.run NoB Tryz.func109 ?_
 intro ac β S
 refine S.gd 12 .nil (decide (b < a)) (fun ac w β h1 g2 S => ?_) (fun ac w β h1 g2 S => ?_)
 ·exact S.gf 14 .nil [I a] (retI k0_spec_Brought)
 refine S.gd 6 .nil (decide (n < a)) (fun ac w β h3 g4 S => ?_) (fun ac w β h3 g4 S => ?_)
 ·exact S.gf 8 .nil [I a] (retI k0_spec_Brought)
 refine S.gd 11 .nil (decide (n > b)) (fun ac w β h5 g6 S => ?_) (fun ac w β h5 g6 S => ?_)
 ·exact S.gf 8 .nil [I b] (retI k0_spec_Brought)
 exact S.gf 10 .nil [I n] (retI k0_spec_Brought)

theorem c_spec_MemNew (w0 : World) (n : Int) : Calls Tryz.prog 49 [I n].toArray w0 (Ret1 NoB w0 ((List.replicate (f_brought n 0 24).toNat (List.replicate 4 (0 : Int))) : List (List Int))) := by
 refine Calls.run NoB Tryz.func49 ?_
 intro ac β S
 refine S.go 7 .nil fun ac w β S => S.B0 (α := List Int) (d := 5) fun ac w N q1 F2 S up o3 d4 => ?_
 clear up d4
 refine S.go 12 (.cons (Q_call fun w hw => c_spec_Brought w n 0 24) .nil) fun ac w β S => ?_
 refine lp (fun mm ac w => ∃ (i : Int) (acc : List (List Int)) (q5 : _) (F6 : _) (u : _) (N : _) (β : _), mm = i.toNat ∧ (0 ≤ i ∧ i ≤ f_brought n 0 24) ∧ (acc = List.replicate (f_brought n 0 24 - i).toNat (List.replicate 4 0)) ∧ St Tryz.prog Tryz.f49.ntmps w0 NoB u N β ⟨[(3, .v (slv acc.length q5.1)), (4, .v (I i))], []⟩ ac w ∧ Ow w0 NoB u N F6 acc q5) _ ⟨(f_brought n 0 24), ([] : List (List Int)), q1, F2, _, _, _, rfl, (by (have hb := brought_bd n); omega), (by (rw [show (f_brought n 0 24 - f_brought n 0 24).toNat = 0 by omega]; rfl)), S.z, o3⟩ ?_
 clear S o3
 rintro f8 mm hf9 ac w ⟨i, acc, q5, F6, u, N, β, rfl, hi, hacc, S, o7⟩
 refine S.rs fun S => ?_
 have hb := brought_bd n
 have hlacc : acc.length ≤ 24 := by rw [hacc, List.length_replicate]; omega
 refine S.gd 7 .nil (decide (i > 0)) (fun ac w β h10 g11 S => ?_) (fun ac w β h10 g11 S => ?_)
 ·refine S.go 7 .nil fun ac w β S => S.Mk (α := Int) (m := 4) (by' := 8) (d := 13) (by omega) (show 4 ≤ 4194304 by omega) fun ac w N q12 F13 S up o14 d15 => ?_
  have d16 := Disj.w d15 o7.sub
  replace o7 := o7.up up
  clear up d15
  refine S.B1 (α := List Int) (x := (List.replicate 4 (GT.dflt : Int))) (p := q12) o14.own o14.sub o14.young (d := 14) fun ac w N q17 F18 S up o19 d20 => ?_
  have d21 := d20 _ d16 o7.sub
  replace o7 := o7.up up
  clear up d20
  refine S.AO (α := List Int) o7 o19 d21 (by' := 24) (d := 15) (lx := acc.length) (ly := 1) rfl rfl (show _ ≤ 4194304 by simp only [List.length_append, List.length_cons, List.length_nil]; omega) fun ac w N q22 F23 S up o24 d25 => ?_
  clear up d25
  refine S.ge 9 (.cons (qm i 1) .nil) f8 fun ac w β S => hf9.of (i - 1).toNat _ _ (by omega) ⟨(i - 1), (acc ++ [(List.replicate 4 (GT.dflt : Int))]), q22, F23, _, _, _, rfl, ?_, ?_, S.z, o24⟩
  ·clear S; omega
  ·clear S; (rw [hacc]; exact (repl_next (by omega)).symm)
 refine S.gr 13 .nil [slv acc.length q5.1] fun ac w β S => ?_
 exact ret1_of S (show (List.replicate (f_brought n 0 24).toNat (List.replicate 4 (0 : Int))) = acc by clear S; (rw [hacc, show i = 0 by omega, Int.sub_zero])) rfl o7

theorem c_spec_NoSlot (w0 : World)  : Calls Tryz.prog 111 [].toArray w0 (fun e w' => e = .returned (GT.val (⟨-1, 0⟩ : TSlot) ()) ∧ Chg NoB w0 w') := by
 refine Calls.run NoB Tryz.func111 ?_
 intro ac β S
 exact S.gf 12 (.cons (Q_sem (s := Instr.build 44 [(0, I (-1))].toArray) (v := .agg [I (-1), I 0].toArray) (fun w => by kernel_rfl)) .nil) [GT.val (⟨(-1), 0⟩ : TSlot) ()] (retV (p := ()) (by clear S; first | rfl | (simp [id, *]; done) | (simp [id, *]; omega) | (simp_all [id]; done) | (simp_all [id]; omega)))

theorem c_spec_TableNew (w0 : World) (n : Int) : Calls Tryz.prog 110 [I n].toArray w0 (Ret1 NoB w0 ((List.replicate (f_brought n 0 24).toNat (⟨-1, 0⟩ : TSlot)) : List TSlot)) := by
 refine Calls.run NoB Tryz.func110 ?_
 intro ac β S
 refine S.go 7 .nil fun ac w β S => S.B0 (α := TSlot) (d := 5) fun ac w N q1 F2 S up o3 d4 => ?_
 clear up d4
 refine S.go 12 (.cons (Q_call fun w hw => c_spec_Brought w n 0 24) .nil) fun ac w β S => ?_
 refine lp (fun mm ac w => ∃ (i : Int) (acc : List TSlot) (q5 : _) (F6 : _) (u : _) (N : _) (β : _), mm = i.toNat ∧ (0 ≤ i ∧ i ≤ f_brought n 0 24) ∧ (acc = List.replicate (f_brought n 0 24 - i).toNat (⟨-1, 0⟩ : TSlot)) ∧ St Tryz.prog Tryz.f110.ntmps w0 NoB u N β ⟨[(3, .v (slv acc.length q5.1)), (4, .v (I i))], []⟩ ac w ∧ Ow w0 NoB u N F6 acc q5) _ ⟨(f_brought n 0 24), ([] : List TSlot), q1, F2, _, _, _, rfl, (by (have hb := brought_bd n); omega), (by (rw [show (f_brought n 0 24 - f_brought n 0 24).toNat = 0 by omega]; rfl)), S.z, o3⟩ ?_
 clear S o3
 rintro f8 mm hf9 ac w ⟨i, acc, q5, F6, u, N, β, rfl, hi, hacc, S, o7⟩
 refine S.rs fun S => ?_
 have hb := brought_bd n
 have hlacc : acc.length ≤ 24 := by rw [hacc, List.length_replicate]; omega
 refine S.gd 7 .nil (decide (i > 0)) (fun ac w β h10 g11 S => ?_) (fun ac w β h10 g11 S => ?_)
 ·refine S.go 8 (.cons (Q_call fun w hw => c_spec_NoSlot w ) .nil) fun ac w β S => S.B1 (α := TSlot) (x := (⟨-1, 0⟩ : TSlot)) (p := ()) (F := NoB) (show RSlot ⟨-1, 0⟩ from ⟨⟨by decide, by decide⟩, ⟨by decide, by decide⟩⟩) (fun b h => False.elim h) (fun b h => False.elim h) (d := 14) fun ac w N q12 F13 S up o14 d15 => ?_
  replace o7 := o7.up up
  clear up d15
  refine S.AF (α := TSlot) o7 o14.rn (fun _ _ h => h) (by' := 16) (d := 15) (lx := acc.length) (ly := 1) rfl rfl (show _ ≤ 4194304 by simp only [List.length_append, List.length_cons, List.length_nil]; omega) fun ac w N q17 F18 S up o19 d20 => ?_
  clear up d20
  refine S.ge 9 (.cons (qm i 1) .nil) f8 fun ac w β S => hf9.of (i - 1).toNat _ _ (by omega) ⟨(i - 1), (acc ++ [((⟨-1, 0⟩ : TSlot))]), q17, F18, _, _, _, rfl, ?_, ?_, S.z, o19⟩
  ·clear S; omega
  ·clear S; (rw [hacc]; exact (repl_next (by omega)).symm)
 refine S.gr 13 .nil [slv acc.length q5.1] fun ac w β S => ?_
 exact ret1_of S (show (List.replicate (f_brought n 0 24).toNat (⟨-1, 0⟩ : TSlot)) = acc by clear S; (rw [hacc, show i = 0 by omega, Int.sub_zero])) rfl o7

theorem c_spec_GuestNew (w0 : World) (p : List TIns) (pp : LP TIns) (hp : RD w0 p pp) : Calls Tryz.prog 50 [slv p.length pp.1].toArray w0 (Ret1 NoB w0 (f_guestNew p : TGuest)) := by
 refine Calls.run NoB Tryz.func50 ?_
 intro ac β S
 have hlep : p.length ≤ 4194304 := LRd.le hp
 refine S.go 7 .nil fun ac w β S => S.B0 (α := TIns) (d := 3) fun ac w N q1 F2 S up o3 d4 => ?_
 clear up d4
 have b9 : p.length ≤ 4194304 := LRd.le (S.arg hp)
 refine S.go 1 .nil fun ac w β S => S.AF0 (α := TIns) o3 (S.arg hp) (fun _ _ h => h) (by' := 16) (d := 5) (lx := 0) (ly := p.length) rfl fun ac w N q5 F6 S up o7 d8 => ?_
 clear up d8
 have b10 := (List.length_replicate : (List.replicate (f_brought 4 0 24).toNat (⟨-1, 0⟩ : TSlot)).length = (f_brought 4 0 24).toNat)
 refine S.K1 (r := (List.replicate (f_brought 4 0 24).toNat (⟨-1, 0⟩ : TSlot))) (d := 6) (c_spec_TableNew w 4) fun ac w N q11 F12 S up o13 d14 => ?_
 have d15 := Disj.w d14 o7.sub
 replace o7 := o7.up up
 clear up d14
 have b16 := (List.length_replicate : (List.replicate (f_brought 4 0 24).toNat (⟨-1, 0⟩ : TSlot)).length = (f_brought 4 0 24).toNat)
 refine S.K1 (r := (List.replicate (f_brought 4 0 24).toNat (⟨-1, 0⟩ : TSlot))) (d := 7) (c_spec_TableNew w 4) fun ac w N q17 F18 S up o19 d20 => ?_
 have d21 := Disj.w d20 o7.sub
 have d22 := Disj.w d20 o13.sub
 replace o7 := o7.up up
 replace o13 := o13.up up
 clear up d20
 refine S.gr 5 (.cons (Q_sem (s := Instr.build 51 [(0, slv p.length q5.1), (3, slv (List.replicate (f_brought 4 0 24).toNat (⟨-1, 0⟩ : TSlot)).length q11.1), (4, slv (List.replicate (f_brought 4 0 24).toNat (⟨-1, 0⟩ : TSlot)).length q17.1)].toArray) (v := .agg [slv p.length q5.1, I 0, I 0, slv (List.replicate (f_brought 4 0 24).toNat (⟨-1, 0⟩ : TSlot)).length q11.1, slv (List.replicate (f_brought 4 0 24).toNat (⟨-1, 0⟩ : TSlot)).length q17.1, I 0, I 0, B false, I 0, I 0, I 0, B false, I 0, B false, slv ([] : List Int).length (GT.pdflt (α := List Int)).1].toArray) (fun w => by kernel_rfl)) .nil) [GT.val (⟨p, 0, 0, (List.replicate (f_brought 4 0 24).toNat (⟨-1, 0⟩ : TSlot)), (List.replicate (f_brought 4 0 24).toNat (⟨-1, 0⟩ : TSlot)), (⟨0, 0, false⟩ : TCtl), 0, (⟨0, 0, false, 0⟩ : TExit), false, ([] : List Int)⟩ : TGuest) (⟨q5, q11, q17, (GT.pdflt (α := List Int))⟩ : PGuest)] fun ac w β S => ?_
 have o23 := S.nilOw (α := Int)
 have o24 := ow_Guest (x := (⟨p, 0, 0, (List.replicate (f_brought 4 0 24).toNat (⟨-1, 0⟩ : TSlot)), (List.replicate (f_brought 4 0 24).toNat (⟨-1, 0⟩ : TSlot)), (⟨0, 0, false⟩ : TCtl), 0, (⟨0, 0, false, 0⟩ : TExit), false, ([] : List Int)⟩ : TGuest)) (p := (⟨q5, q11, q17, (GT.pdflt (α := List Int))⟩ : PGuest)) o7 o13 o19 o23 d15 d21 (fun b _ h => False.elim h) d22 (fun b _ h => False.elim h) (fun b _ h => False.elim h) (show In64 0 from ⟨by decide, by decide⟩) (show In64 0 from ⟨by decide, by decide⟩) (show RCtl (⟨0, 0, false⟩ : TCtl) from ⟨(show In64 0 from ⟨by decide, by decide⟩), (show In64 0 from ⟨by decide, by decide⟩)⟩) (show In64 0 from ⟨by decide, by decide⟩) (show RExit (⟨0, 0, false, 0⟩ : TExit) from ⟨(show In64 0 from ⟨by decide, by decide⟩), (show In64 0 from ⟨by decide, by decide⟩), (show In64 0 from ⟨by decide, by decide⟩)⟩)
 exact ret1_of S (show f_guestNew p = (⟨p, 0, 0, (List.replicate (f_brought 4 0 24).toNat (⟨-1, 0⟩ : TSlot)), (List.replicate (f_brought 4 0 24).toNat (⟨-1, 0⟩ : TSlot)), (⟨0, 0, false⟩ : TCtl), 0, (⟨0, 0, false, 0⟩ : TExit), false, ([] : List Int)⟩ : TGuest) by clear S; (first | rfl | (simp [f_guestNew]; rfl))) rfl o24

theorem c_spec_KeptNew (w0 : World) (n : Int) : Calls Tryz.prog 116 [I n].toArray w0 (Ret1 NoB w0 (f_keptNew n : TKept)) := by
 refine Calls.run NoB Tryz.func116 ?_
 intro ac β S
 have hb := brought_bd n
 have b1 := (List.length_replicate : (List.replicate (f_brought n 0 24).toNat (⟨-1, 0⟩ : TSlot)).length = (f_brought n 0 24).toNat)
 refine S.go 8 .nil fun ac w β S => S.K1 (r := (List.replicate (f_brought n 0 24).toNat (⟨-1, 0⟩ : TSlot))) (d := 5) (c_spec_TableNew w n) fun ac w N q2 F3 S up o4 d5 => ?_
 clear up d5
 refine S.go 7 .nil fun ac w β S => S.Mk (α := Bool) (m := (List.replicate (f_brought n 0 24).toNat (⟨-1, 0⟩ : TSlot)).length) (by' := 1) (d := 8) (by omega) (show (List.replicate (f_brought n 0 24).toNat (⟨-1, 0⟩ : TSlot)).length ≤ 4194304 by omega) fun ac w N q6 F7 S up o8 d9 => ?_
 have d10 := Disj.w d9 o4.sub
 replace o4 := o4.up up
 clear up d9
 replace S := S.z (σ' := ⟨[(2, .p 0 0), (3, .v (slv (List.replicate (f_brought n 0 24).toNat (⟨-1, 0⟩ : TSlot)).length q2.1)), (7, .v (I ((List.replicate (f_brought n 0 24).toNat (⟨-1, 0⟩ : TSlot)).length : Int))), (8, .v (slv (List.replicate (f_brought n 0 24).toNat (⟨-1, 0⟩ : TSlot)).length q6.1))], [Zc TKept]⟩)
 replace S := S.cast (σ' := ⟨[(2, .p 0 0), (3, .v (slv (List.replicate (f_brought n 0 24).toNat (⟨-1, 0⟩ : TSlot)).length q2.1)), (7, .v (I ((List.replicate (f_brought n 0 24).toNat (⟨-1, 0⟩ : TSlot)).length : Int))), (8, .v (slv (List.replicate (List.replicate (f_brought n 0 24).toNat (⟨-1, 0⟩ : TSlot)).length (GT.dflt : Bool)).length q6.1))], [Zc TKept]⟩) (by rw [show (List.replicate (List.replicate (f_brought n 0 24).toNat (⟨-1, 0⟩ : TSlot)).length (GT.dflt : Bool)).length = (List.replicate (f_brought n 0 24).toNat (⟨-1, 0⟩ : TSlot)).length from List.length_replicate])
 refine S.is fun S => ?_
 refine S.gr 6 (.cons (Q_sem (s := Instr.build 106 [(0, slv (List.replicate (List.replicate (f_brought n 0 24).toNat (⟨-1, 0⟩ : TSlot)).length (GT.dflt : Bool)).length q6.1), (1, slv (List.replicate (f_brought n 0 24).toNat (⟨-1, 0⟩ : TSlot)).length q2.1)].toArray) (v := .agg [slv (List.replicate (List.replicate (f_brought n 0 24).toNat (⟨-1, 0⟩ : TSlot)).length (GT.dflt : Bool)).length q6.1, slv (List.replicate (f_brought n 0 24).toNat (⟨-1, 0⟩ : TSlot)).length q2.1].toArray) (fun w => by kernel_rfl)) .nil) [GT.val (⟨(List.replicate (List.replicate (f_brought n 0 24).toNat (⟨-1, 0⟩ : TSlot)).length (GT.dflt : Bool)), (List.replicate (f_brought n 0 24).toNat (⟨-1, 0⟩ : TSlot))⟩ : TKept) (⟨q6, q2⟩ : PKept)] fun ac w β S => ?_
 have o11 := ow_Kept (x := (⟨(List.replicate (List.replicate (f_brought n 0 24).toNat (⟨-1, 0⟩ : TSlot)).length (GT.dflt : Bool)), (List.replicate (f_brought n 0 24).toNat (⟨-1, 0⟩ : TSlot))⟩ : TKept)) (p := (⟨q6, q2⟩ : PKept)) o8 o4 (Disj.symm d10) 
 exact ret1_of S (show f_keptNew n = (⟨(List.replicate (List.replicate (f_brought n 0 24).toNat (⟨-1, 0⟩ : TSlot)).length (GT.dflt : Bool)), (List.replicate (f_brought n 0 24).toNat (⟨-1, 0⟩ : TSlot))⟩ : TKept) by clear S; (first | rfl | (unfold f_keptNew; rw [List.length_replicate]; rfl))) rfl o11

theorem c_spec_MonNew (w0 : World) (progs : List (List TIns)) (pprogs : LP (List TIns)) (hprogs : RD w0 progs pprogs) : Calls Tryz.prog 56 [slv progs.length pprogs.1].toArray w0 (Ret1 NoB w0 (f_monNew progs : TMon)) := by
 refine Calls.run NoB Tryz.func56 ?_
 intro ac β S
 have hleprogs : progs.length ≤ 4194304 := LRd.le hprogs
 refine S.go 6 .nil fun ac w β S => ?_
 refine drw ?_
 let σ1 : Sy := ⟨[(0, .v (slv progs.length pprogs.1)), (2, .p 0 0)], [Zc TMon]⟩
 obtain ⟨u0, N0, β0, S⟩ : ∃ u0 N0 β0, St Tryz.prog Tryz.f56.ntmps w0 NoB u0 N0 β0 σ1 ac w := ⟨_, _, _, S.z⟩
 refine wp_region_cut (fun ac w => ∃ q115 F116 q112 F113 q109 F110 u N β, St Tryz.prog Tryz.f56.ntmps w0 NoB u N β (σ1.dl [] [(3, .p 1 0)] 2 [(1, [slv (List.replicate (f_brought 8 0 24).toNat (⟨-1, 0⟩ : TSlot)).length q109.1, slv (List.replicate (f_brought 8 0 24).toNat (List.replicate 4 (0 : Int))).length q112.1, slv 8 q115.1, slv ([] : List TGuest).length (GT.pdflt (α := List TGuest)).1, slv ([] : List Int).length (GT.pdflt (α := List Int)).1, I 0, I 0, slv ([] : List TKept).length (GT.pdflt (α := List TKept)).1, I 0])]) ac w ∧ Ow w0 NoB u N F116 (List.replicate 8 (GT.dflt : Bool)) q115 ∧ Ow w0 NoB u N F113 (List.replicate (f_brought 8 0 24).toNat (List.replicate 4 (0 : Int))) q112 ∧ Ow w0 NoB u N F110 (List.replicate (f_brought 8 0 24).toNat (⟨-1, 0⟩ : TSlot)) q109 ∧ Disj F116 F113 ∧ Disj F116 F110 ∧ Disj F113 F110) ?_ ?_
 ·refine S.draw0 (f := 6) 5 (by kernel_rfl) (by kernel_rfl) fun w S => ?_
  refine WD.nameW fun W hW => ?_
  refine WD.castW (l' := mkL 6 []) (by kernel_rfl) ?_
  have hK117 ac w q115 F116 q112 F113 q109 F110 u N β (S : St Tryz.prog Tryz.f56.ntmps w0 NoB u N β (σ1.dl [] [(3, .p 1 0)] 2 [(1, [slv (List.replicate (f_brought 8 0 24).toNat (⟨-1, 0⟩ : TSlot)).length q109.1, slv (List.replicate (f_brought 8 0 24).toNat (List.replicate 4 (0 : Int))).length q112.1, slv 8 q115.1, slv ([] : List TGuest).length (GT.pdflt (α := List TGuest)).1, slv ([] : List Int).length (GT.pdflt (α := List Int)).1, I 0, I 0, slv ([] : List TKept).length (GT.pdflt (α := List TKept)).1, I 0])]) ac w) (o114 : Ow w0 NoB u N F116 (List.replicate 8 (GT.dflt : Bool)) q115) (o111 : Ow w0 NoB u N F113 (List.replicate (f_brought 8 0 24).toNat (List.replicate 4 (0 : Int))) q112) (o108 : Ow w0 NoB u N F110 (List.replicate (f_brought 8 0 24).toNat (⟨-1, 0⟩ : TSlot)) q109) (d118 : Disj F116 F113) (d119 : Disj F116 F110) (d120 : Disj F113 F110) : W 0 (mkL 6 [0, 1, 2, 3, 4, 5]) ac w := by
   exact od hW ⟨rfl, q115, F116, q112, F113, q109, F110, _, _, _, S.z, o114, o111, o108, d118, d119, d120⟩
  have hK121 ac w q92 F93 q89 F90 q86 F87 u N β (S : St Tryz.prog Tryz.f56.ntmps w0 NoB u N β (σ1.dl [] [(3, .p 1 0), (8, .v (GT.val (⟨(List.replicate (f_brought 8 0 24).toNat (⟨-1, 0⟩ : TSlot)), (List.replicate (f_brought 8 0 24).toNat (List.replicate 4 (0 : Int))), (List.replicate 8 (GT.dflt : Bool)), ([] : List TGuest), ([] : List Int), 0, 0, ([] : List TKept), 0⟩ : TMon) (⟨q86, q89, q92, (GT.pdflt (α := List TGuest)), (GT.pdflt (α := List Int)), (GT.pdflt (α := List TKept))⟩ : PMon)))] 2 [(1, Zc TMon)]) ac w) (o91 : Ow w0 NoB u N F93 (List.replicate 8 (GT.dflt : Bool)) q92) (o88 : Ow w0 NoB u N F90 (List.replicate (f_brought 8 0 24).toNat (List.replicate 4 (0 : Int))) q89) (o85 : Ow w0 NoB u N F87 (List.replicate (f_brought 8 0 24).toNat (⟨-1, 0⟩ : TSlot)) q86) (d122 : Disj F93 F90) (d123 : Disj F93 F87) (d124 : Disj F90 F87) (hNN : NN N0 u0 N u) (hBB : BB σ1.bx.length β0 β) : W 1 (mkL 6 [0, 1, 2, 3, 4]) ac w := by
   exact ox1 hW 5 (S.wl hW [] .nil fun _ _ _ S => hK117 _ _ q92 F93 q89 F90 q86 F87 _ _ _ S o91 o88 o85 d122 d123 d124)
  have hK125 ac w q92 F93 q89 F90 q86 F87 u N β (S : St Tryz.prog Tryz.f56.ntmps w0 NoB u N β (σ1.dl [] [(8, .v (GT.val (⟨(List.replicate (f_brought 8 0 24).toNat (⟨-1, 0⟩ : TSlot)), (List.replicate (f_brought 8 0 24).toNat (List.replicate 4 (0 : Int))), (List.replicate 8 (GT.dflt : Bool)), ([] : List TGuest), ([] : List Int), 0, 0, ([] : List TKept), 0⟩ : TMon) (⟨q86, q89, q92, (GT.pdflt (α := List TGuest)), (GT.pdflt (α := List Int)), (GT.pdflt (α := List TKept))⟩ : PMon)))] 1 []) ac w) (o91 : Ow w0 NoB u N F93 (List.replicate 8 (GT.dflt : Bool)) q92) (o88 : Ow w0 NoB u N F90 (List.replicate (f_brought 8 0 24).toNat (List.replicate 4 (0 : Int))) q89) (o85 : Ow w0 NoB u N F87 (List.replicate (f_brought 8 0 24).toNat (⟨-1, 0⟩ : TSlot)) q86) (d126 : Disj F93 F90) (d127 : Disj F93 F87) (d128 : Disj F90 F87) (hNN : NN N0 u0 N u) (hBB : BB σ1.bx.length β0 β) : W 2 (mkL 6 [0, 1, 2, 3]) ac w := by
   exact ox1 hW 4 (S.wq hW hNN hBB [] .nil fun _ _ _ S hB => hK121 _ _ q92 F93 q89 F90 q86 F87 _ _ _ S o91 o88 o85 d126 d127 d128 hNN hB)
  have hK129 ac w q9 F10 q26 F27 q17 F18 u N β (S : St Tryz.prog Tryz.f56.ntmps w0 NoB u N β (σ1.dl [] [(3, .p 1 0), (5, .v (slv (List.replicate (f_brought 8 0 24).toNat (⟨-1, 0⟩ : TSlot)).length q9.1)), (6, .v (slv (List.replicate (f_brought 8 0 24).toNat (List.replicate 4 (0 : Int))).length q26.1)), (7, .v (slv 8 q17.1))] 2 [(1, Zc TMon)]) ac w) (o8 : Ow w0 NoB u N F10 (List.replicate (f_brought 8 0 24).toNat (⟨-1, 0⟩ : TSlot)) q9) (o25 : Ow w0 NoB u N F27 (List.replicate (f_brought 8 0 24).toNat (List.replicate 4 (0 : Int))) q26) (o16 : Ow w0 NoB u N F18 (List.replicate 8 (GT.dflt : Bool)) q17) (d130 : Disj F10 F27) (d131 : Disj F10 F18) (d132 : Disj F27 F18) (hNN : NN N0 u0 N u) (hBB : BB σ1.bx.length β0 β) : W 2 (mkL 6 [0, 1, 2, 4]) ac w := by
   exact ox1 hW 3 (S.wq hW hNN hBB [] (.cons (Q_sem (s := Instr.build 99 [(0, slv (List.replicate (f_brought 8 0 24).toNat (⟨-1, 0⟩ : TSlot)).length q9.1), (1, slv (List.replicate (f_brought 8 0 24).toNat (List.replicate 4 (0 : Int))).length q26.1), (2, slv 8 q17.1)].toArray) (v := .agg [slv (List.replicate (f_brought 8 0 24).toNat (⟨-1, 0⟩ : TSlot)).length q9.1, slv (List.replicate (f_brought 8 0 24).toNat (List.replicate 4 (0 : Int))).length q26.1, slv 8 q17.1, slv ([] : List TGuest).length (GT.pdflt (α := List TGuest)).1, slv ([] : List Int).length (GT.pdflt (α := List Int)).1, I 0, I 0, slv ([] : List TKept).length (GT.pdflt (α := List TKept)).1, I 0].toArray) (fun w => by kernel_rfl)) .nil) fun _ _ _ S hB => hK121 _ _ q17 F18 q26 F27 q9 F10 _ _ _ S o16 o25 o8 (Disj.symm d132) (Disj.symm d131) (Disj.symm d130) hNN hB)
  have hK133 ac w q9 F10 q26 F27 q17 F18 u N β (S : St Tryz.prog Tryz.f56.ntmps w0 NoB u N β (σ1.dl [] [(5, .v (slv (List.replicate (f_brought 8 0 24).toNat (⟨-1, 0⟩ : TSlot)).length q9.1)), (6, .v (slv (List.replicate (f_brought 8 0 24).toNat (List.replicate 4 (0 : Int))).length q26.1)), (7, .v (slv 8 q17.1))] 1 []) ac w) (o8 : Ow w0 NoB u N F10 (List.replicate (f_brought 8 0 24).toNat (⟨-1, 0⟩ : TSlot)) q9) (o25 : Ow w0 NoB u N F27 (List.replicate (f_brought 8 0 24).toNat (List.replicate 4 (0 : Int))) q26) (o16 : Ow w0 NoB u N F18 (List.replicate 8 (GT.dflt : Bool)) q17) (d134 : Disj F10 F27) (d135 : Disj F10 F18) (d136 : Disj F27 F18) (hNN : NN N0 u0 N u) (hBB : BB σ1.bx.length β0 β) : W 3 (mkL 6 [0, 1, 2]) ac w := by
   exact ox2 hW 3 4 (S.wq hW hNN hBB [] (.cons (Q_sem (s := Instr.build 99 [(0, slv (List.replicate (f_brought 8 0 24).toNat (⟨-1, 0⟩ : TSlot)).length q9.1), (1, slv (List.replicate (f_brought 8 0 24).toNat (List.replicate 4 (0 : Int))).length q26.1), (2, slv 8 q17.1)].toArray) (v := .agg [slv (List.replicate (f_brought 8 0 24).toNat (⟨-1, 0⟩ : TSlot)).length q9.1, slv (List.replicate (f_brought 8 0 24).toNat (List.replicate 4 (0 : Int))).length q26.1, slv 8 q17.1, slv ([] : List TGuest).length (GT.pdflt (α := List TGuest)).1, slv ([] : List Int).length (GT.pdflt (α := List Int)).1, I 0, I 0, slv ([] : List TKept).length (GT.pdflt (α := List TKept)).1, I 0].toArray) (fun w => by kernel_rfl)) .nil) fun _ _ _ S hB => hK125 _ _ q17 F18 q26 F27 q9 F10 _ _ _ S o16 o25 o8 (Disj.symm d136) (Disj.symm d135) (Disj.symm d134) hNN hB) (S.wq hW hNN hBB [] .nil fun _ _ _ S hB => hK129 _ _ q9 F10 q26 F27 q17 F18 _ _ _ S o8 o25 o16 d134 d135 d136 hNN hB)
  have hK137 ac w q9 F10 q26 F27 u N β (S : St Tryz.prog Tryz.f56.ntmps w0 NoB u N β (σ1.dl [] [(3, .p 1 0), (5, .v (slv (List.replicate (f_brought 8 0 24).toNat (⟨-1, 0⟩ : TSlot)).length q9.1)), (6, .v (slv (List.replicate (f_brought 8 0 24).toNat (List.replicate 4 (0 : Int))).length q26.1))] 2 [(1, Zc TMon)]) ac w) (o8 : Ow w0 NoB u N F10 (List.replicate (f_brought 8 0 24).toNat (⟨-1, 0⟩ : TSlot)) q9) (o25 : Ow w0 NoB u N F27 (List.replicate (f_brought 8 0 24).toNat (List.replicate 4 (0 : Int))) q26) (d138 : Disj F10 F27) (hNN : NN N0 u0 N u) (hBB : BB σ1.bx.length β0 β) : W 3 (mkL 6 [0, 1, 4]) ac w := by
   refine ox1 hW 2 ?_
   refine id (S.make (α := Bool) (m := 8) (by' := 1) (d := 7) (by kernel_rfl) (by omega) (show 8 ≤ 4194304 by omega) fun ac w N q139 F140 S up o141 d142 => ?_)
   have hb143 := fun b h => (⟨(up b (hNN b h).1).1, (up b (hNN b h).1).2.trans (hNN b h).2⟩ : _ ∧ _)
   refine WD.sc S hb143 hBB fun hC => ?_
   have d144 := Disj.w d142 o8.sub
   have d145 := Disj.w d142 o25.sub
   replace o8 := o8.up up
   replace o25 := o25.up up
   clear up d142
   exact S.wh hW [] hC fun _ S => hK129 _ _ q9 F10 q26 F27 q139 F140 _ _ _ S o8 o25 o141 d138 d144 d145 hb143 hBB
  have hK146 ac w q9 F10 q17 F18 u N β (S : St Tryz.prog Tryz.f56.ntmps w0 NoB u N β (σ1.dl [] [(3, .p 1 0), (5, .v (slv (List.replicate (f_brought 8 0 24).toNat (⟨-1, 0⟩ : TSlot)).length q9.1)), (7, .v (slv 8 q17.1))] 2 [(1, Zc TMon)]) ac w) (o8 : Ow w0 NoB u N F10 (List.replicate (f_brought 8 0 24).toNat (⟨-1, 0⟩ : TSlot)) q9) (o16 : Ow w0 NoB u N F18 (List.replicate 8 (GT.dflt : Bool)) q17) (d147 : Disj F10 F18) (hNN : NN N0 u0 N u) (hBB : BB σ1.bx.length β0 β) : W 3 (mkL 6 [0, 2, 4]) ac w := by
   refine ox1 hW 1 ?_
   refine id (S.k1 6 (c_spec_MemNew w 8) fun ac w N q148 F149 S up o150 d151 => ?_)
   have hb152 := fun b h => (⟨(up b (hNN b h).1).1, (up b (hNN b h).1).2.trans (hNN b h).2⟩ : _ ∧ _)
   refine WD.sc S hb152 hBB fun hC => ?_
   have d153 := Disj.w d151 o8.sub
   have d154 := Disj.w d151 o16.sub
   replace o8 := o8.up up
   replace o16 := o16.up up
   clear up d151
   exact S.wh hW [] hC fun _ S => hK129 _ _ q9 F10 q148 F149 q17 F18 _ _ _ S o8 o150 o16 d153 d147 (Disj.symm d154) hb152 hBB
  have hK155 ac w q9 F10 q26 F27 u N β (S : St Tryz.prog Tryz.f56.ntmps w0 NoB u N β (σ1.dl [] [(5, .v (slv (List.replicate (f_brought 8 0 24).toNat (⟨-1, 0⟩ : TSlot)).length q9.1)), (6, .v (slv (List.replicate (f_brought 8 0 24).toNat (List.replicate 4 (0 : Int))).length q26.1))] 1 []) ac w) (o8 : Ow w0 NoB u N F10 (List.replicate (f_brought 8 0 24).toNat (⟨-1, 0⟩ : TSlot)) q9) (o25 : Ow w0 NoB u N F27 (List.replicate (f_brought 8 0 24).toNat (List.replicate 4 (0 : Int))) q26) (d156 : Disj F10 F27) (hNN : NN N0 u0 N u) (hBB : BB σ1.bx.length β0 β) : W 4 (mkL 6 [0, 1]) ac w := by
   refine ox2 hW 2 4 ?_ (S.wq hW hNN hBB [] .nil fun _ _ _ S hB => hK137 _ _ q9 F10 q26 F27 _ _ _ S o8 o25 d156 hNN hB)
   refine id (S.make (α := Bool) (m := 8) (by' := 1) (d := 7) (by kernel_rfl) (by omega) (show 8 ≤ 4194304 by omega) fun ac w N q157 F158 S up o159 d160 => ?_)
   have hb161 := fun b h => (⟨(up b (hNN b h).1).1, (up b (hNN b h).1).2.trans (hNN b h).2⟩ : _ ∧ _)
   refine WD.sc S hb161 hBB fun hC => ?_
   have d162 := Disj.w d160 o8.sub
   have d163 := Disj.w d160 o25.sub
   replace o8 := o8.up up
   replace o25 := o25.up up
   clear up d160
   exact S.wh hW [] hC fun _ S => hK133 _ _ q9 F10 q26 F27 q157 F158 _ _ _ S o8 o25 o159 d156 d162 d163 hb161 hBB
  have hK164 ac w q9 F10 q17 F18 u N β (S : St Tryz.prog Tryz.f56.ntmps w0 NoB u N β (σ1.dl [] [(5, .v (slv (List.replicate (f_brought 8 0 24).toNat (⟨-1, 0⟩ : TSlot)).length q9.1)), (7, .v (slv 8 q17.1))] 1 []) ac w) (o8 : Ow w0 NoB u N F10 (List.replicate (f_brought 8 0 24).toNat (⟨-1, 0⟩ : TSlot)) q9) (o16 : Ow w0 NoB u N F18 (List.replicate 8 (GT.dflt : Bool)) q17) (d165 : Disj F10 F18) (hNN : NN N0 u0 N u) (hBB : BB σ1.bx.length β0 β) : W 4 (mkL 6 [0, 2]) ac w := by
   refine ox2 hW 1 4 ?_ (S.wq hW hNN hBB [] .nil fun _ _ _ S hB => hK146 _ _ q9 F10 q17 F18 _ _ _ S o8 o16 d165 hNN hB)
   refine id (S.k1 6 (c_spec_MemNew w 8) fun ac w N q166 F167 S up o168 d169 => ?_)
   have hb170 := fun b h => (⟨(up b (hNN b h).1).1, (up b (hNN b h).1).2.trans (hNN b h).2⟩ : _ ∧ _)
   refine WD.sc S hb170 hBB fun hC => ?_
   have d171 := Disj.w d169 o8.sub
   have d172 := Disj.w d169 o16.sub
   replace o8 := o8.up up
   replace o16 := o16.up up
   clear up d169
   exact S.wh hW [] hC fun _ S => hK133 _ _ q9 F10 q166 F167 q17 F18 _ _ _ S o8 o168 o16 d171 d165 (Disj.symm d172) hb170 hBB
  have hK173 ac w q9 F10 u N β (S : St Tryz.prog Tryz.f56.ntmps w0 NoB u N β (σ1.dl [] [(3, .p 1 0), (5, .v (slv (List.replicate (f_brought 8 0 24).toNat (⟨-1, 0⟩ : TSlot)).length q9.1))] 2 [(1, Zc TMon)]) ac w) (o8 : Ow w0 NoB u N F10 (List.replicate (f_brought 8 0 24).toNat (⟨-1, 0⟩ : TSlot)) q9) (hNN : NN N0 u0 N u) (hBB : BB σ1.bx.length β0 β) : W 4 (mkL 6 [0, 4]) ac w := by
   refine ox2 hW 1 2 ?_ ?_
   ·refine id (S.k1 6 (c_spec_MemNew w 8) fun ac w N q174 F175 S up o176 d177 => ?_)
    have hb178 := fun b h => (⟨(up b (hNN b h).1).1, (up b (hNN b h).1).2.trans (hNN b h).2⟩ : _ ∧ _)
    refine WD.sc S hb178 hBB fun hC => ?_
    have d179 := Disj.w d177 o8.sub
    replace o8 := o8.up up
    clear up d177
    exact S.wh hW [] hC fun _ S => hK137 _ _ q9 F10 q174 F175 _ _ _ S o8 o176 d179 hb178 hBB
   ·refine id (S.make (α := Bool) (m := 8) (by' := 1) (d := 7) (by kernel_rfl) (by omega) (show 8 ≤ 4194304 by omega) fun ac w N q180 F181 S up o182 d183 => ?_)
    have hb184 := fun b h => (⟨(up b (hNN b h).1).1, (up b (hNN b h).1).2.trans (hNN b h).2⟩ : _ ∧ _)
    refine WD.sc S hb184 hBB fun hC => ?_
    have d185 := Disj.w d183 o8.sub
    replace o8 := o8.up up
    clear up d183
    exact S.wh hW [] hC fun _ S => hK146 _ _ q9 F10 q180 F181 _ _ _ S o8 o182 d185 hb184 hBB
  have hK186 ac w q17 F18 u N β (S : St Tryz.prog Tryz.f56.ntmps w0 NoB u N β (σ1.dl [] [(3, .p 1 0), (7, .v (slv 8 q17.1))] 2 [(1, Zc TMon)]) ac w) (o16 : Ow w0 NoB u N F18 (List.replicate 8 (GT.dflt : Bool)) q17) (hNN : NN N0 u0 N u) (hBB : BB σ1.bx.length β0 β) : W 4 (mkL 6 [2, 4]) ac w := by
   refine ox1 hW 0 ?_
   have b187 := (List.length_replicate : (List.replicate (f_brought 8 0 24).toNat (⟨-1, 0⟩ : TSlot)).length = (f_brought 8 0 24).toNat)
   refine id (S.k1 5 (c_spec_TableNew w 8) fun ac w N q188 F189 S up o190 d191 => ?_)
   have hb192 := fun b h => (⟨(up b (hNN b h).1).1, (up b (hNN b h).1).2.trans (hNN b h).2⟩ : _ ∧ _)
   refine WD.sc S hb192 hBB fun hC => ?_
   have d193 := Disj.w d191 o16.sub
   replace o16 := o16.up up
   clear up d191
   exact S.wh hW [] hC fun _ S => hK146 _ _ q188 F189 q17 F18 _ _ _ S o190 o16 (Disj.symm d193) hb192 hBB
  have hK194 ac w q9 F10 u N β (S : St Tryz.prog Tryz.f56.ntmps w0 NoB u N β (σ1.dl [] [(5, .v (slv (List.replicate (f_brought 8 0 24).toNat (⟨-1, 0⟩ : TSlot)).length q9.1))] 1 []) ac w) (o8 : Ow w0 NoB u N F10 (List.replicate (f_brought 8 0 24).toNat (⟨-1, 0⟩ : TSlot)) q9) (hNN : NN N0 u0 N u) (hBB : BB σ1.bx.length β0 β) : W 5 (mkL 6 [0]) ac w := by
   refine ox3 hW 1 2 4 ?_ ?_ (S.wq hW hNN hBB [] .nil fun _ _ _ S hB => hK173 _ _ q9 F10 _ _ _ S o8 hNN hB)
   ·refine id (S.k1 6 (c_spec_MemNew w 8) fun ac w N q195 F196 S up o197 d198 => ?_)
    have hb199 := fun b h => (⟨(up b (hNN b h).1).1, (up b (hNN b h).1).2.trans (hNN b h).2⟩ : _ ∧ _)
    refine WD.sc S hb199 hBB fun hC => ?_
    have d200 := Disj.w d198 o8.sub
    replace o8 := o8.up up
    clear up d198
    exact S.wh hW [] hC fun _ S => hK155 _ _ q9 F10 q195 F196 _ _ _ S o8 o197 d200 hb199 hBB
   ·refine id (S.make (α := Bool) (m := 8) (by' := 1) (d := 7) (by kernel_rfl) (by omega) (show 8 ≤ 4194304 by omega) fun ac w N q201 F202 S up o203 d204 => ?_)
    have hb205 := fun b h => (⟨(up b (hNN b h).1).1, (up b (hNN b h).1).2.trans (hNN b h).2⟩ : _ ∧ _)
    refine WD.sc S hb205 hBB fun hC => ?_
    have d206 := Disj.w d204 o8.sub
    replace o8 := o8.up up
    clear up d204
    exact S.wh hW [] hC fun _ S => hK164 _ _ q9 F10 q201 F202 _ _ _ S o8 o203 d206 hb205 hBB
  have hK207 ac w q17 F18 u N β (S : St Tryz.prog Tryz.f56.ntmps w0 NoB u N β (σ1.dl [] [(7, .v (slv 8 q17.1))] 1 []) ac w) (o16 : Ow w0 NoB u N F18 (List.replicate 8 (GT.dflt : Bool)) q17) (hNN : NN N0 u0 N u) (hBB : BB σ1.bx.length β0 β) : W 5 (mkL 6 [2]) ac w := by
   refine ox2 hW 0 4 ?_ (S.wq hW hNN hBB [] .nil fun _ _ _ S hB => hK186 _ _ q17 F18 _ _ _ S o16 hNN hB)
   have b208 := (List.length_replicate : (List.replicate (f_brought 8 0 24).toNat (⟨-1, 0⟩ : TSlot)).length = (f_brought 8 0 24).toNat)
   refine id (S.k1 5 (c_spec_TableNew w 8) fun ac w N q209 F210 S up o211 d212 => ?_)
   have hb213 := fun b h => (⟨(up b (hNN b h).1).1, (up b (hNN b h).1).2.trans (hNN b h).2⟩ : _ ∧ _)
   refine WD.sc S hb213 hBB fun hC => ?_
   have d214 := Disj.w d212 o16.sub
   replace o16 := o16.up up
   clear up d212
   exact S.wh hW [] hC fun _ S => hK164 _ _ q209 F210 q17 F18 _ _ _ S o211 o16 (Disj.symm d214) hb213 hBB
  have hK215 ac w u N β (S : St Tryz.prog Tryz.f56.ntmps w0 NoB u N β (σ1.dl [] [(3, .p 1 0)] 2 [(1, Zc TMon)]) ac w) (hNN : NN N0 u0 N u) (hBB : BB σ1.bx.length β0 β) : W 5 (mkL 6 [4]) ac w := by
   refine ox2 hW 0 2 ?_ ?_
   ·have b216 := (List.length_replicate : (List.replicate (f_brought 8 0 24).toNat (⟨-1, 0⟩ : TSlot)).length = (f_brought 8 0 24).toNat)
    refine id (S.k1 5 (c_spec_TableNew w 8) fun ac w N q217 F218 S up o219 d220 => ?_)
    have hb221 := fun b h => (⟨(up b (hNN b h).1).1, (up b (hNN b h).1).2.trans (hNN b h).2⟩ : _ ∧ _)
    refine WD.sc S hb221 hBB fun hC => ?_
    clear up d220
    exact S.wh hW [] hC fun _ S => hK173 _ _ q217 F218 _ _ _ S o219 hb221 hBB
   ·refine id (S.make (α := Bool) (m := 8) (by' := 1) (d := 7) (by kernel_rfl) (by omega) (show 8 ≤ 4194304 by omega) fun ac w N q222 F223 S up o224 d225 => ?_)
    have hb226 := fun b h => (⟨(up b (hNN b h).1).1, (up b (hNN b h).1).2.trans (hNN b h).2⟩ : _ ∧ _)
    refine WD.sc S hb226 hBB fun hC => ?_
    clear up d225
    exact S.wh hW [] hC fun _ S => hK186 _ _ q222 F223 _ _ _ S o224 hb226 hBB
  have hNN : NN N0 u0 N0 u0 := fun b h => ⟨h, rfl⟩
  have hBB : BB σ1.bx.length β0 β0 := fun _ _ => rfl
  refine ox3 hW 0 2 4 ?_ ?_ (S.wq hW hNN hBB [] .nil fun _ _ _ S hB => hK215 _ _ _ _ _ S hNN hB)
  ·have b227 := (List.length_replicate : (List.replicate (f_brought 8 0 24).toNat (⟨-1, 0⟩ : TSlot)).length = (f_brought 8 0 24).toNat)
   refine id (S.k1 5 (c_spec_TableNew w 8) fun ac w N q228 F229 S up o230 d231 => ?_)
   have hb232 := fun b h => (⟨(up b (hNN b h).1).1, (up b (hNN b h).1).2.trans (hNN b h).2⟩ : _ ∧ _)
   refine WD.sc S hb232 hBB fun hC => ?_
   clear up d231
   exact S.wh hW [] hC fun _ S => hK194 _ _ q228 F229 _ _ _ S o230 hb232 hBB
  ·refine id (S.make (α := Bool) (m := 8) (by' := 1) (d := 7) (by kernel_rfl) (by omega) (show 8 ≤ 4194304 by omega) fun ac w N q233 F234 S up o235 d236 => ?_)
   have hb237 := fun b h => (⟨(up b (hNN b h).1).1, (up b (hNN b h).1).2.trans (hNN b h).2⟩ : _ ∧ _)
   refine WD.sc S hb237 hBB fun hC => ?_
   clear up d236
   exact S.wh hW [] hC fun _ S => hK207 _ _ q233 F234 _ _ _ S o235 hb237 hBB
 clear S
 rintro ac w ⟨q115, F116, q112, F113, q109, F110, u, N, β, S, o114, o111, o108, d238, d239, d240⟩
 refine S.ex fun S => ?_
 refine S.go 8 .nil fun ac w β S => ?_
 have o247 := S.nilOw (α := TGuest)
 have o248 := S.nilOw (α := TKept)
 refine lp (fun mm ac w => ∃ (k : Nat) (gs : List TGuest) (tb : List TKept) (q241 : _) (F242 : _) (q244 : _) (F245 : _) (u : _) (N : _) (β : _), mm = progs.length - k ∧ (k ≤ progs.length) ∧ (k ≤ 2) ∧ (gs = ((progs.take 2).take k).map f_guestNew) ∧ (tb = ((progs.take 2).take k).map (fun _ => f_keptNew 4)) ∧ St Tryz.prog Tryz.f56.ntmps w0 NoB u N β ⟨[(0, .v (slv progs.length pprogs.1)), (2, .p 0 0), (3, .p 1 0), (4, .v (I (k : Int)))], [Zc TMon, [slv (List.replicate (f_brought 8 0 24).toNat (⟨-1, 0⟩ : TSlot)).length q109.1, slv (List.replicate (f_brought 8 0 24).toNat (List.replicate 4 (0 : Int))).length q112.1, slv 8 q115.1, slv gs.length q241.1, slv ([] : List Int).length (GT.pdflt (α := List Int)).1, I 0, I 0, slv tb.length q244.1, I 0]]⟩ ac w ∧ Ow w0 NoB u N F242 gs q241 ∧ Ow w0 NoB u N F245 tb q244 ∧ Ow w0 NoB u N F110 (List.replicate (f_brought 8 0 24).toNat (⟨-1, 0⟩ : TSlot)) q109 ∧ Ow w0 NoB u N F113 (List.replicate (f_brought 8 0 24).toNat (List.replicate 4 (0 : Int))) q112 ∧ Ow w0 NoB u N F116 (List.replicate 8 (GT.dflt : Bool)) q115 ∧ Disj F242 F245 ∧ Disj F242 F110 ∧ Disj F242 F113 ∧ Disj F242 F116 ∧ Disj F245 F110 ∧ Disj F245 F113 ∧ Disj F245 F116) _ ⟨0, ([] : List TGuest), ([] : List TKept), (GT.pdflt (α := List TGuest)), NoB, (GT.pdflt (α := List TKept)), NoB, _, _, _, rfl, o0, o0, (by rfl), (by rfl), S.z, o247, o248, o108, o111, o114, (fun b _ h => False.elim h), (Disj.symm (fun b _ h => False.elim h)), (Disj.symm (fun b _ h => False.elim h)), (Disj.symm (fun b _ h => False.elim h)), (Disj.symm (fun b _ h => False.elim h)), (Disj.symm (fun b _ h => False.elim h)), (Disj.symm (fun b _ h => False.elim h))⟩ ?_
 clear S o108 o111 o114 o247 o248
 rintro f256 mm hf257 ac w ⟨k, gs, tb, q241, F242, q244, F245, u, N, β, rfl, hk, hkm, hgs, htb, S, o243, o246, o108, o111, o114, d249, d250, d251, d252, d253, d254, d255⟩
 refine S.rs fun S => ?_
 have hlgs : gs.length ≤ 2 := by rw [hgs, List.length_map, List.length_take]; omega
 have hltb : tb.length ≤ 2 := by rw [htb, List.length_map, List.length_take]; omega
 refine S.gd 8 .nil (decide ((k : Int) < (progs.length : Int))) (fun ac w β h258 g259 S => ?_) (fun ac w β h258 g259 S => ?_)
 ·refine S.gd 5 .nil (decide ((k : Int) < 2)) (fun ac w β h260 g261 S => ?_) (fun ac w β h260 g261 S => ?_)
  ·refine S.go 6 .nil fun ac w β S => ?_
   refine drw ?_
   refine S.draw0 (f := 11) 8 (by kernel_rfl) (by kernel_rfl) fun w S => ?_
   refine S.hq 0 [1, 0] [] [(19, .p 1 3)] .nil fun ac S => ?_
   refine S.hq 1 [1] [] [(20, .v (slv gs.length q241.1))] .nil fun ac S => ?_
   refine S.hq 2 [6, 5, 4, 2] [] [(21, .v (slv progs.length pprogs.1))] .nil fun ac S => ?_
   refine S.hq 3 [6, 5, 4, 3] [] [(22, .v (I (k : Int)))] .nil fun ac S => ?_
   refine S.hq 4 [6, 5, 4] [] [(23, .v (pt pprogs.1.b (pprogs.1.off + k * 1)))] (.cons (qn (S.arg hprogs) k Tryz.underlying42) .nil) fun ac S => ?_
   refine S.hq 5 [6, 5] [] [(24, .v (slv (el progs k).length (pprogs.2 k).1))] (.cons (qx (S.arg hprogs) 41 k) .nil) fun ac S => ?_
   refine WD.one (i := 6) (by kernel_rfl) ?_
   refine id (S.k1 25 (c_spec_GuestNew w (el progs k) (pprogs.2 k) (S.rd (LRd.el (S.arg hprogs) k (by omega)))) fun ac w N q262 F263 S up o264 d265 => ?_)
   refine WD.next S up (by kernel_rfl) ?_
   have d266 := Disj.w d265 o243.sub
   have d267 := Disj.w d265 o246.sub
   have d268 := Disj.w d265 o108.sub
   have d269 := Disj.w d265 o111.sub
   have d270 := Disj.w d265 o114.sub
   replace o243 := o243.up up
   replace o246 := o246.up up
   replace o108 := o108.up up
   replace o111 := o111.up up
   replace o114 := o114.up up
   clear up d265
   refine WD.one (i := 7) (by kernel_rfl) ?_
   refine id (S.bs1 (α := TGuest) (x := (f_guestNew (el progs k))) (p := q262) o264.own o264.sub o264.young (d := 26) (by kernel_rfl) fun ac w N q271 F272 S up o273 d274 => ?_)
   refine WD.next S up (by kernel_rfl) ?_
   have d275 := d274 _ d266 o243.sub
   have d276 := d274 _ d267 o246.sub
   have d277 := d274 _ d268 o108.sub
   have d278 := d274 _ d269 o111.sub
   have d279 := d274 _ d270 o114.sub
   replace o243 := o243.up up
   replace o246 := o246.up up
   replace o108 := o108.up up
   replace o111 := o111.up up
   replace o114 := o114.up up
   clear up d274
   refine WD.one (i := 8) (by kernel_rfl) ?_
   refine id (S.appOwn (α := TGuest) o243 o273 d275 (by' := 184) (d := 27) (lx := gs.length) (ly := 1) rfl rfl (by kernel_rfl) (show _ ≤ 4194304 by simp only [List.length_append, List.length_cons, List.length_nil]; omega) fun ac w N q280 F281 S up o282 d283 => ?_)
   refine WD.last (by kernel_rfl) ?_
   have d284 := d283 _ (Disj.symm d249) d276 o246.sub
   have d285 := d283 _ (Disj.symm d250) d277 o108.sub
   have d286 := d283 _ (Disj.symm d251) d278 o111.sub
   have d287 := d283 _ (Disj.symm d252) d279 o114.sub
   replace o246 := o246.upF (Disj.symm d249) up
   replace o108 := o108.upF (Disj.symm d250) up
   replace o111 := o111.upF (Disj.symm d251) up
   replace o114 := o114.upF (Disj.symm d252) up
   clear up d283
   refine S.sl 9 [] [(28, .p 1 3)] 2 [] .nil fun ac w β S => ?_
   refine S.sl 10 [] [] 2 [(1, [slv (List.replicate (f_brought 8 0 24).toNat (⟨-1, 0⟩ : TSlot)).length q109.1, slv (List.replicate (f_brought 8 0 24).toNat (List.replicate 4 (0 : Int))).length q112.1, slv 8 q115.1, slv (gs ++ [(f_guestNew (el progs k))]).length q280.1, slv ([] : List Int).length (GT.pdflt (α := List Int)).1, I 0, I 0, slv tb.length q244.1, I 0])] .nil fun ac w β S => ?_
   refine WD.done (by kernel_rfl) ?_ _
   refine S.ex fun S => ?_
   refine S.go 1 .nil fun ac w β S => ?_
   refine drw ?_
   refine S.draw0 (f := 7) 4 (by kernel_rfl) (by kernel_rfl) fun w S => ?_
   refine S.hq 0 [1, 0] [] [(29, .p 1 7)] .nil fun ac S => ?_
   refine S.hq 1 [1] [] [(30, .v (slv tb.length q244.1))] .nil fun ac S => ?_
   refine WD.one (i := 2) (by kernel_rfl) ?_
   refine id (S.k1 31 (c_spec_KeptNew w 4) fun ac w N q288 F289 S up o290 d291 => ?_)
   refine WD.next S up (by kernel_rfl) ?_
   have d292 := Disj.w d291 o246.sub
   have d293 := Disj.w d291 o108.sub
   have d294 := Disj.w d291 o111.sub
   have d295 := Disj.w d291 o114.sub
   have d296 := Disj.w d291 o282.sub
   replace o246 := o246.up up
   replace o108 := o108.up up
   replace o111 := o111.up up
   replace o114 := o114.up up
   replace o282 := o282.up up
   clear up d291
   refine WD.one (i := 3) (by kernel_rfl) ?_
   refine id (S.bs1 (α := TKept) (x := (f_keptNew 4)) (p := q288) o290.own o290.sub o290.young (d := 32) (by kernel_rfl) fun ac w N q297 F298 S up o299 d300 => ?_)
   refine WD.next S up (by kernel_rfl) ?_
   have d301 := d300 _ d292 o246.sub
   have d302 := d300 _ d293 o108.sub
   have d303 := d300 _ d294 o111.sub
   have d304 := d300 _ d295 o114.sub
   have d305 := d300 _ d296 o282.sub
   replace o246 := o246.up up
   replace o108 := o108.up up
   replace o111 := o111.up up
   replace o114 := o114.up up
   replace o282 := o282.up up
   clear up d300
   refine WD.one (i := 4) (by kernel_rfl) ?_
   refine id (S.appOwn (α := TKept) o246 o299 d301 (by' := 48) (d := 33) (lx := tb.length) (ly := 1) rfl rfl (by kernel_rfl) (show _ ≤ 4194304 by simp only [List.length_append, List.length_cons, List.length_nil]; omega) fun ac w N q306 F307 S up o308 d309 => ?_)
   refine WD.last (by kernel_rfl) ?_
   have d310 := d309 _ (Disj.symm d253) d302 o108.sub
   have d311 := d309 _ (Disj.symm d254) d303 o111.sub
   have d312 := d309 _ (Disj.symm d255) d304 o114.sub
   have d313 := d309 _ (Disj.symm d284) d305 o282.sub
   replace o108 := o108.upF (Disj.symm d253) up
   replace o111 := o111.upF (Disj.symm d254) up
   replace o114 := o114.upF (Disj.symm d255) up
   replace o282 := o282.upF (Disj.symm d284) up
   clear up d309
   refine S.sl 5 [] [(34, .p 1 7)] 2 [] .nil fun ac w β S => ?_
   refine S.sl 6 [] [] 2 [(1, [slv (List.replicate (f_brought 8 0 24).toNat (⟨-1, 0⟩ : TSlot)).length q109.1, slv (List.replicate (f_brought 8 0 24).toNat (List.replicate 4 (0 : Int))).length q112.1, slv 8 q115.1, slv (gs ++ [(f_guestNew (el progs k))]).length q280.1, slv ([] : List Int).length (GT.pdflt (α := List Int)).1, I 0, I 0, slv (tb ++ [(f_keptNew 4)]).length q306.1, I 0])] .nil fun ac w β S => ?_
   refine WD.done (by kernel_rfl) ?_ _
   refine S.ex fun S => ?_
   refine S.ge 7 (.cons (qp (k : Int) 1) .nil) f256 fun ac w β S => hf257.of (progs.length - (k + 1)) _ _ (by omega) ⟨k + 1, (gs ++ [(f_guestNew (el progs k))]), (tb ++ [(f_keptNew 4)]), q280, F281, q306, F307, _, _, _, rfl, ?_, ?_, ?_, ?_, S.z, o282, o308, o108, o111, o114, d313, (Disj.symm d285), (Disj.symm d286), (Disj.symm d287), (Disj.symm d310), (Disj.symm d311), (Disj.symm d312)⟩
   ·exact oz
   ·exact oz
   ·clear S; (first | (rw [map_take_step (by omega) (by omega), ← hgs]; done) | (rw [map_take_step (by omega) (by omega), ← hgs, el_take (by omega)]))
   ·clear S; (first | (rw [map_take_step (by omega) (by omega), ← htb]; done) | (rw [map_take_step (by omega) (by omega), ← htb, el_take (by omega)]))
  refine S.gr 13 .nil [GT.val (⟨(List.replicate (f_brought 8 0 24).toNat (⟨-1, 0⟩ : TSlot)), (List.replicate (f_brought 8 0 24).toNat (List.replicate 4 (0 : Int))), (List.replicate 8 (GT.dflt : Bool)), gs, ([] : List Int), 0, 0, tb, 0⟩ : TMon) (⟨q109, q112, q115, q241, (GT.pdflt (α := List Int)), q244⟩ : PMon)] fun ac w β S => ?_
  have o314 := S.nilOw (α := Int)
  have o315 := ow_Mon (x := (⟨(List.replicate (f_brought 8 0 24).toNat (⟨-1, 0⟩ : TSlot)), (List.replicate (f_brought 8 0 24).toNat (List.replicate 4 (0 : Int))), (List.replicate 8 (GT.dflt : Bool)), gs, ([] : List Int), 0, 0, tb, 0⟩ : TMon)) (p := (⟨q109, q112, q115, q241, (GT.pdflt (α := List Int)), q244⟩ : PMon)) o108 o111 o114 o243 o314 o246 (Disj.symm d240) (Disj.symm d239) (Disj.symm d250) (fun b _ h => False.elim h) (Disj.symm d253) (Disj.symm d238) (Disj.symm d251) (fun b _ h => False.elim h) (Disj.symm d254) (Disj.symm d252) (fun b _ h => False.elim h) (Disj.symm d255) (fun b _ h => False.elim h) d249 (Disj.symm (fun b _ h => False.elim h)) (show In64 0 from ⟨by decide, by decide⟩) (show In64 0 from ⟨by decide, by decide⟩) (show In64 0 from ⟨by decide, by decide⟩)
  exact ret1_of S (show f_monNew progs = (⟨(List.replicate (f_brought 8 0 24).toNat (⟨-1, 0⟩ : TSlot)), (List.replicate (f_brought 8 0 24).toNat (List.replicate 4 (0 : Int))), (List.replicate 8 (GT.dflt : Bool)), gs, ([] : List Int), 0, 0, tb, 0⟩ : TMon) by clear S; (rw [hgs, htb, map_take_end (by omega), map_take_end (by omega)]; rfl)) rfl o315
 refine S.gr 18 .nil [GT.val (⟨(List.replicate (f_brought 8 0 24).toNat (⟨-1, 0⟩ : TSlot)), (List.replicate (f_brought 8 0 24).toNat (List.replicate 4 (0 : Int))), (List.replicate 8 (GT.dflt : Bool)), gs, ([] : List Int), 0, 0, tb, 0⟩ : TMon) (⟨q109, q112, q115, q241, (GT.pdflt (α := List Int)), q244⟩ : PMon)] fun ac w β S => ?_
 have o316 := S.nilOw (α := Int)
 have o317 := ow_Mon (x := (⟨(List.replicate (f_brought 8 0 24).toNat (⟨-1, 0⟩ : TSlot)), (List.replicate (f_brought 8 0 24).toNat (List.replicate 4 (0 : Int))), (List.replicate 8 (GT.dflt : Bool)), gs, ([] : List Int), 0, 0, tb, 0⟩ : TMon)) (p := (⟨q109, q112, q115, q241, (GT.pdflt (α := List Int)), q244⟩ : PMon)) o108 o111 o114 o243 o316 o246 (Disj.symm d240) (Disj.symm d239) (Disj.symm d250) (fun b _ h => False.elim h) (Disj.symm d253) (Disj.symm d238) (Disj.symm d251) (fun b _ h => False.elim h) (Disj.symm d254) (Disj.symm d252) (fun b _ h => False.elim h) (Disj.symm d255) (fun b _ h => False.elim h) d249 (Disj.symm (fun b _ h => False.elim h)) (show In64 0 from ⟨by decide, by decide⟩) (show In64 0 from ⟨by decide, by decide⟩) (show In64 0 from ⟨by decide, by decide⟩)
 exact ret1_of S (show f_monNew progs = (⟨(List.replicate (f_brought 8 0 24).toNat (⟨-1, 0⟩ : TSlot)), (List.replicate (f_brought 8 0 24).toNat (List.replicate 4 (0 : Int))), (List.replicate 8 (GT.dflt : Bool)), gs, ([] : List Int), 0, 0, tb, 0⟩ : TMon) by clear S; (rw [hgs, htb, map_take_end (by omega), map_take_end (by omega)]; rfl)) rfl o317

theorem c_spec_HostNew (w0 : World) (all : List (List (List TIns))) (pall : LP (List (List TIns))) (hall : RD w0 all pall) : Calls Tryz.prog 20 [slv all.length pall.1].toArray w0 (Ret1 NoB w0 (f_hostNew all : THost)) := by
 refine Calls.run NoB Tryz.func20 ?_
 intro ac β S
 have hleall : all.length ≤ 4194304 := LRd.le hall
 refine S.go 7 .nil fun ac w β S => S.K1 (r := (List.replicate (f_brought 12 0 24).toNat (List.replicate 4 (0 : Int)))) (d := 5) (c_spec_MemNew w 12) fun ac w N q1 F2 S up o3 d4 => ?_
 clear up d4
 refine S.go 12 (.cons (Q_sem (s := Instr.build 60 [(0, slv (List.replicate (f_brought 12 0 24).toNat (List.replicate 4 (0 : Int))).length q1.1)].toArray) (v := .agg [slv (List.replicate (f_brought 12 0 24).toNat (List.replicate 4 (0 : Int))).length q1.1, slv ([] : List TMon).length (GT.pdflt (α := List TMon)).1, slv ([] : List TEntry).length (GT.pdflt (α := List TEntry)).1, slv ([] : List TEntry).length (GT.pdflt (α := List TEntry)).1].toArray) (fun w => by kernel_rfl)) .nil) fun ac w β S => ?_
 have o8 := S.nilOw (α := TMon)
 refine lp (fun mm ac w => ∃ (k : Nat) (ms : List TMon) (q5 : _) (F6 : _) (u : _) (N : _) (β : _), mm = all.length - k ∧ (k ≤ all.length) ∧ (k ≤ 3) ∧ (ms = ((all.take 3).take k).map f_monNew) ∧ St Tryz.prog Tryz.f20.ntmps w0 NoB u N β ⟨[(0, .v (slv all.length pall.1)), (2, .p 0 0), (3, .p 1 0), (4, .v (I (k : Int)))], [Zc THost, [slv (List.replicate (f_brought 12 0 24).toNat (List.replicate 4 (0 : Int))).length q1.1, slv ms.length q5.1, slv ([] : List TEntry).length (GT.pdflt (α := List TEntry)).1, slv ([] : List TEntry).length (GT.pdflt (α := List TEntry)).1]]⟩ ac w ∧ Ow w0 NoB u N F6 ms q5 ∧ Ow w0 NoB u N F2 (List.replicate (f_brought 12 0 24).toNat (List.replicate 4 (0 : Int))) q1 ∧ Disj F6 F2) _ ⟨0, ([] : List TMon), (GT.pdflt (α := List TMon)), NoB, _, _, _, rfl, o0, o0, (by rfl), S.z, o8, o3, (Disj.symm (fun b _ h => False.elim h))⟩ ?_
 clear S o3 o8
 rintro f10 mm hf11 ac w ⟨k, ms, q5, F6, u, N, β, rfl, hk, hkm, hms, S, o7, o3, d9⟩
 refine S.rs fun S => ?_
 have hlms : ms.length ≤ 3 := by rw [hms, List.length_map, List.length_take]; omega
 refine S.gd 8 .nil (decide ((k : Int) < (all.length : Int))) (fun ac w β h12 g13 S => ?_) (fun ac w β h12 g13 S => ?_)
 ·refine S.gd 5 .nil (decide ((k : Int) < 3)) (fun ac w β h14 g15 S => ?_) (fun ac w β h14 g15 S => ?_)
  ·refine S.go 5 .nil fun ac w β S => ?_
   refine drw ?_
   refine S.draw0 (f := 11) 8 (by kernel_rfl) (by kernel_rfl) fun w S => ?_
   refine S.hq 0 [1, 0] [] [(17, .p 1 1)] .nil fun ac S => ?_
   refine S.hq 1 [1] [] [(18, .v (slv ms.length q5.1))] .nil fun ac S => ?_
   refine S.hq 2 [6, 5, 4, 2] [] [(19, .v (slv all.length pall.1))] .nil fun ac S => ?_
   refine S.hq 3 [6, 5, 4, 3] [] [(20, .v (I (k : Int)))] .nil fun ac S => ?_
   refine S.hq 4 [6, 5, 4] [] [(21, .v (pt pall.1.b (pall.1.off + k * 1)))] (.cons (qn (S.arg hall) k Tryz.underlying62) .nil) fun ac S => ?_
   refine S.hq 5 [6, 5] [] [(22, .v (slv (el all k).length (pall.2 k).1))] (.cons (qx (S.arg hall) 42 k) .nil) fun ac S => ?_
   refine WD.one (i := 6) (by kernel_rfl) ?_
   refine id (S.k1 23 (c_spec_MonNew w (el all k) (pall.2 k) (S.rd (LRd.el (S.arg hall) k (by omega)))) fun ac w N q16 F17 S up o18 d19 => ?_)
   refine WD.next S up (by kernel_rfl) ?_
   have d20 := Disj.w d19 o7.sub
   have d21 := Disj.w d19 o3.sub
   replace o7 := o7.up up
   replace o3 := o3.up up
   clear up d19
   refine WD.one (i := 7) (by kernel_rfl) ?_
   refine id (S.bs1 (α := TMon) (x := (f_monNew (el all k))) (p := q16) o18.own o18.sub o18.young (d := 24) (by kernel_rfl) fun ac w N q22 F23 S up o24 d25 => ?_)
   refine WD.next S up (by kernel_rfl) ?_
   have d26 := d25 _ d20 o7.sub
   have d27 := d25 _ d21 o3.sub
   replace o7 := o7.up up
   replace o3 := o3.up up
   clear up d25
   refine WD.one (i := 8) (by kernel_rfl) ?_
   refine id (S.appOwn (α := TMon) o7 o24 d26 (by' := 168) (d := 25) (lx := ms.length) (ly := 1) rfl rfl (by kernel_rfl) (show _ ≤ 4194304 by simp only [List.length_append, List.length_cons, List.length_nil]; omega) fun ac w N q28 F29 S up o30 d31 => ?_)
   refine WD.last (by kernel_rfl) ?_
   have d32 := d31 _ (Disj.symm d9) d27 o3.sub
   replace o3 := o3.upF (Disj.symm d9) up
   clear up d31
   refine S.sl 9 [] [(26, .p 1 1)] 2 [] .nil fun ac w β S => ?_
   refine S.sl 10 [] [] 2 [(1, [slv (List.replicate (f_brought 12 0 24).toNat (List.replicate 4 (0 : Int))).length q1.1, slv (ms ++ [(f_monNew (el all k))]).length q28.1, slv ([] : List TEntry).length (GT.pdflt (α := List TEntry)).1, slv ([] : List TEntry).length (GT.pdflt (α := List TEntry)).1])] .nil fun ac w β S => ?_
   refine WD.done (by kernel_rfl) ?_ _
   refine S.ex fun S => ?_
   refine S.ge 7 (.cons (qp (k : Int) 1) .nil) f10 fun ac w β S => hf11.of (all.length - (k + 1)) _ _ (by omega) ⟨k + 1, (ms ++ [(f_monNew (el all k))]), q28, F29, _, _, _, rfl, ?_, ?_, ?_, S.z, o30, o3, (Disj.symm d32)⟩
   ·exact oz
   ·exact oz
   ·clear S; (first | (rw [map_take_step (by omega) (by omega), ← hms]; done) | (rw [map_take_step (by omega) (by omega), ← hms, el_take (by omega)]))
  refine S.gr 13 .nil [GT.val (⟨(List.replicate (f_brought 12 0 24).toNat (List.replicate 4 (0 : Int))), ms, ([] : List TEntry), ([] : List TEntry)⟩ : THost) (⟨q1, q5, (GT.pdflt (α := List TEntry)), (GT.pdflt (α := List TEntry))⟩ : PHost)] fun ac w β S => ?_
  have o33 := S.nilOw (α := TEntry)
  have o34 := S.nilOw (α := TEntry)
  have o35 := ow_Host (x := (⟨(List.replicate (f_brought 12 0 24).toNat (List.replicate 4 (0 : Int))), ms, ([] : List TEntry), ([] : List TEntry)⟩ : THost)) (p := (⟨q1, q5, (GT.pdflt (α := List TEntry)), (GT.pdflt (α := List TEntry))⟩ : PHost)) o3 o7 o33 o34 (Disj.symm d9) (fun b _ h => False.elim h) (fun b _ h => False.elim h) (fun b _ h => False.elim h) (fun b _ h => False.elim h) (fun b _ h => False.elim h) 
  exact ret1_of S (show f_hostNew all = (⟨(List.replicate (f_brought 12 0 24).toNat (List.replicate 4 (0 : Int))), ms, ([] : List TEntry), ([] : List TEntry)⟩ : THost) by clear S; (rw [hms, map_take_end (by omega)]; rfl)) rfl o35
 refine S.gr 18 .nil [GT.val (⟨(List.replicate (f_brought 12 0 24).toNat (List.replicate 4 (0 : Int))), ms, ([] : List TEntry), ([] : List TEntry)⟩ : THost) (⟨q1, q5, (GT.pdflt (α := List TEntry)), (GT.pdflt (α := List TEntry))⟩ : PHost)] fun ac w β S => ?_
 have o36 := S.nilOw (α := TEntry)
 have o37 := S.nilOw (α := TEntry)
 have o38 := ow_Host (x := (⟨(List.replicate (f_brought 12 0 24).toNat (List.replicate 4 (0 : Int))), ms, ([] : List TEntry), ([] : List TEntry)⟩ : THost)) (p := (⟨q1, q5, (GT.pdflt (α := List TEntry)), (GT.pdflt (α := List TEntry))⟩ : PHost)) o3 o7 o36 o37 (Disj.symm d9) (fun b _ h => False.elim h) (fun b _ h => False.elim h) (fun b _ h => False.elim h) (fun b _ h => False.elim h) (fun b _ h => False.elim h) 
 exact ret1_of S (show f_hostNew all = (⟨(List.replicate (f_brought 12 0 24).toNat (List.replicate 4 (0 : Int))), ms, ([] : List TEntry), ([] : List TEntry)⟩ : THost) by clear S; (rw [hms, map_take_end (by omega)]; rfl)) rfl o38

theorem c_impl_has (w0 : World) (k : Int) (length : Int) (pre0 : -9223372036854775808 < length) : Calls Tryz.prog 76 [I k, I length].toArray w0 (fun e w' => e = .returned (B (f_within k 0 (length - 1))) ∧ Chg NoB w0 w') := by
 refine Calls.run NoB Tryz.func76 ?_
 intro ac β S
 refine S.gd 10 .nil (decide (k ≥ 0)) (fun ac w β h1 g2 S => ?_) (fun ac w β h1 g2 S => ?_)
 ·exact S.gf 8 .nil [B (decide (k < length))] (retB (by clear S; (rw [Bool.eq_iff_iff]; simp [f_within]; omega)))
 exact S.gf 8 .nil [B false] (retB (by clear S; (rw [Bool.eq_iff_iff]; simp [f_within]; omega)))

theorem c_impl_NoSlot (w0 : World)  : Calls Tryz.prog 124 [].toArray w0 (fun e w' => e = .returned (GT.val (⟨-1, 0⟩ : TSlot) ()) ∧ Chg NoB w0 w') := by
 refine Calls.run NoB Tryz.func124 ?_
 intro ac β S
 exact S.gf 12 (.cons (Q_sem (s := Instr.build 44 [(0, I (-1))].toArray) (v := .agg [I (-1), I 0].toArray) (fun w => by kernel_rfl)) .nil) [GT.val (⟨(-1), 0⟩ : TSlot) ()] (retV (p := ()) (by clear S; first | rfl | (simp [id, *]; done) | (simp [id, *]; omega) | (simp_all [id]; done) | (simp_all [id]; omega)))

theorem k0_impl_within {p : Prop} (h : p := by clear S; first | rfl | (simp [f_within, *]; done) | (simp [f_within, *]; omega) | (simp_all [f_within]; done) | (simp_all [f_within]; omega)) : p := h
theorem c_impl_within (w0 : World) (n : Int) (a : Int) (b : Int) : Calls Tryz.prog 40 [I n, I a, I b].toArray w0 (fun e w' => e = .returned (B (f_within n a b)) ∧ Chg NoB w0 w') := by
 refine Calls.run NoB Tryz.func40 ?_
 intro ac β S
 refine S.gd 11 .nil (decide (n ≥ a)) (fun ac w β h1 g2 S => ?_) (fun ac w β h1 g2 S => ?_)
 ·exact S.gf 8 .nil [B (decide (n ≤ b))] (retB k0_impl_within)
 exact S.gf 8 .nil [B false] (retB k0_impl_within)

theorem k0_impl_SlotOk {p : Prop} (h : p := by clear S; first | rfl | (simp [f_slotOk, *]; done) | (simp [f_slotOk, *]; omega) | (simp_all [f_slotOk]; done) | (simp_all [f_slotOk]; omega)) : p := h
theorem c_impl_SlotOk (w0 : World) (s : TSlot) (pages : Int) (pre0 : 0 ≤ pages) (pre1 : pages ≤ 1000) : Calls Tryz.prog 118 [GT.val s (), I pages].toArray w0 (fun e w' => e = .returned (B (f_slotOk s pages)) ∧ Chg NoB w0 w') := by
 refine Calls.run NoB Tryz.func118 ?_
 intro ac β S
 refine S.go 7 .nil fun ac w β S => ?_
 refine drw ?_
 rcases Bool.eq_false_or_eq_true (decide (s = (⟨-1, 0⟩ : TSlot))) with h1 | h1
 ·refine S.drawnO [(3, true)] (keep := [4]) (m := 0) (σ' := ⟨[(4, .v (B true))], []⟩) (.cons (Q_call fun w hw => c_impl_NoSlot w ) (.cons (Eq_eq_Slot (t := 44) s (⟨-1, 0⟩ : TSlot) (by kernel_rfl)) .nil)) rfl (by kernel_rfl) (by kernel_rfl) (.cons h1 .nil) fun ac w S => ?_
  refine S.ex fun S => ?_
  exact S.gf 2 .nil [B true] (retB k0_impl_SlotOk)
 ·rcases Bool.eq_false_or_eq_true (decide (pages > 0)) with h2 | h2
  ·have g3 := of_decide_eq_true h2
   rcases Bool.eq_false_or_eq_true (f_within s.page 0 (pages - 1)) with h4 | h4
   ·have g5 := within_t h4
    refine S.drawnO [(3, false), (6, true), (13, true)] (keep := [4]) (m := 0) (σ' := ⟨[(4, .v (B (f_within s.rights 1 3)))], []⟩) (.cons (Q_call fun w hw => c_impl_NoSlot w ) (.cons (Eq_eq_Slot (t := 44) s (⟨-1, 0⟩ : TSlot) (by kernel_rfl)) (.cons (qm pages 1) (.cons (Q_call fun w hw => c_impl_within w s.page 0 (pages - 1)) (.cons (Q_call fun w hw => c_impl_within w s.rights 1 3) .nil))))) rfl (by kernel_rfl) (by kernel_rfl) (.cons h1 (.cons h2 (.cons h4 .nil))) fun ac w S => ?_
    refine S.ex fun S => ?_
    exact S.gf 2 .nil [B (f_within s.rights 1 3)] (retB k0_impl_SlotOk)
   ·have g6 := within_f h4
    refine S.drawnO [(3, false), (6, true), (13, false)] (keep := [4]) (m := 0) (σ' := ⟨[(4, .v (B false))], []⟩) (.cons (Q_call fun w hw => c_impl_NoSlot w ) (.cons (Eq_eq_Slot (t := 44) s (⟨-1, 0⟩ : TSlot) (by kernel_rfl)) (.cons (qm pages 1) (.cons (Q_call fun w hw => c_impl_within w s.page 0 (pages - 1)) .nil)))) rfl (by kernel_rfl) (by kernel_rfl) (.cons h1 (.cons h2 (.cons h4 .nil))) fun ac w S => ?_
    refine S.ex fun S => ?_
    exact S.gf 2 .nil [B false] (retB k0_impl_SlotOk)
  ·have g7 := of_decide_eq_false h2
   refine S.drawnO [(3, false), (6, false)] (keep := [4]) (m := 0) (σ' := ⟨[(4, .v (B false))], []⟩) (.cons (Q_call fun w hw => c_impl_NoSlot w ) (.cons (Eq_eq_Slot (t := 44) s (⟨-1, 0⟩ : TSlot) (by kernel_rfl)) .nil)) rfl (by kernel_rfl) (by kernel_rfl) (.cons h1 (.cons h2 .nil)) fun ac w S => ?_
   refine S.ex fun S => ?_
   exact S.gf 2 .nil [B false] (retB k0_impl_SlotOk)

theorem c_impl_copyTable (w0 : World) (l : List TSlot) (pl : LP TSlot) (hl : RD w0 l pl) : Calls Tryz.prog 173 [slv l.length pl.1].toArray w0 (Ret1 NoB w0 (l : List TSlot)) := by
 refine Calls.run NoB Tryz.func173 ?_
 intro ac β S
 have hlel : l.length ≤ 4194304 := LRd.le hl
 refine S.go 7 .nil fun ac w β S => S.B0 (α := TSlot) (d := 3) fun ac w N q1 F2 S up o3 d4 => ?_
 clear up d4
 have b9 : l.length ≤ 4194304 := LRd.le (S.arg hl)
 refine S.go 1 .nil fun ac w β S => S.AF0 (α := TSlot) o3 (S.arg hl) (fun _ _ h => h) (by' := 16) (d := 5) (lx := 0) (ly := l.length) rfl fun ac w N q5 F6 S up o7 d8 => ?_
 clear up d8
 refine S.gr 4 .nil [slv l.length q5.1] fun ac w β S => ?_
 exact ret1_of S (show l = l by clear S; simp) rfl o7

theorem k0_impl_WithSlot {p : Prop} (h : p := by clear S; (first | (unfold f_withSlot; rw [if_pos (by omega)]; done) | (unfold f_withSlot; rw [if_pos (by omega)]; first | rfl | (simp; done)) | (unfold f_withSlot; rw [if_neg (by omega)]; done) | (unfold f_withSlot; rw [if_neg (by omega)]; first | rfl | (simp; done)))) : p := h
theorem c_impl_WithSlot (w0 : World) (tb : List TSlot) (ptb : LP TSlot) (htb : RD w0 tb ptb) (page : Int) (s : TSlot) (hs : RSlot s) : Calls Tryz.prog 120 [slv tb.length ptb.1, I page, GT.val s ()].toArray w0 (Ret1 NoB w0 (f_withSlot tb page s : List TSlot)) := by
 refine Calls.run NoB Tryz.func120 ?_
 intro ac β S
 have hletb : tb.length ≤ 4194304 := LRd.le htb
 refine S.go 9 .nil fun ac w β S => S.K1 (r := tb) (d := 9) (c_impl_copyTable w tb ptb (S.rd (S.arg htb))) fun ac w N q1 F2 S up o3 d4 => ?_
 clear up d4
 refine S.gb 12 (.cons (Q_call fun w hw => c_impl_has w page (tb.length : Int) (by omega)) .nil) (f_within page 0 ((tb.length : Int) - 1)) (fun ac w β h5 S => ?_) (fun ac w β h5 S => ?_)
 ·have g6 := within_t h5
  have e7 : RSlot (el tb page.toNat) := (LRd.el o3.rn page.toNat (by omega))
  refine S.go 6 (.cons (qt o3.rn page Tryz.underlying45) .nil) fun ac w β S => S.SF (α := TSlot) o3 (t := 44) (k := page.toNat) (j := 0) (off := q1.1.off + page.toNat * 2) (v := GT.val s ()) (y := s) (q := ()) (fun _ _ _ => ⟨NoB, hs, fun _ h => False.elim h⟩) fun w N F9 q10 S up o8 d11 s12 n13 => ?_
  clear up d11 o3 n13
  have l14 : (tb.set page.toNat s).length = tb.length := List.length_set
  refine S.gr 9 .nil [slv tb.length q1.1] fun ac w β S => ?_
  exact ret1_of S (show f_withSlot tb page s = (tb.set page.toNat s) from k0_impl_WithSlot) (by rw [show tb.length = (tb.set page.toNat s).length from (by rw [List.length_set])]; rfl) o8
 have g15 := within_f h5
 refine S.gr 10 .nil [slv tb.length q1.1] fun ac w β S => ?_
 exact ret1_of S (show f_withSlot tb page s = tb from k0_impl_WithSlot) rfl o3

theorem c_impl_BareSet_1 (w0 : World) (x : TGuest) (px : PGuest) (F : Bl) (hx : GT.own KK F w0 x px) (hF : ∀ b, F b → b < w0.heap.size) (page : Int) (qpage : LP Int) (hpage : RD w0 [page] qpage) (s : TSlot) (qs : LP TSlot) (hs : RD w0 [s] qs) : Calls Tryz.prog 119 [GT.val x px, pt qpage.1.b (qpage.1.off + 0 * 1), pt qs.1.b (qs.1.off + 0 * 2)].toArray w0 (RetT NoB F w0 (({ x with written := f_withSlot x.written page s } : TGuest) : TGuest)) := by
 refine Calls.run NoB Tryz.func119 ?_
 intro ac β S
 have ox : Ow w0 F w0 (Lt w0.heap.size) F x px := ⟨hx, hF, fun b hb => .inr hb⟩
 have i4 : In64 x.acc := RGuest.acc (d := x) ox.rn
 have i5 : In64 x.pc := RGuest.pc (d := x) ox.rn
 have i12 : RCtl x.ctl := RGuest.ctl (d := x) ox.rn
 have i13 : In64 x.pend := RGuest.pend (d := x) ox.rn
 have i14 : RExit x.exit := RGuest.exit (d := x) ox.rn
 obtain ⟨F1, F6, F9, F15, o2, o7, o10, o16, _, _, _, _, _, d19, d20, _, _, d23⟩ := sp_Guest ox
 refine S.go 12 (.cons (Q_el1 (S.arg hpage) (t := 3) (k := 0) (Nat.succ_pos 0) rfl (by kernel_rfl)) (.cons (Q_el (S.arg hs) (t := 44) (k := 0) (Nat.succ_pos 0) rfl (by kernel_rfl) (by kernel_rfl)) .nil)) fun ac w β S => S.K1 (r := f_withSlot x.written page s) (d := 9) (c_impl_WithSlot w x.written px.written (S.rd o7.rn) page s (show RSlot s from LRd.el (S.arg hs) 0 (Nat.succ_pos 0))) fun ac w N q24 F25 S up o26 d27 => ?_
 replace o26 := o26.wk (M' := F)
 have d28 := Disj.w d27 o2.sub
 have d30 := Disj.w d27 o10.sub
 have d31 := Disj.w d27 o16.sub
 replace o2 := o2.up up
 replace o10 := o10.up up
 replace o16 := o16.up up
 clear up d27
 refine S.gr 11 .nil [GT.val (⟨x.prog, x.acc, x.pc, (f_withSlot x.written page s), x.live, x.ctl, x.pend, x.exit, x.halted, x.seen⟩ : TGuest) (⟨px.prog, q24, px.live, px.seen⟩ : PGuest)] fun ac w β S => ?_
 have o32 := ow_Guest (x := (⟨x.prog, x.acc, x.pc, (f_withSlot x.written page s), x.live, x.ctl, x.pend, x.exit, x.halted, x.seen⟩ : TGuest)) (p := (⟨px.prog, q24, px.live, px.seen⟩ : PGuest)) o2 o26 o10 o16 d28 d19 d20 (Disj.symm d30) (Disj.symm d31) d23 i4 i5 i12 i13 i14
 exact retT_of S (show ({ x with written := f_withSlot x.written page s } : TGuest) = (⟨x.prog, x.acc, x.pc, (f_withSlot x.written page s), x.live, x.ctl, x.pend, x.exit, x.halted, x.seen⟩ : TGuest) by clear S; rfl) rfl o32

theorem k0_impl_SlotAt {p : Prop} (h : p := by clear S; (first | (unfold f_slotAt; rw [if_pos (by omega)]) | (unfold f_slotAt; rw [if_neg (by omega)]))) : p := h
theorem c_impl_SlotAt (w0 : World) (t : List TSlot) (pt : LP TSlot) (ht : RD w0 t pt) (page : Int) : Calls Tryz.prog 122 [slv t.length pt.1, I page].toArray w0 (fun e w' => e = .returned (GT.val (f_slotAt t page) ()) ∧ Chg NoB w0 w') := by
 refine Calls.run NoB Tryz.func122 ?_
 intro ac β S
 have hlet : t.length ≤ 4194304 := LRd.le ht
 refine S.gb 15 (.cons (Q_call fun w hw => c_impl_has w page (t.length : Int) (by omega)) .nil) (!(f_within page 0 ((t.length : Int) - 1))) (fun ac w β h1 S => ?_) (fun ac w β h1 S => ?_)
 ·have h2 := not_t h1
  have g3 := within_f h2
  exact S.gf 8 (.cons (Q_call fun w hw => c_impl_NoSlot w ) .nil) [GT.val (⟨-1, 0⟩ : TSlot) ()] (retV (p := ()) k0_impl_SlotAt)
 have h4 := not_f h1
 have g5 := within_t h4
 exact S.gf 13 (.cons (qt (S.arg ht) page Tryz.underlying45) (.cons (qs (S.arg ht) 44 page.toNat) .nil)) [GT.val (el t page.toNat) ()] (retV (p := ()) k0_impl_SlotAt)

theorem c_impl_BareFlush_1 (w0 : World) (x : TGuest) (px : PGuest) (F : Bl) (hx : GT.own KK F w0 x px) (hF : ∀ b, F b → b < w0.heap.size) (page : Int) (qpage : LP Int) (hpage : RD w0 [page] qpage) : Calls Tryz.prog 121 [GT.val x px, pt qpage.1.b (qpage.1.off + 0 * 1)].toArray w0 (RetT NoB F w0 (({ x with live := f_withSlot x.live page (f_slotAt x.written page) } : TGuest) : TGuest)) := by
 refine Calls.run NoB Tryz.func121 ?_
 intro ac β S
 have ox : Ow w0 F w0 (Lt w0.heap.size) F x px := ⟨hx, hF, fun b hb => .inr hb⟩
 have i4 : In64 x.acc := RGuest.acc (d := x) ox.rn
 have i5 : In64 x.pc := RGuest.pc (d := x) ox.rn
 have i12 : RCtl x.ctl := RGuest.ctl (d := x) ox.rn
 have i13 : In64 x.pend := RGuest.pend (d := x) ox.rn
 have i14 : RExit x.exit := RGuest.exit (d := x) ox.rn
 obtain ⟨F1, F6, F9, F15, o2, o7, o10, o16, _, _, _, _, d18, _, d20, _, d22, _⟩ := sp_Guest ox
 refine S.go 7 .nil fun ac w β S => ?_
 refine drw ?_
 refine S.draw0 (f := 10) 9 (by kernel_rfl) (by kernel_rfl) fun w S => ?_
 refine S.hq 0 [0] [] [(4, .p 0 4)] .nil fun ac S => ?_
 refine S.hq 1 [1] [] [(5, .v (slv x.live.length px.live.1))] .nil fun ac S => ?_
 refine S.hq 2 [2] [] [(6, .v (I page))] (.cons (Q_el1 (S.arg hpage) (t := 3) (k := 0) (Nat.succ_pos 0) rfl (by kernel_rfl)) .nil) fun ac S => ?_
 refine S.hq 3 [3] [] [(7, .p 0 3)] .nil fun ac S => ?_
 refine S.hq 4 [4] [] [(8, .v (slv x.written.length px.written.1))] .nil fun ac S => ?_
 refine S.hq 5 [5] [] [(9, .v (I page))] (.cons (Q_el1 (S.arg hpage) (t := 3) (k := 0) (Nat.succ_pos 0) rfl (by kernel_rfl)) .nil) fun ac S => ?_
 refine S.sq 6 [] [(10, .v (GT.val (f_slotAt x.written page) ()))] 2 [] (.cons (Q_call fun w hw => c_impl_SlotAt w x.written px.written (rd_of o7.rn hw) page) .nil) fun ac w β S => ?_
 refine WD.one (i := 7) (by kernel_rfl) ?_
 refine id (S.k1 11 (c_impl_WithSlot w x.live px.live (S.rd o10.rn) page (f_slotAt x.written page) (slotAt_r o7.rn page)) fun ac w N q24 F25 S up o26 d27 => ?_)
 refine WD.next S up (by kernel_rfl) ?_
 replace o26 := o26.wk (M' := F)
 have d28 := Disj.w d27 o2.sub
 have d29 := Disj.w d27 o7.sub
 have d31 := Disj.w d27 o16.sub
 replace o2 := o2.up up
 replace o7 := o7.up up
 replace o16 := o16.up up
 clear up d27
 refine S.hq 8 [8] [] [(12, .p 0 4)] .nil fun ac S => ?_
 refine S.sl 9 [] [] 2 [(0, [slv x.prog.length px.prog.1, I x.acc, I x.pc, slv x.written.length px.written.1, slv (f_withSlot x.live page (f_slotAt x.written page)).length q24.1, I x.ctl.traps, I x.ctl.post, B x.ctl.opn, I x.pend, I x.exit.kind, I x.exit.page, B x.exit.wr, I x.exit.n, B x.halted, slv x.seen.length px.seen.1])] .nil fun ac w β S => ?_
 refine WD.done (by kernel_rfl) ?_ _
 refine S.ex fun S => ?_
 refine S.gr 8 .nil [GT.val (⟨x.prog, x.acc, x.pc, x.written, (f_withSlot x.live page (f_slotAt x.written page)), x.ctl, x.pend, x.exit, x.halted, x.seen⟩ : TGuest) (⟨px.prog, px.written, q24, px.seen⟩ : PGuest)] fun ac w β S => ?_
 have o32 := ow_Guest (x := (⟨x.prog, x.acc, x.pc, x.written, (f_withSlot x.live page (f_slotAt x.written page)), x.ctl, x.pend, x.exit, x.halted, x.seen⟩ : TGuest)) (p := (⟨px.prog, px.written, q24, px.seen⟩ : PGuest)) o2 o7 o26 o16 d18 d28 d20 d29 d22 (Disj.symm d31) i4 i5 i12 i13 i14
 exact retT_of S (show ({ x with live := f_withSlot x.live page (f_slotAt x.written page) } : TGuest) = (⟨x.prog, x.acc, x.pc, x.written, (f_withSlot x.live page (f_slotAt x.written page)), x.ctl, x.pend, x.exit, x.halted, x.seen⟩ : TGuest) by clear S; rfl) rfl o32

theorem c_impl_copyProg (w0 : World) (l : List TIns) (pl : LP TIns) (hl : RD w0 l pl) : Calls Tryz.prog 189 [slv l.length pl.1].toArray w0 (Ret1 NoB w0 (l : List TIns)) := by
 refine Calls.run NoB Tryz.func189 ?_
 intro ac β S
 have hlel : l.length ≤ 4194304 := LRd.le hl
 refine S.go 7 .nil fun ac w β S => S.B0 (α := TIns) (d := 3) fun ac w N q1 F2 S up o3 d4 => ?_
 clear up d4
 have b9 : l.length ≤ 4194304 := LRd.le (S.arg hl)
 refine S.go 1 .nil fun ac w β S => S.AF0 (α := TIns) o3 (S.arg hl) (fun _ _ h => h) (by' := 16) (d := 5) (lx := 0) (ly := l.length) rfl fun ac w N q5 F6 S up o7 d8 => ?_
 clear up d8
 refine S.gr 4 .nil [slv l.length q5.1] fun ac w β S => ?_
 exact ret1_of S (show l = l by clear S; simp) rfl o7

theorem c_impl_copyInts (w0 : World) (l : List Int) (pl : LP Int) (hl : RD w0 l pl) : Calls Tryz.prog 102 [slv l.length pl.1].toArray w0 (Ret1 NoB w0 (l : List Int)) := by
 refine Calls.run NoB Tryz.func102 ?_
 intro ac β S
 have hlel : l.length ≤ 4194304 := LRd.le hl
 refine S.go 7 .nil fun ac w β S => S.B0 (α := Int) (d := 3) fun ac w N q1 F2 S up o3 d4 => ?_
 clear up d4
 have b9 : l.length ≤ 4194304 := LRd.le (S.arg hl)
 refine S.go 1 .nil fun ac w β S => S.AF0 (α := Int) o3 (S.arg hl) (fun _ _ h => h) (by' := 8) (d := 5) (lx := 0) (ly := l.length) rfl fun ac w N q5 F6 S up o7 d8 => ?_
 clear up d8
 refine S.gr 4 .nil [slv l.length q5.1] fun ac w β S => ?_
 exact ret1_of S (show l = l by clear S; simp) rfl o7

theorem c_impl_copyGuest (w0 : World) (g : TGuest) (pg : PGuest) (hg : RD w0 g pg) : Calls Tryz.prog 143 [GT.val g pg].toArray w0 (Ret1 NoB w0 (g : TGuest)) := by
 refine Calls.run NoB Tryz.func143 ?_
 intro ac β S
 have hleg_prog : g.prog.length ≤ 4194304 := LRd.le (RGuest.prog (d := g) hg)
 have hleg_written : g.written.length ≤ 4194304 := LRd.le (RGuest.written (d := g) hg)
 have hleg_live : g.live.length ≤ 4194304 := LRd.le (RGuest.live (d := g) hg)
 have hleg_seen : g.seen.length ≤ 4194304 := LRd.le (RGuest.seen (d := g) hg)
 refine S.go 10 .nil fun ac w β S => S.K1 (r := g.prog) (d := 5) (c_impl_copyProg w g.prog pg.prog (S.rd (RGuest.prog (d := g) (S.arg hg)))) fun ac w N q1 F2 S up o3 d4 => ?_
 clear up d4
 refine S.go 8 .nil fun ac w β S => S.K1 (r := g.written) (d := 9) (c_impl_copyTable w g.written pg.written (S.rd (RGuest.written (d := g) (S.arg hg)))) fun ac w N q5 F6 S up o7 d8 => ?_
 have d9 := Disj.w d8 o3.sub
 replace o3 := o3.up up
 clear up d8
 refine S.go 8 .nil fun ac w β S => S.K1 (r := g.live) (d := 13) (c_impl_copyTable w g.live pg.live (S.rd (RGuest.live (d := g) (S.arg hg)))) fun ac w N q10 F11 S up o12 d13 => ?_
 have d14 := Disj.w d13 o3.sub
 have d15 := Disj.w d13 o7.sub
 replace o3 := o3.up up
 replace o7 := o7.up up
 clear up d13
 refine S.go 8 .nil fun ac w β S => S.K1 (r := g.seen) (d := 17) (c_impl_copyInts w g.seen pg.seen (S.rd (RGuest.seen (d := g) (S.arg hg)))) fun ac w N q16 F17 S up o18 d19 => ?_
 have d20 := Disj.w d19 o3.sub
 have d21 := Disj.w d19 o7.sub
 have d22 := Disj.w d19 o12.sub
 replace o3 := o3.up up
 replace o7 := o7.up up
 replace o12 := o12.up up
 clear up d19
 refine S.gr 11 .nil [GT.val (⟨g.prog, g.acc, g.pc, g.written, g.live, g.ctl, g.pend, g.exit, g.halted, g.seen⟩ : TGuest) (⟨q1, q5, q10, q16⟩ : PGuest)] fun ac w β S => ?_
 have o23 := ow_Guest (x := (⟨g.prog, g.acc, g.pc, g.written, g.live, g.ctl, g.pend, g.exit, g.halted, g.seen⟩ : TGuest)) (p := (⟨q1, q5, q10, q16⟩ : PGuest)) o3 o7 o12 o18 d9 d14 d20 d15 d21 d22 (RGuest.acc (d := g) (S.arg hg)) (RGuest.pc (d := g) (S.arg hg)) (RGuest.ctl (d := g) (S.arg hg)) (RGuest.pend (d := g) (S.arg hg)) (RGuest.exit (d := g) (S.arg hg))
 exact ret1_of S (show g = (⟨g.prog, g.acc, g.pc, g.written, g.live, g.ctl, g.pend, g.exit, g.halted, g.seen⟩ : TGuest) by clear S; (first | rfl | simp)) rfl o23

theorem k0_impl_GuestAt {p : Prop} (h : p := by clear S; (first | (unfold f_guestAt; rw [if_pos (by omega)]; done) | (unfold f_guestAt; rw [if_pos (by omega)]; first | rfl | (simp; done)) | (unfold f_guestAt; rw [if_neg (by omega)]; done) | (unfold f_guestAt; rw [if_neg (by omega)]; first | rfl | (simp; done)))) : p := h
theorem c_impl_GuestAt (w0 : World) (b : TBare) (pb : PBare) (hb : RD w0 b pb) (g : Int) : Calls Tryz.prog 103 [GT.val b pb, I g].toArray w0 (Ret2 NoB w0 ((f_guestAt b g).1 : TGuest) ((f_guestAt b g).2 : Bool)) := by
 refine Calls.run NoB Tryz.func103 ?_
 intro ac β S
 have hleb_mem : b.mem.length ≤ 4194304 := LRd.le (RBare.mem (d := b) hb)
 have hleb_guests : b.guests.length ≤ 4194304 := LRd.le (RBare.guests (d := b) hb)
 have hleb_outs : b.outs.length ≤ 4194304 := LRd.le (RBare.outs (d := b) hb)
 refine S.gb 18 (.cons (Q_call fun w hw => c_impl_has w g (b.guests.length : Int) (by omega)) .nil) (!(f_within g 0 ((b.guests.length : Int) - 1))) (fun ac w β h1 S => ?_) (fun ac w β h1 S => ?_)
 ·have h2 := not_t h1
  have g3 := within_f h2
  refine S.gr 9 (.cons (Q_sem (s := Instr.build 51 [].toArray) (v := .agg [slv ([] : List TIns).length (GT.pdflt (α := List TIns)).1, I 0, I 0, slv ([] : List TSlot).length (GT.pdflt (α := List TSlot)).1, slv ([] : List TSlot).length (GT.pdflt (α := List TSlot)).1, I 0, I 0, B false, I 0, I 0, I 0, B false, I 0, B false, slv ([] : List Int).length (GT.pdflt (α := List Int)).1].toArray) (fun w => by kernel_rfl)) .nil) [GT.val (⟨([] : List TIns), 0, 0, ([] : List TSlot), ([] : List TSlot), (⟨0, 0, false⟩ : TCtl), 0, (⟨0, 0, false, 0⟩ : TExit), false, ([] : List Int)⟩ : TGuest) (⟨(GT.pdflt (α := List TIns)), (GT.pdflt (α := List TSlot)), (GT.pdflt (α := List TSlot)), (GT.pdflt (α := List Int))⟩ : PGuest), B false] fun ac w β S => ?_
  have o4 := S.nilOw (α := TIns)
  have o5 := S.nilOw (α := TSlot)
  have o6 := S.nilOw (α := TSlot)
  have o7 := S.nilOw (α := Int)
  have o8 := ow_Guest (x := (⟨([] : List TIns), 0, 0, ([] : List TSlot), ([] : List TSlot), (⟨0, 0, false⟩ : TCtl), 0, (⟨0, 0, false, 0⟩ : TExit), false, ([] : List Int)⟩ : TGuest)) (p := (⟨(GT.pdflt (α := List TIns)), (GT.pdflt (α := List TSlot)), (GT.pdflt (α := List TSlot)), (GT.pdflt (α := List Int))⟩ : PGuest)) o4 o5 o6 o7 (fun b _ h => False.elim h) (fun b _ h => False.elim h) (fun b _ h => False.elim h) (fun b _ h => False.elim h) (fun b _ h => False.elim h) (fun b _ h => False.elim h) (show In64 0 from ⟨by decide, by decide⟩) (show In64 0 from ⟨by decide, by decide⟩) (show RCtl (⟨0, 0, false⟩ : TCtl) from ⟨(show In64 0 from ⟨by decide, by decide⟩), (show In64 0 from ⟨by decide, by decide⟩)⟩) (show In64 0 from ⟨by decide, by decide⟩) (show RExit (⟨0, 0, false, 0⟩ : TExit) from ⟨(show In64 0 from ⟨by decide, by decide⟩), (show In64 0 from ⟨by decide, by decide⟩), (show In64 0 from ⟨by decide, by decide⟩)⟩)
  exact ret2_of (p' := ()) S (show (f_guestAt b g).1 = (⟨([] : List TIns), 0, 0, ([] : List TSlot), ([] : List TSlot), (⟨0, 0, false⟩ : TCtl), 0, (⟨0, 0, false, 0⟩ : TExit), false, ([] : List Int)⟩ : TGuest) from k0_impl_GuestAt) (show (f_guestAt b g).2 = false from k0_impl_GuestAt) rfl rfl o8 trivial
 have h9 := not_f h1
 have g10 := within_t h9
 refine S.go 10 (.cons (qt (RBare.guests (d := b) (S.arg hb)) g Tryz.underlying25) (.cons (qs (RBare.guests (d := b) (S.arg hb)) 51 g.toNat) .nil)) fun ac w β S => S.K1 (r := (el b.guests g.toNat)) (d := 18) (c_impl_copyGuest w (el b.guests g.toNat) (pb.guests.2 g.toNat) (S.rd (LRd.el (RBare.guests (d := b) (S.arg hb)) g.toNat (by omega)))) fun ac w N q11 F12 S up o13 d14 => ?_
 clear up d14
 refine S.gr 5 .nil [GT.val (el b.guests g.toNat) q11, B true] fun ac w β S => ?_
 exact ret2_of (p' := ()) S (show (f_guestAt b g).1 = (el b.guests g.toNat) from k0_impl_GuestAt) (show (f_guestAt b g).2 = true from k0_impl_GuestAt) rfl rfl o13 trivial

theorem k0_impl_InsOk {p : Prop} (h : p := by clear S; first | rfl | (simp [f_insOk, *]; done) | (simp [f_insOk, *]; omega) | (simp_all [f_insOk]; done) | (simp_all [f_insOk]; omega)) : p := h
theorem c_impl_InsOk (w0 : World) (i : TIns) : Calls Tryz.prog 213 [GT.val i ()].toArray w0 (fun e w' => e = .returned (B (f_insOk i)) ∧ Chg NoB w0 w') := by
 refine Calls.run NoB Tryz.func213 ?_
 intro ac β S
 refine S.gd 21 .nil (i.opc == 1) (fun ac w β h1 g2 S => ?_) (fun ac w β h1 g2 S => ?_)
 ·exact S.gf 13 (.cons (Q_call fun w hw => c_impl_within w i.x 0 99) .nil) [B (f_within i.x 0 99)] (retB k0_impl_InsOk)
 refine S.gd 7 .nil (i.opc == 2) (fun ac w β h3 g4 S => ?_) (fun ac w β h3 g4 S => ?_)
 ·exact S.gf 13 (.cons (Q_call fun w hw => c_impl_within w i.x 0 99) .nil) [B (f_within i.x 0 99)] (retB k0_impl_InsOk)
 refine S.gd 7 .nil (i.opc == 5) (fun ac w β h5 g6 S => ?_) (fun ac w β h5 g6 S => ?_)
 ·exact S.gf 13 (.cons (Q_call fun w hw => c_impl_within w i.x 0 99) .nil) [B (f_within i.x 0 99)] (retB k0_impl_InsOk)
 refine S.gd 6 .nil (i.opc == 6) (fun ac w β h7 g8 S => ?_) (fun ac w β h7 g8 S => ?_)
 ·exact S.gf 10 (.cons (Q_call fun w hw => c_impl_within w i.x 0 99) .nil) [B (f_within i.x 0 99)] (retB k0_impl_InsOk)
 refine S.gd 8 .nil (i.opc == 3) (fun ac w β h9 g10 S => ?_) (fun ac w β h9 g10 S => ?_)
 ·exact S.gf 13 (.cons (Q_call fun w hw => c_impl_within w i.x 0 15) .nil) [B (f_within i.x 0 15)] (retB k0_impl_InsOk)
 refine S.gd 6 .nil (i.opc == 4) (fun ac w β h11 g12 S => ?_) (fun ac w β h11 g12 S => ?_)
 ·exact S.gf 10 (.cons (Q_call fun w hw => c_impl_within w i.x 0 15) .nil) [B (f_within i.x 0 15)] (retB k0_impl_InsOk)
 refine S.gd 7 .nil (i.opc == 7) (fun ac w β h13 g14 S => ?_) (fun ac w β h13 g14 S => ?_)
 ·exact S.gf 10 .nil [B (i.x == 0)] (retB k0_impl_InsOk)
 refine S.gd 7 .nil (i.opc == 8) (fun ac w β h15 g16 S => ?_) (fun ac w β h15 g16 S => ?_)
 ·exact S.gf 10 (.cons (Q_call fun w hw => c_impl_within w i.x 0 11) .nil) [B (f_within i.x 0 11)] (retB k0_impl_InsOk)
 exact S.gf 10 .nil [B false] (retB k0_impl_InsOk)

theorem c_impl_ProgOk (w0 : World) (p : List TIns) (pp : LP TIns) (hp : RD w0 p pp) : Calls Tryz.prog 201 [slv p.length pp.1].toArray w0 (fun e w' => e = .returned (B (f_progOk p)) ∧ Chg NoB w0 w') := by
 refine Calls.run NoB Tryz.func201 ?_
 intro ac β S
 have hlep : p.length ≤ 4194304 := LRd.le hp
 refine S.go 14 .nil fun ac w β S => ?_
 refine lp (fun mm ac w => ∃ (k : Nat)  (u : _) (N : _) (β : _), mm = p.length - k ∧ (k ≤ p.length) ∧ ((p.take k).all f_insOk = true) ∧ St Tryz.prog Tryz.f201.ntmps w0 NoB u N β ⟨[(0, .v (slv p.length pp.1)), (5, .v (slv p.length pp.1)), (6, .v (I (p.length : Int))), (7, .v (I (k : Int)))], []⟩ ac w) _ ⟨0, _, _, _, rfl, o0, (by simp), S.z⟩ ?_
 clear S
 rintro f1 mm hf2 ac w ⟨k, u, N, β, rfl, hk, he, S⟩
 refine S.rs fun S => ?_
 refine S.gd 6 .nil (decide ((k : Int) < (p.length : Int))) (fun ac w β h3 g4 S => ?_) (fun ac w β h3 g4 S => ?_)
 ·refine S.gb 20 (.cons (qn (S.arg hp) k Tryz.underlying41) (.cons (qs (S.arg hp) 40 k) (.cons (Q_call fun w hw => c_impl_InsOk w (el p k)) .nil))) (!(f_insOk (el p k))) (fun ac w β h5 S => ?_) (fun ac w β h5 S => ?_)
  ·have h6 := not_t h5
   exact S.gf 7 .nil [B false] (retB (by clear S; (first | (unfold f_progOk; rw [all_bad (k := k) (by omega) (by first | assumption | simp_all)]; simp; done) | (unfold f_progOk; rw [all_end (by omega) he]; simp; done) | (unfold f_progOk; rw [all_end (by omega) he]; simp [*]; done) | (unfold f_progOk; rw [all_end (by omega) he]; simp; omega))))
  have h7 := not_f h5
  refine S.ge 8 (.cons (qp (k : Int) 1) .nil) f1 fun ac w β S => hf2.of (p.length - (k + 1)) _ _ (by omega) ⟨k + 1, _, _, _, rfl, ?_, ?_, S.z⟩
  ·exact oz
  ·clear S; exact all_step (by omega) he (by first | assumption | (simp only [f_slotOk, f_within] at *; simp_all; done) | (simp_all; done) | (simp_all; omega))
 exact S.gf 15 (.cons (Q_call fun w hw => c_impl_within w (p.length : Int) 1 12) .nil) [B (f_within (p.length : Int) 1 12)] (retB (by clear S; (first | (unfold f_progOk; rw [all_end (by omega) he]; simp; done) | (unfold f_progOk; rw [all_end (by omega) he]; simp [*]; done) | (unfold f_progOk; rw [all_end (by omega) he]; simp; omega) | (unfold f_progOk; rw [all_bad (k := k) (by omega) (by first | assumption | simp_all)]; simp; done))))

theorem c_impl_TableOk (w0 : World) (t : List TSlot) (pt : LP TSlot) (ht : RD w0 t pt) (size : Int) (pages : Int) (pre0 : 0 ≤ pages) (pre1 : pages ≤ 1000) : Calls Tryz.prog 183 [slv t.length pt.1, I size, I pages].toArray w0 (fun e w' => e = .returned (B (f_tableOk t size pages)) ∧ Chg NoB w0 w') := by
 refine Calls.run NoB Tryz.func183 ?_
 intro ac β S
 have hlet : t.length ≤ 4194304 := LRd.le ht
 refine S.go 14 .nil fun ac w β S => ?_
 refine lp (fun mm ac w => ∃ (k : Nat)  (u : _) (N : _) (β : _), mm = t.length - k ∧ (k ≤ t.length) ∧ ((t.take k).all (fun s => f_slotOk s pages) = true) ∧ St Tryz.prog Tryz.f183.ntmps w0 NoB u N β ⟨[(0, .v (slv t.length pt.1)), (1, .v (I size)), (2, .v (I pages)), (9, .v (slv t.length pt.1)), (10, .v (I (t.length : Int))), (11, .v (I (k : Int)))], []⟩ ac w) _ ⟨0, _, _, _, rfl, o0, (by simp), S.z⟩ ?_
 clear S
 rintro f1 mm hf2 ac w ⟨k, u, N, β, rfl, hk, he, S⟩
 refine S.rs fun S => ?_
 refine S.gd 6 .nil (decide ((k : Int) < (t.length : Int))) (fun ac w β h3 g4 S => ?_) (fun ac w β h3 g4 S => ?_)
 ·refine S.gb 21 (.cons (qn (S.arg ht) k Tryz.underlying45) (.cons (qs (S.arg ht) 44 k) (.cons (Q_call fun w hw => c_impl_SlotOk w (el t k) pages (by omega) (by omega)) .nil))) (!(f_slotOk (el t k) pages)) (fun ac w β h5 S => ?_) (fun ac w β h5 S => ?_)
  ·have h6 := not_t h5
   exact S.gf 7 .nil [B false] (retB (by clear S; (first | (unfold f_tableOk; rw [all_bad (k := k) (by omega) (by first | assumption | simp_all)]; simp; done) | (unfold f_tableOk; rw [all_end (by omega) he]; simp; done) | (unfold f_tableOk; rw [all_end (by omega) he]; simp [*]; done) | (unfold f_tableOk; rw [all_end (by omega) he]; simp; omega))))
  have h7 := not_f h5
  refine S.ge 8 (.cons (qp (k : Int) 1) .nil) f1 fun ac w β S => hf2.of (t.length - (k + 1)) _ _ (by omega) ⟨k + 1, _, _, _, rfl, ?_, ?_, S.z⟩
  ·exact oz
  ·clear S; exact all_step (by omega) he (by first | assumption | (simp only [f_slotOk, f_within] at *; simp_all; done) | (simp_all; done) | (simp_all; omega))
 exact S.gf 16 .nil [B ((t.length : Int) == size)] (retB (by clear S; (first | (unfold f_tableOk; rw [all_end (by omega) he]; simp; done) | (unfold f_tableOk; rw [all_end (by omega) he]; simp [*]; done) | (unfold f_tableOk; rw [all_end (by omega) he]; simp; omega) | (unfold f_tableOk; rw [all_bad (k := k) (by omega) (by first | assumption | simp_all)]; simp; done))))

theorem c_impl_CtlFaults (w0 : World) (c : TCtl) : Calls Tryz.prog 180 [GT.val c ()].toArray w0 (Ret1 NoB w0 (f_ctlFaults c : List Int)) := by
 refine Calls.run NoB Tryz.func180 ?_
 intro ac β S
 refine S.go 8 .nil fun ac w β S => S.B0 (α := Int) (d := 4) fun ac w N q1 F2 S up o3 d4 => ?_
 clear up d4
 refine S.go 12 (.cons (Q_call fun w hw => c_impl_within w c.traps 0 3) .nil) fun ac w β S => ?_
 refine cutC S (fun ac w => ∃ (acc1 : List Int) (q5 : _) (F6 : _) (u : _) (N : _) (β : _), (acc1 = (if f_within c.traps 0 3 then [] else [1])) ∧ St Tryz.prog Tryz.f180.ntmps w0 NoB u N β ⟨[(1, .p 0 0), (3, .v (slv acc1.length q5.1))], [GT.cells c ()]⟩ ac w ∧ Ow w0 NoB u N F6 acc1 q5) ?_ ?_
 ·clear S; intro S
  refine S.gb 0 .nil (!(f_within c.traps 0 3)) (fun ac w β h8 S => ?_) (fun ac w β h8 S => ?_)
  ·have h9 := not_t h8
   have g10 := within_f h9
   refine S.go 3 .nil fun ac w β S => S.B1 (α := Int) (x := 1) (p := ()) (F := NoB) (show In64 1 from ⟨by decide, by decide⟩) (fun b h => False.elim h) (fun b h => False.elim h) (d := 10) fun ac w N q11 F12 S up o13 d14 => ?_
   replace o3 := o3.up up
   clear up d14
   refine S.AF0 (α := Int) o3 o13.rn (fun _ _ h => h) (by' := 8) (d := 11) (lx := 0) (ly := 1) rfl fun ac w N q16 F17 S up o18 d19 => ?_
   clear up d19
   exact S.gn 2 .nil fun ac w β S => ⟨rfl, ([1]), q16, F17, _, _, _, (by clear S; (first | (rw [if_pos (by assumption)]; simp [*]; done) | (rw [if_neg (by simp [*])]; simp [*]; done) | ((repeat' split) <;> first | rfl | (simp; done) | (exfalso; simp_all; done) | (simp_all; done)))), S.z, o18⟩
  have h21 := not_f h8
  have g22 := within_t h21
  exact S.gn 2 .nil fun ac w β S => ⟨rfl, ([] : List Int), q1, F2, _, _, _, (by clear S; (first | (rw [if_pos (by assumption)]; simp [*]; done) | (rw [if_neg (by simp [*])]; simp [*]; done) | ((repeat' split) <;> first | rfl | (simp; done) | (exfalso; simp_all; done) | (simp_all; done)))), S.z, o3⟩
 clear S o3
 rintro ac w ⟨acc1, q5, F6, u, N, β, ha1, S, o7⟩
 have hl1 : acc1.length ≤ 1 := by rw [ha1]; (repeat' split) <;> simp
 refine S.ex fun S => ?_
 refine S.go 10 (.cons (Q_call fun w hw => c_impl_within w c.post 0 255) .nil) fun ac w β S => ?_
 refine cutC S (fun ac w => ∃ (acc2 : List Int) (q23 : _) (F24 : _) (u : _) (N : _) (β : _), (acc2 = (if f_within c.traps 0 3 then [] else [1]) ++ (if f_within c.post 0 255 then [] else [2])) ∧ St Tryz.prog Tryz.f180.ntmps w0 NoB u N β ⟨[(1, .p 0 0), (3, .v (slv acc2.length q23.1))], [GT.cells c ()]⟩ ac w ∧ Ow w0 NoB u N F24 acc2 q23) ?_ ?_
 ·clear S; intro S
  refine S.gb 0 .nil (!(f_within c.post 0 255)) (fun ac w β h26 S => ?_) (fun ac w β h26 S => ?_)
  ·have h27 := not_t h26
   have g28 := within_f h27
   refine S.go 3 .nil fun ac w β S => S.B1 (α := Int) (x := 2) (p := ()) (F := NoB) (show In64 2 from ⟨by decide, by decide⟩) (fun b h => False.elim h) (fun b h => False.elim h) (d := 17) fun ac w N q29 F30 S up o31 d32 => ?_
   replace o7 := o7.up up
   clear up d32
   refine S.AF (α := Int) o7 o31.rn (fun _ _ h => h) (by' := 8) (d := 18) (lx := acc1.length) (ly := 1) rfl rfl (show _ ≤ 4194304 by simp only [List.length_append, List.length_cons, List.length_nil]; omega) fun ac w N q34 F35 S up o36 d37 => ?_
   clear up d37
   exact S.gn 2 .nil fun ac w β S => ⟨rfl, (acc1 ++ [2]), q34, F35, _, _, _, (by clear S; (first | (rw [if_pos (by assumption)]; simp [*]; done) | (rw [if_neg (by simp [*])]; simp [*]; done) | (rw [ha1]; (repeat' split) <;> first | rfl | (simp; done) | (exfalso; simp_all; done) | (simp_all; done)))), S.z, o36⟩
  have h39 := not_f h26
  have g40 := within_t h39
  exact S.gn 2 .nil fun ac w β S => ⟨rfl, acc1, q5, F6, _, _, _, (by clear S; (first | (rw [if_pos (by assumption)]; simp [*]; done) | (rw [if_neg (by simp [*])]; simp [*]; done) | (rw [ha1]; (repeat' split) <;> first | rfl | (simp; done) | (exfalso; simp_all; done) | (simp_all; done)))), S.z, o7⟩
 clear S o7
 rintro ac w ⟨acc2, q23, F24, u, N, β, ha2, S, o25⟩
 have hl2 : acc2.length ≤ 2 := by rw [ha2]; (repeat' split) <;> simp
 refine S.ex fun S => ?_
 refine S.gd 8 .nil (c.post != 0) (fun ac w β h41 g42 S => ?_) (fun ac w β h41 g42 S => ?_)
 ·refine S.go 6 .nil fun ac w β S => ?_
  refine cutC S (fun ac w => ∃ (acc3 : List Int) (q43 : _) (F44 : _) (u : _) (N : _) (β : _), (acc3 = (if f_within c.traps 0 3 then [] else [1]) ++ (if f_within c.post 0 255 then [] else [2]) ++ (if c.post ≠ 0 ∧ c.opn = false then [3] else [])) ∧ St Tryz.prog Tryz.f180.ntmps w0 NoB u N β ⟨[(1, .p 0 0), (3, .v (slv acc3.length q43.1))], [GT.cells c ()]⟩ ac w ∧ Ow w0 NoB u N F44 acc3 q43) ?_ ?_
  ·clear S; intro S
   refine S.gb 0 .nil (!c.opn) (fun ac w β h46 S => ?_) (fun ac w β h46 S => ?_)
   ·have h47 := not_t h46
    refine S.go 3 .nil fun ac w β S => S.B1 (α := Int) (x := 3) (p := ()) (F := NoB) (show In64 3 from ⟨by decide, by decide⟩) (fun b h => False.elim h) (fun b h => False.elim h) (d := 28) fun ac w N q48 F49 S up o50 d51 => ?_
    replace o25 := o25.up up
    clear up d51
    refine S.AF (α := Int) o25 o50.rn (fun _ _ h => h) (by' := 8) (d := 29) (lx := acc2.length) (ly := 1) rfl rfl (show _ ≤ 4194304 by simp only [List.length_append, List.length_cons, List.length_nil]; omega) fun ac w N q53 F54 S up o55 d56 => ?_
    clear up d56
    exact S.gn 2 .nil fun ac w β S => ⟨rfl, (acc2 ++ [3]), q53, F54, _, _, _, (by clear S; (first | (rw [if_pos (by assumption)]; simp [*]; done) | (rw [if_neg (by simp [*])]; simp [*]; done) | (rw [ha2]; (repeat' split) <;> first | rfl | (simp; done) | (exfalso; simp_all; done) | (simp_all; done)))), S.z, o55⟩
   have h58 := not_f h46
   exact S.gn 2 .nil fun ac w β S => ⟨rfl, acc2, q23, F24, _, _, _, (by clear S; (first | (rw [if_pos (by assumption)]; simp [*]; done) | (rw [if_neg (by simp [*])]; simp [*]; done) | (rw [ha2]; (repeat' split) <;> first | rfl | (simp; done) | (exfalso; simp_all; done) | (simp_all; done)))), S.z, o25⟩
  clear S o25
  rintro ac w ⟨acc3, q43, F44, u, N, β, ha3, S, o45⟩
  have hl3 : acc3.length ≤ 3 := by rw [ha3]; (repeat' split) <;> simp
  refine S.ex fun S => ?_
  refine S.gd 8 .nil (c.traps == 2) (fun ac w β h59 g60 S => ?_) (fun ac w β h59 g60 S => ?_)
  ·refine S.go 6 .nil fun ac w β S => ?_
   refine cutC S (fun ac w => ∃ (acc4 : List Int) (q61 : _) (F62 : _) (u : _) (N : _) (β : _), (acc4 = (if f_within c.traps 0 3 then [] else [1]) ++ (if f_within c.post 0 255 then [] else [2]) ++ (if c.post ≠ 0 ∧ c.opn = false then [3] else []) ++ (if c.traps = 2 ∧ c.post ≠ 0 then [4] else [])) ∧ St Tryz.prog Tryz.f180.ntmps w0 NoB u N β ⟨[(3, .v (slv acc4.length q61.1))], []⟩ ac w ∧ Ow w0 NoB u N F62 acc4 q61) ?_ ?_
   ·clear S; intro S
    refine S.lt 37 h41 fun S => ?_
    refine S.go 3 .nil fun ac w β S => S.B1 (α := Int) (x := 4) (p := ()) (F := NoB) (show In64 4 from ⟨by decide, by decide⟩) (fun b h => False.elim h) (fun b h => False.elim h) (d := 39) fun ac w N q64 F65 S up o66 d67 => ?_
    replace o45 := o45.up up
    clear up d67
    refine S.AF (α := Int) o45 o66.rn (fun _ _ h => h) (by' := 8) (d := 40) (lx := acc3.length) (ly := 1) rfl rfl (show _ ≤ 4194304 by simp only [List.length_append, List.length_cons, List.length_nil]; omega) fun ac w N q69 F70 S up o71 d72 => ?_
    clear up d72
    exact S.gn 2 .nil fun ac w β S => ⟨rfl, (acc3 ++ [4]), q69, F70, _, _, _, (by clear S; (first | (rw [if_pos (by assumption)]; simp [*]; done) | (rw [if_neg (by simp [*])]; simp [*]; done) | (rw [ha3]; (repeat' split) <;> first | rfl | (simp; done) | (exfalso; simp_all; done) | (simp_all; done)))), S.z, o71⟩
   clear S o45
   rintro ac w ⟨acc4, q61, F62, u, N, β, ha4, S, o63⟩
   have hl4 : acc4.length ≤ 4 := by rw [ha4]; (repeat' split) <;> simp
   refine S.ex fun S => ?_
   refine S.gr 8 .nil [slv acc4.length q61.1] fun ac w β S => ?_
   exact ret1_of S (show f_ctlFaults c = acc4 by clear S; (rw [ha4]; rfl)) rfl o63
  refine S.go 6 .nil fun ac w β S => ?_
  refine cutC S (fun ac w => ∃ (acc4 : List Int) (q74 : _) (F75 : _) (u : _) (N : _) (β : _), (acc4 = (if f_within c.traps 0 3 then [] else [1]) ++ (if f_within c.post 0 255 then [] else [2]) ++ (if c.post ≠ 0 ∧ c.opn = false then [3] else []) ++ (if c.traps = 2 ∧ c.post ≠ 0 then [4] else [])) ∧ St Tryz.prog Tryz.f180.ntmps w0 NoB u N β ⟨[(3, .v (slv acc4.length q74.1))], []⟩ ac w ∧ Ow w0 NoB u N F75 acc4 q74) ?_ ?_
  ·clear S; intro S
   exact S.gn 2 .nil fun ac w β S => ⟨rfl, acc3, q43, F44, _, _, _, (by clear S; (first | (rw [if_pos (by assumption)]; simp [*]; done) | (rw [if_neg (by simp [*])]; simp [*]; done) | (rw [ha3]; (repeat' split) <;> first | rfl | (simp; done) | (exfalso; simp_all; done) | (simp_all; done)))), S.z, o45⟩
  clear S o45
  rintro ac w ⟨acc4, q74, F75, u, N, β, ha4, S, o76⟩
  have hl4 : acc4.length ≤ 4 := by rw [ha4]; (repeat' split) <;> simp
  refine S.ex fun S => ?_
  refine S.gr 8 .nil [slv acc4.length q74.1] fun ac w β S => ?_
  exact ret1_of S (show f_ctlFaults c = acc4 by clear S; (rw [ha4]; rfl)) rfl o76
 refine S.go 6 .nil fun ac w β S => ?_
 refine cutC S (fun ac w => ∃ (acc3 : List Int) (q77 : _) (F78 : _) (u : _) (N : _) (β : _), (acc3 = (if f_within c.traps 0 3 then [] else [1]) ++ (if f_within c.post 0 255 then [] else [2]) ++ (if c.post ≠ 0 ∧ c.opn = false then [3] else [])) ∧ St Tryz.prog Tryz.f180.ntmps w0 NoB u N β ⟨[(1, .p 0 0), (3, .v (slv acc3.length q77.1))], [GT.cells c ()]⟩ ac w ∧ Ow w0 NoB u N F78 acc3 q77) ?_ ?_
 ·clear S; intro S
  exact S.gn 2 .nil fun ac w β S => ⟨rfl, acc2, q23, F24, _, _, _, (by clear S; (first | (rw [if_pos (by assumption)]; simp [*]; done) | (rw [if_neg (by simp [*])]; simp [*]; done) | (rw [ha2]; (repeat' split) <;> first | rfl | (simp; done) | (exfalso; simp_all; done) | (simp_all; done)))), S.z, o25⟩
 clear S o25
 rintro ac w ⟨acc3, q77, F78, u, N, β, ha3, S, o79⟩
 have hl3 : acc3.length ≤ 3 := by rw [ha3]; (repeat' split) <;> simp
 refine S.ex fun S => ?_
 refine S.gd 8 .nil (c.traps == 2) (fun ac w β h80 g81 S => ?_) (fun ac w β h80 g81 S => ?_)
 ·refine S.go 6 .nil fun ac w β S => ?_
  refine cutC S (fun ac w => ∃ (acc4 : List Int) (q82 : _) (F83 : _) (u : _) (N : _) (β : _), (acc4 = (if f_within c.traps 0 3 then [] else [1]) ++ (if f_within c.post 0 255 then [] else [2]) ++ (if c.post ≠ 0 ∧ c.opn = false then [3] else []) ++ (if c.traps = 2 ∧ c.post ≠ 0 then [4] else [])) ∧ St Tryz.prog Tryz.f180.ntmps w0 NoB u N β ⟨[(3, .v (slv acc4.length q82.1))], []⟩ ac w ∧ Ow w0 NoB u N F83 acc4 q82) ?_ ?_
  ·clear S; intro S
   refine S.lt 37 h41 fun S => ?_
   exact S.gn 2 .nil fun ac w β S => ⟨rfl, acc3, q77, F78, _, _, _, (by clear S; (first | (rw [if_pos (by assumption)]; simp [*]; done) | (rw [if_neg (by simp [*])]; simp [*]; done) | (rw [ha3]; (repeat' split) <;> first | rfl | (simp; done) | (exfalso; simp_all; done) | (simp_all; done)))), S.z, o79⟩
  clear S o79
  rintro ac w ⟨acc4, q82, F83, u, N, β, ha4, S, o84⟩
  have hl4 : acc4.length ≤ 4 := by rw [ha4]; (repeat' split) <;> simp
  refine S.ex fun S => ?_
  refine S.gr 8 .nil [slv acc4.length q82.1] fun ac w β S => ?_
  exact ret1_of S (show f_ctlFaults c = acc4 by clear S; (rw [ha4]; rfl)) rfl o84
 refine S.go 6 .nil fun ac w β S => ?_
 refine cutC S (fun ac w => ∃ (acc4 : List Int) (q85 : _) (F86 : _) (u : _) (N : _) (β : _), (acc4 = (if f_within c.traps 0 3 then [] else [1]) ++ (if f_within c.post 0 255 then [] else [2]) ++ (if c.post ≠ 0 ∧ c.opn = false then [3] else []) ++ (if c.traps = 2 ∧ c.post ≠ 0 then [4] else [])) ∧ St Tryz.prog Tryz.f180.ntmps w0 NoB u N β ⟨[(3, .v (slv acc4.length q85.1))], []⟩ ac w ∧ Ow w0 NoB u N F86 acc4 q85) ?_ ?_
 ·clear S; intro S
  exact S.gn 2 .nil fun ac w β S => ⟨rfl, acc3, q77, F78, _, _, _, (by clear S; (first | (rw [if_pos (by assumption)]; simp [*]; done) | (rw [if_neg (by simp [*])]; simp [*]; done) | (rw [ha3]; (repeat' split) <;> first | rfl | (simp; done) | (exfalso; simp_all; done) | (simp_all; done)))), S.z, o79⟩
 clear S o79
 rintro ac w ⟨acc4, q85, F86, u, N, β, ha4, S, o87⟩
 have hl4 : acc4.length ≤ 4 := by rw [ha4]; (repeat' split) <;> simp
 refine S.ex fun S => ?_
 refine S.gr 8 .nil [slv acc4.length q85.1] fun ac w β S => ?_
 exact ret1_of S (show f_ctlFaults c = acc4 by clear S; (rw [ha4]; rfl)) rfl o87

theorem c_impl_CtlOk (w0 : World) (c : TCtl) : Calls Tryz.prog 132 [GT.val c ()].toArray w0 (fun e w' => e = .returned (B (f_ctlOk c)) ∧ Chg NoB w0 w') := by
 refine Calls.run NoB Tryz.func132 ?_
 intro ac β S
 refine S.go 9 .nil fun ac w β S => S.K1 (r := f_ctlFaults c) (d := 4) (c_impl_CtlFaults w c) fun ac w N q1 F2 S up o3 d4 => ?_
 clear up d4
 exact S.gf 6 .nil [B (((f_ctlFaults c).length : Int) == 0)] (retB (by clear S; first | rfl | (simp [f_ctlOk, *]; done) | (simp [f_ctlOk, *]; omega) | (simp_all [f_ctlOk]; done) | (simp_all [f_ctlOk]; omega)))

theorem c_impl_PendOk (w0 : World) (p : Int) : Calls Tryz.prog 171 [I p].toArray w0 (fun e w' => e = .returned (B (f_within p 0 255)) ∧ Chg NoB w0 w') := by
 refine Calls.run NoB Tryz.func171 ?_
 intro ac β S
 exact S.gf 13 (.cons (Q_call fun w hw => c_impl_within w p 0 255) .nil) [B (f_within p 0 255)] (retB (by clear S; first | rfl | (simp [f_within, *]; done) | (simp [f_within, *]; omega) | (simp_all [f_within]; done) | (simp_all [f_within]; omega)))

theorem k0_impl_ExitOk {p : Prop} (h : p := by clear S; (unfold f_exitOk; (repeat' split) <;> first | rfl | (exfalso; simp_all; done) | (exfalso; omega) | (rw [Bool.eq_iff_iff]; simp [TExit.ext_iff, *]; done) | (rw [Bool.eq_iff_iff]; simp_all [TExit.ext_iff, and_assoc]; done) | (rw [Bool.eq_iff_iff]; simp_all [TExit.ext_iff, and_assoc]; omega))) : p := h
theorem c_impl_ExitOk (w0 : World) (x : TExit) : Calls Tryz.prog 202 [GT.val x ()].toArray w0 (fun e w' => e = .returned (B (f_exitOk x)) ∧ Chg NoB w0 w') := by
 refine Calls.run NoB Tryz.func202 ?_
 intro ac β S
 refine S.gd 21 .nil (x.kind == 0) (fun ac w β h1 g2 S => ?_) (fun ac w β h1 g2 S => ?_)
 ·refine S.gd 10 .nil (x.page == 0) (fun ac w β h3 g4 S => ?_) (fun ac w β h3 g4 S => ?_)
  ·refine S.gb 5 .nil (!x.wr) (fun ac w β h5 S => ?_) (fun ac w β h5 S => ?_)
   ·have h6 := not_t h5
    exact S.gf 8 .nil [B (x.n == 0)] (retB k0_impl_ExitOk)
   have h7 := not_f h5
   exact S.gf 8 .nil [B false] (retB k0_impl_ExitOk)
  exact S.gf 13 .nil [B false] (retB k0_impl_ExitOk)
 refine S.gd 6 .nil (x.kind == 4) (fun ac w β h8 g9 S => ?_) (fun ac w β h8 g9 S => ?_)
 ·refine S.gd 7 .nil (x.page == 0) (fun ac w β h10 g11 S => ?_) (fun ac w β h10 g11 S => ?_)
  ·refine S.gb 5 .nil (!x.wr) (fun ac w β h12 S => ?_) (fun ac w β h12 S => ?_)
   ·have h13 := not_t h12
    exact S.gf 8 .nil [B (x.n == 0)] (retB k0_impl_ExitOk)
   have h14 := not_f h12
   exact S.gf 8 .nil [B false] (retB k0_impl_ExitOk)
  exact S.gf 13 .nil [B false] (retB k0_impl_ExitOk)
 refine S.gd 7 .nil (x.kind == 1) (fun ac w β h15 g16 S => ?_) (fun ac w β h15 g16 S => ?_)
 ·refine S.gb 7 (.cons (Q_call fun w hw => c_impl_within w x.page 0 3) .nil) (f_within x.page 0 3) (fun ac w β h17 S => ?_) (fun ac w β h17 S => ?_)
  ·have g18 := within_t h17
   exact S.gf 8 .nil [B (x.n == 0)] (retB k0_impl_ExitOk)
  have g19 := within_f h17
  exact S.gf 8 .nil [B false] (retB k0_impl_ExitOk)
 refine S.gd 8 .nil (x.kind == 2) (fun ac w β h20 g21 S => ?_) (fun ac w β h20 g21 S => ?_)
 ·refine S.gb 10 (.cons (Q_call fun w hw => c_impl_within w x.n 0 99) .nil) (f_within x.n 0 99) (fun ac w β h22 S => ?_) (fun ac w β h22 S => ?_)
  ·have g23 := within_t h22
   refine S.gd 5 .nil (x.page == 0) (fun ac w β h24 g25 S => ?_) (fun ac w β h24 g25 S => ?_)
   ·exact S.gf 8 .nil [B (!x.wr)] (retB k0_impl_ExitOk)
   exact S.gf 8 .nil [B false] (retB k0_impl_ExitOk)
  have g26 := within_f h22
  exact S.gf 13 .nil [B false] (retB k0_impl_ExitOk)
 refine S.gd 6 .nil (x.kind == 3) (fun ac w β h27 g28 S => ?_) (fun ac w β h27 g28 S => ?_)
 ·refine S.gb 7 (.cons (Q_call fun w hw => c_impl_within w x.n 0 99) .nil) (f_within x.n 0 99) (fun ac w β h29 S => ?_) (fun ac w β h29 S => ?_)
  ·have g30 := within_t h29
   refine S.gd 5 .nil (x.page == 0) (fun ac w β h31 g32 S => ?_) (fun ac w β h31 g32 S => ?_)
   ·exact S.gf 8 .nil [B (!x.wr)] (retB k0_impl_ExitOk)
   exact S.gf 8 .nil [B false] (retB k0_impl_ExitOk)
  have g33 := within_f h29
  exact S.gf 13 .nil [B false] (retB k0_impl_ExitOk)
 exact S.gf 10 .nil [B false] (retB k0_impl_ExitOk)

theorem k0_impl_GuestOk {p : Prop} (h : p := by clear S; first | rfl | (simp [f_guestOk, *]; done) | (simp [f_guestOk, *]; omega) | (simp_all [f_guestOk]; done) | (simp_all [f_guestOk]; omega)) : p := h
theorem c_impl_GuestOk (w0 : World) (g : TGuest) (pg : PGuest) (hg : RD w0 g pg) : Calls Tryz.prog 170 [GT.val g pg].toArray w0 (fun e w' => e = .returned (B (f_guestOk g)) ∧ Chg NoB w0 w') := by
 refine Calls.run NoB Tryz.func170 ?_
 intro ac β S
 have hleg_prog : g.prog.length ≤ 4194304 := LRd.le (RGuest.prog (d := g) hg)
 have hleg_written : g.written.length ≤ 4194304 := LRd.le (RGuest.written (d := g) hg)
 have hleg_live : g.live.length ≤ 4194304 := LRd.le (RGuest.live (d := g) hg)
 have hleg_seen : g.seen.length ≤ 4194304 := LRd.le (RGuest.seen (d := g) hg)
 refine S.gb 12 (.cons (Q_call fun w hw => c_impl_ProgOk w g.prog pg.prog (rd_of (RGuest.prog (d := g) (S.arg hg)) hw)) .nil) (f_progOk g.prog) (fun ac w β h1 S => ?_) (fun ac w β h1 S => ?_)
 ·refine S.gb 5 (.cons (Q_call fun w hw => c_impl_within w g.acc 0 99) .nil) (f_within g.acc 0 99) (fun ac w β h2 S => ?_) (fun ac w β h2 S => ?_)
  ·have g3 := within_t h2
   refine S.gb 5 (.cons (Q_call fun w hw => c_impl_within w g.pc 0 12) .nil) (f_within g.pc 0 12) (fun ac w β h4 S => ?_) (fun ac w β h4 S => ?_)
   ·have g5 := within_t h4
    refine S.gb 5 (.cons (Q_call fun w hw => c_impl_TableOk w g.written pg.written (rd_of (RGuest.written (d := g) (S.arg hg)) hw) 4 8 (by omega) (by omega)) .nil) (f_tableOk g.written 4 8) (fun ac w β h6 S => ?_) (fun ac w β h6 S => ?_)
    ·have g7 := tableOk_t h6
     refine S.gb 5 (.cons (Q_call fun w hw => c_impl_TableOk w g.live pg.live (rd_of (RGuest.live (d := g) (S.arg hg)) hw) 4 8 (by omega) (by omega)) .nil) (f_tableOk g.live 4 8) (fun ac w β h8 S => ?_) (fun ac w β h8 S => ?_)
     ·have g9 := tableOk_t h8
      refine S.gb 5 (.cons (Q_call fun w hw => c_impl_CtlOk w g.ctl) .nil) (f_ctlOk g.ctl) (fun ac w β h10 S => ?_) (fun ac w β h10 S => ?_)
      ·refine S.gb 5 (.cons (Q_call fun w hw => c_impl_PendOk w g.pend) .nil) (f_within g.pend 0 255) (fun ac w β h11 S => ?_) (fun ac w β h11 S => ?_)
       ·have g12 := within_t h11
        refine S.gb 5 (.cons (Q_call fun w hw => c_impl_ExitOk w g.exit) .nil) (f_exitOk g.exit) (fun ac w β h13 S => ?_) (fun ac w β h13 S => ?_)
        ·exact S.gf 9 .nil [B (decide ((g.seen.length : Int) ≤ 40))] (retB k0_impl_GuestOk)
        exact S.gf 9 .nil [B false] (retB k0_impl_GuestOk)
       have g14 := within_f h11
       exact S.gf 14 .nil [B false] (retB k0_impl_GuestOk)
      exact S.gf 19 .nil [B false] (retB k0_impl_GuestOk)
     exact S.gf 24 .nil [B false] (retB k0_impl_GuestOk)
    exact S.gf 29 .nil [B false] (retB k0_impl_GuestOk)
   have g15 := within_f h4
   exact S.gf 34 .nil [B false] (retB k0_impl_GuestOk)
  have g16 := within_f h2
  exact S.gf 39 .nil [B false] (retB k0_impl_GuestOk)
 exact S.gf 44 .nil [B false] (retB k0_impl_GuestOk)

theorem c_impl_PageOk (w0 : World) (cells : List Int) (pcells : LP Int) (hcells : RD w0 cells pcells) : Calls Tryz.prog 182 [slv cells.length pcells.1].toArray w0 (fun e w' => e = .returned (B (f_pageOk cells)) ∧ Chg NoB w0 w') := by
 refine Calls.run NoB Tryz.func182 ?_
 intro ac β S
 have hlecells : cells.length ≤ 4194304 := LRd.le hcells
 refine S.go 14 .nil fun ac w β S => ?_
 refine lp (fun mm ac w => ∃ (k : Nat)  (u : _) (N : _) (β : _), mm = cells.length - k ∧ (k ≤ cells.length) ∧ ((cells.take k).all (fun v => f_within v 0 99) = true) ∧ St Tryz.prog Tryz.f182.ntmps w0 NoB u N β ⟨[(0, .v (slv cells.length pcells.1)), (5, .v (slv cells.length pcells.1)), (6, .v (I (cells.length : Int))), (7, .v (I (k : Int)))], []⟩ ac w) _ ⟨0, _, _, _, rfl, o0, (by simp), S.z⟩ ?_
 clear S
 rintro f1 mm hf2 ac w ⟨k, u, N, β, rfl, hk, he, S⟩
 refine S.rs fun S => ?_
 refine S.gd 6 .nil (decide ((k : Int) < (cells.length : Int))) (fun ac w β h3 g4 S => ?_) (fun ac w β h3 g4 S => ?_)
 ·refine S.gb 19 (.cons (qn (S.arg hcells) k Tryz.underlying26) (.cons (qx (S.arg hcells) 3 k) (.cons (Q_call fun w hw => c_impl_within w (el cells k) 0 99) .nil))) (!(f_within (el cells k) 0 99)) (fun ac w β h5 S => ?_) (fun ac w β h5 S => ?_)
  ·have h6 := not_t h5
   have g7 := within_f h6
   exact S.gf 7 .nil [B false] (retB (by clear S; (first | (unfold f_pageOk; rw [all_bad (k := k) (by omega) (by first | assumption | simp_all)]; simp; done) | (unfold f_pageOk; rw [all_end (by omega) he]; simp; done) | (unfold f_pageOk; rw [all_end (by omega) he]; simp [*]; done) | (unfold f_pageOk; rw [all_end (by omega) he]; simp; omega))))
  have h8 := not_f h5
  have g9 := within_t h8
  refine S.ge 8 (.cons (qp (k : Int) 1) .nil) f1 fun ac w β S => hf2.of (cells.length - (k + 1)) _ _ (by omega) ⟨k + 1, _, _, _, rfl, ?_, ?_, S.z⟩
  ·exact oz
  ·clear S; exact all_step (by omega) he (by first | assumption | (simp only [f_slotOk, f_within] at *; simp_all; done) | (simp_all; done) | (simp_all; omega))
 exact S.gf 15 .nil [B ((cells.length : Int) == 4)] (retB (by clear S; (first | (unfold f_pageOk; rw [all_end (by omega) he]; simp; done) | (unfold f_pageOk; rw [all_end (by omega) he]; simp [*]; done) | (unfold f_pageOk; rw [all_end (by omega) he]; simp; omega) | (unfold f_pageOk; rw [all_bad (k := k) (by omega) (by first | assumption | simp_all)]; simp; done))))

theorem c_impl_MemOk (w0 : World) (m : List (List Int)) (pm : LP (List Int)) (hm : RD w0 m pm) (pages : Int) : Calls Tryz.prog 136 [slv m.length pm.1, I pages].toArray w0 (fun e w' => e = .returned (B (f_memOk m pages)) ∧ Chg NoB w0 w') := by
 refine Calls.run NoB Tryz.func136 ?_
 intro ac β S
 have hlem : m.length ≤ 4194304 := LRd.le hm
 refine S.go 14 .nil fun ac w β S => ?_
 refine lp (fun mm ac w => ∃ (k : Nat)  (u : _) (N : _) (β : _), mm = m.length - k ∧ (k ≤ m.length) ∧ ((m.take k).all f_pageOk = true) ∧ St Tryz.prog Tryz.f136.ntmps w0 NoB u N β ⟨[(0, .v (slv m.length pm.1)), (1, .v (I pages)), (7, .v (slv m.length pm.1)), (8, .v (I (m.length : Int))), (9, .v (I (k : Int)))], []⟩ ac w) _ ⟨0, _, _, _, rfl, o0, (by simp), S.z⟩ ?_
 clear S
 rintro f1 mm hf2 ac w ⟨k, u, N, β, rfl, hk, he, S⟩
 refine S.rs fun S => ?_
 refine S.gd 6 .nil (decide ((k : Int) < (m.length : Int))) (fun ac w β h3 g4 S => ?_) (fun ac w β h3 g4 S => ?_)
 ·refine S.gb 19 (.cons (qn (S.arg hm) k Tryz.underlying24) (.cons (qx (S.arg hm) 26 k) (.cons (Q_call fun w hw => c_impl_PageOk w (el m k) (pm.2 k) (rd_of (LRd.el (S.arg hm) k (by omega)) hw)) .nil))) (!(f_pageOk (el m k))) (fun ac w β h5 S => ?_) (fun ac w β h5 S => ?_)
  ·have h6 := not_t h5
   exact S.gf 7 .nil [B false] (retB (by clear S; (first | (unfold f_memOk; rw [all_bad (k := k) (by omega) (by first | assumption | simp_all)]; simp; done) | (unfold f_memOk; rw [all_end (by omega) he]; simp; done) | (unfold f_memOk; rw [all_end (by omega) he]; simp [*]; done) | (unfold f_memOk; rw [all_end (by omega) he]; simp; omega))))
  have h7 := not_f h5
  refine S.ge 8 (.cons (qp (k : Int) 1) .nil) f1 fun ac w β S => hf2.of (m.length - (k + 1)) _ _ (by omega) ⟨k + 1, _, _, _, rfl, ?_, ?_, S.z⟩
  ·exact oz
  ·clear S; exact all_step (by omega) he (by first | assumption | (simp only [f_slotOk, f_within] at *; simp_all; done) | (simp_all; done) | (simp_all; omega))
 exact S.gf 16 .nil [B ((m.length : Int) == pages)] (retB (by clear S; (first | (unfold f_memOk; rw [all_end (by omega) he]; simp; done) | (unfold f_memOk; rw [all_end (by omega) he]; simp [*]; done) | (unfold f_memOk; rw [all_end (by omega) he]; simp; omega) | (unfold f_memOk; rw [all_bad (k := k) (by omega) (by first | assumption | simp_all)]; simp; done))))

theorem k1_impl_BareOk {p : Prop} (h : p := by clear S; (symm; rw [← Bool.not_eq_true]; intro hc; simp only [f_bareOk, Bool.and_eq_true, decide_eq_true_eq, beq_iff_eq] at hc; first | omega | (simp_all; done) | (simp_all; omega) | (have hx := all_el (k := k) hc.1.1.1.1 (by omega); simp_all; done))) : p := h
theorem c_impl_BareOk (w0 : World) (b : TBare) (pb : PBare) (hb : RD w0 b pb) : Calls Tryz.prog 104 [GT.val b pb].toArray w0 (fun e w' => e = .returned (B (f_bareOk b)) ∧ Chg NoB w0 w') := by
 refine Calls.run NoB Tryz.func104 ?_
 intro ac β S
 have hleb_mem : b.mem.length ≤ 4194304 := LRd.le (RBare.mem (d := b) hb)
 have hleb_guests : b.guests.length ≤ 4194304 := LRd.le (RBare.guests (d := b) hb)
 have hleb_outs : b.outs.length ≤ 4194304 := LRd.le (RBare.outs (d := b) hb)
 refine S.go 16 .nil fun ac w β S => ?_
 refine lp (fun mm ac w => ∃ (k : Nat)  (u : _) (N : _) (β : _), mm = b.guests.length - k ∧ (k ≤ b.guests.length) ∧ ((b.guests.take k).all f_guestOk = true) ∧ St Tryz.prog Tryz.f104.ntmps w0 NoB u N β ⟨[(1, .p 0 0), (6, .v (slv b.guests.length pb.guests.1)), (7, .v (I (b.guests.length : Int))), (8, .v (I (k : Int)))], [GT.cells b pb]⟩ ac w) _ ⟨0, _, _, _, rfl, o0, (by simp), S.z⟩ ?_
 clear S
 rintro f1 mm hf2 ac w ⟨k, u, N, β, rfl, hk, he, S⟩
 refine S.rs fun S => ?_
 refine S.gd 6 .nil (decide ((k : Int) < (b.guests.length : Int))) (fun ac w β h3 g4 S => ?_) (fun ac w β h3 g4 S => ?_)
 ·refine S.gb 20 (.cons (qn (RBare.guests (d := b) (S.arg hb)) k Tryz.underlying25) (.cons (qs (RBare.guests (d := b) (S.arg hb)) 51 k) (.cons (Q_call fun w hw => c_impl_GuestOk w (el b.guests k) (pb.guests.2 k) (rd_of (LRd.el (RBare.guests (d := b) (S.arg hb)) k (by omega)) hw)) .nil))) (!(f_guestOk (el b.guests k))) (fun ac w β h5 S => ?_) (fun ac w β h5 S => ?_)
  ·have h6 := not_t h5
   exact S.gf 7 .nil [B false] (retB k1_impl_BareOk)
  have h7 := not_f h5
  refine S.ge 8 (.cons (qp (k : Int) 1) .nil) f1 fun ac w β S => hf2.of (b.guests.length - (k + 1)) _ _ (by omega) ⟨k + 1, _, _, _, rfl, ?_, ?_, S.z⟩
  ·exact oz
  ·clear S; exact all_step (by omega) he (by first | assumption | simp_all)
 refine S.gb 12 (.cons (Q_call fun w hw => c_impl_MemOk w b.mem pb.mem (rd_of (RBare.mem (d := b) (S.arg hb)) hw) 8) .nil) (f_memOk b.mem 8) (fun ac w β h8 S => ?_) (fun ac w β h8 S => ?_)
 ·refine S.gb 6 (.cons (Q_call fun w hw => c_impl_within w (b.guests.length : Int) 1 2) .nil) (f_within (b.guests.length : Int) 1 2) (fun ac w β h9 S => ?_) (fun ac w β h9 S => ?_)
  ·have g10 := within_t h9
   refine S.gd 6 .nil (decide ((b.outs.length : Int) ≤ 40)) (fun ac w β h11 g12 S => ?_) (fun ac w β h11 g12 S => ?_)
   ·exact S.gf 8 (.cons (Q_call fun w hw => c_impl_PendOk w b.pend) .nil) [B (f_within b.pend 0 255)] (retB (by clear S; (first | rfl | (symm; rw [← Bool.not_eq_true]; intro hc; simp only [f_bareOk, Bool.and_eq_true, decide_eq_true_eq, beq_iff_eq] at hc; first | omega | (simp_all; done) | (simp_all; omega) | (have hx := all_el (k := k) hc.1.1.1.1 (by omega); simp_all; done)) | (symm; simp only [f_bareOk, Bool.and_eq_true, decide_eq_true_eq, beq_iff_eq]; (repeat' apply And.intro); all_goals first | assumption | omega | (simp_all; done) | (simp_all; omega) | (exact all_end (by omega) he)) | (rw [Bool.eq_iff_iff]; simp only [f_bareOk, Bool.and_eq_true, decide_eq_true_eq, beq_iff_eq]; refine ⟨fun hr => ?_, fun hc => ?_⟩ <;> ((repeat' apply And.intro); all_goals first | assumption | omega | (simp_all; done) | (simp_all; omega) | (exact all_end (by omega) he))))))
   exact S.gf 8 .nil [B false] (retB k1_impl_BareOk)
  have g13 := within_f h9
  exact S.gf 14 .nil [B false] (retB k1_impl_BareOk)
 exact S.gf 20 .nil [B false] (retB k1_impl_BareOk)

theorem c_impl_copyMem (w0 : World) (l : List (List Int)) (pl : LP (List Int)) (hl : RD w0 l pl) : Calls Tryz.prog 100 [slv l.length pl.1].toArray w0 (Ret1 NoB w0 (l : List (List Int))) := by
 refine Calls.run NoB Tryz.func100 ?_
 intro ac β S
 have hlel : l.length ≤ 4194304 := LRd.le hl
 refine S.go 7 .nil fun ac w β S => S.B0 (α := List Int) (d := 6) fun ac w N q1 F2 S up o3 d4 => ?_
 clear up d4
 refine S.go 12 .nil fun ac w β S => ?_
 refine lp (fun mm ac w => ∃ (k : Nat) (acc : List (List Int)) (q5 : _) (F6 : _) (u : _) (N : _) (β : _), mm = l.length - k ∧ (k ≤ l.length) ∧ (acc = l.take k) ∧ St Tryz.prog Tryz.f100.ntmps w0 NoB u N β ⟨[(3, .v (slv acc.length q5.1)), (7, .v (slv l.length pl.1)), (8, .v (I (l.length : Int))), (9, .v (I (k : Int)))], []⟩ ac w ∧ Ow w0 NoB u N F6 acc q5) _ ⟨0, ([] : List (List Int)), q1, F2, _, _, _, rfl, o0, (by simp), S.z, o3⟩ ?_
 clear S o3
 rintro f8 mm hf9 ac w ⟨k, acc, q5, F6, u, N, β, rfl, hk, hacc, S, o7⟩
 refine S.rs fun S => ?_
 have hlacc : acc.length = k := by rw [hacc]; simp; omega
 refine S.gd 6 .nil (decide ((k : Int) < (l.length : Int))) (fun ac w β h10 g11 S => ?_) (fun ac w β h10 g11 S => ?_)
 ·refine S.go 15 (.cons (qn (S.arg hl) k Tryz.underlying24) (.cons (qx (S.arg hl) 26 k) .nil)) fun ac w β S => S.K1 (r := (el l k)) (d := 15) (c_impl_copyInts w (el l k) (pl.2 k) (S.rd (LRd.el (S.arg hl) k (by omega)))) fun ac w N q12 F13 S up o14 d15 => ?_
  have d16 := Disj.w d15 o7.sub
  replace o7 := o7.up up
  clear up d15
  refine S.B1 (α := List Int) (x := (el l k)) (p := q12) o14.own o14.sub o14.young (d := 16) fun ac w N q17 F18 S up o19 d20 => ?_
  have d21 := d20 _ d16 o7.sub
  replace o7 := o7.up up
  clear up d20
  refine S.AO (α := List Int) o7 o19 d21 (by' := 24) (d := 17) (lx := acc.length) (ly := 1) rfl rfl (show _ ≤ 4194304 by simp only [List.length_append, List.length_cons, List.length_nil]; omega) fun ac w N q22 F23 S up o24 d25 => ?_
  clear up d25
  refine S.ge 8 (.cons (qp (k : Int) 1) .nil) f8 fun ac w β S => hf9.of (l.length - (k + 1)) _ _ (by omega) ⟨k + 1, (acc ++ [(el l k)]), q22, F23, _, _, _, rfl, ?_, ?_, S.z, o24⟩
  ·exact oz
  ·clear S; (first | (rw [take_el (by omega), hacc]; done) | (rw [take_el (by omega), hacc]; simp; done))
 refine S.gr 13 .nil [slv acc.length q5.1] fun ac w β S => ?_
 exact ret1_of S (show l = acc by clear S; (rw [hacc, take_all (by omega)])) rfl o7

theorem c_impl_copyGuests (w0 : World) (l : List TGuest) (pl : LP TGuest) (hl : RD w0 l pl) : Calls Tryz.prog 101 [slv l.length pl.1].toArray w0 (Ret1 NoB w0 (l : List TGuest)) := by
 refine Calls.run NoB Tryz.func101 ?_
 intro ac β S
 have hlel : l.length ≤ 4194304 := LRd.le hl
 refine S.go 7 .nil fun ac w β S => S.B0 (α := TGuest) (d := 6) fun ac w N q1 F2 S up o3 d4 => ?_
 clear up d4
 refine S.go 12 .nil fun ac w β S => ?_
 refine lp (fun mm ac w => ∃ (k : Nat) (acc : List TGuest) (q5 : _) (F6 : _) (u : _) (N : _) (β : _), mm = l.length - k ∧ (k ≤ l.length) ∧ (acc = l.take k) ∧ St Tryz.prog Tryz.f101.ntmps w0 NoB u N β ⟨[(3, .v (slv acc.length q5.1)), (7, .v (slv l.length pl.1)), (8, .v (I (l.length : Int))), (9, .v (I (k : Int)))], []⟩ ac w ∧ Ow w0 NoB u N F6 acc q5) _ ⟨0, ([] : List TGuest), q1, F2, _, _, _, rfl, o0, (by simp), S.z, o3⟩ ?_
 clear S o3
 rintro f8 mm hf9 ac w ⟨k, acc, q5, F6, u, N, β, rfl, hk, hacc, S, o7⟩
 refine S.rs fun S => ?_
 have hlacc : acc.length = k := by rw [hacc]; simp; omega
 refine S.gd 6 .nil (decide ((k : Int) < (l.length : Int))) (fun ac w β h10 g11 S => ?_) (fun ac w β h10 g11 S => ?_)
 ·refine S.go 16 (.cons (qn (S.arg hl) k Tryz.underlying25) (.cons (qs (S.arg hl) 51 k) .nil)) fun ac w β S => S.K1 (r := (el l k)) (d := 15) (c_impl_copyGuest w (el l k) (pl.2 k) (S.rd (LRd.el (S.arg hl) k (by omega)))) fun ac w N q12 F13 S up o14 d15 => ?_
  have d16 := Disj.w d15 o7.sub
  replace o7 := o7.up up
  clear up d15
  refine S.B1 (α := TGuest) (x := (el l k)) (p := q12) o14.own o14.sub o14.young (d := 16) fun ac w N q17 F18 S up o19 d20 => ?_
  have d21 := d20 _ d16 o7.sub
  replace o7 := o7.up up
  clear up d20
  refine S.AO (α := TGuest) o7 o19 d21 (by' := 184) (d := 17) (lx := acc.length) (ly := 1) rfl rfl (show _ ≤ 4194304 by simp only [List.length_append, List.length_cons, List.length_nil]; omega) fun ac w N q22 F23 S up o24 d25 => ?_
  clear up d25
  refine S.ge 8 (.cons (qp (k : Int) 1) .nil) f8 fun ac w β S => hf9.of (l.length - (k + 1)) _ _ (by omega) ⟨k + 1, (acc ++ [(el l k)]), q22, F23, _, _, _, rfl, ?_, ?_, S.z, o24⟩
  ·exact oz
  ·clear S; (first | (rw [take_el (by omega), hacc]; done) | (rw [take_el (by omega), hacc]; simp; done))
 refine S.gr 13 .nil [slv acc.length q5.1] fun ac w β S => ?_
 exact ret1_of S (show l = acc by clear S; (rw [hacc, take_all (by omega)])) rfl o7

theorem c_impl_copyBare (w0 : World) (b : TBare) (pb : PBare) (hb : RD w0 b pb) : Calls Tryz.prog 38 [GT.val b pb].toArray w0 (Ret1 NoB w0 (b : TBare)) := by
 refine Calls.run NoB Tryz.func38 ?_
 intro ac β S
 have hleb_mem : b.mem.length ≤ 4194304 := LRd.le (RBare.mem (d := b) hb)
 have hleb_guests : b.guests.length ≤ 4194304 := LRd.le (RBare.guests (d := b) hb)
 have hleb_outs : b.outs.length ≤ 4194304 := LRd.le (RBare.outs (d := b) hb)
 refine S.go 7 .nil fun ac w β S => ?_
 refine drw ?_
 refine S.draw0 (f := 13) 12 (by kernel_rfl) (by kernel_rfl) fun w S => ?_
 refine S.hq 0 [0] [] [(3, .p 0 0)] .nil fun ac S => ?_
 refine S.hq 1 [1] [] [(4, .v (slv b.mem.length pb.mem.1))] .nil fun ac S => ?_
 refine S.hq 3 [3] [] [(6, .p 0 1)] .nil fun ac S => ?_
 refine S.hq 4 [4] [] [(7, .v (slv b.guests.length pb.guests.1))] .nil fun ac S => ?_
 refine S.hq 6 [6] [] [(9, .p 0 2)] .nil fun ac S => ?_
 refine S.hq 7 [7] [] [(10, .v (slv b.outs.length pb.outs.1))] .nil fun ac S => ?_
 refine S.hq 9 [9] [] [(12, .p 0 3)] .nil fun ac S => ?_
 refine S.hq 10 [10] [] [(13, .v (I b.pend))] .nil fun ac S => ?_
 refine WD.one (i := 2) (by kernel_rfl) ?_
 refine id (S.k1 5 (c_impl_copyMem w b.mem pb.mem (S.rd (RBare.mem (d := b) (S.arg hb)))) fun ac w N q1 F2 S up o3 d4 => ?_)
 refine WD.next S up (by kernel_rfl) ?_
 clear up d4
 refine WD.one (i := 5) (by kernel_rfl) ?_
 refine id (S.k1 8 (c_impl_copyGuests w b.guests pb.guests (S.rd (RBare.guests (d := b) (S.arg hb)))) fun ac w N q5 F6 S up o7 d8 => ?_)
 refine WD.next S up (by kernel_rfl) ?_
 have d9 := Disj.w d8 o3.sub
 replace o3 := o3.up up
 clear up d8
 refine WD.one (i := 8) (by kernel_rfl) ?_
 refine id (S.k1 11 (c_impl_copyInts w b.outs pb.outs (S.rd (RBare.outs (d := b) (S.arg hb)))) fun ac w N q10 F11 S up o12 d13 => ?_)
 refine WD.next S up (by kernel_rfl) ?_
 have d14 := Disj.w d13 o3.sub
 have d15 := Disj.w d13 o7.sub
 replace o3 := o3.up up
 replace o7 := o7.up up
 clear up d13
 refine S.hq 11 [11] [] [(14, .v (GT.val (⟨b.mem, b.guests, b.outs, b.pend⟩ : TBare) (⟨q1, q5, q10⟩ : PBare)))] (.cons (Q_sem (s := Instr.build 28 [(0, slv b.mem.length q1.1), (1, slv b.guests.length q5.1), (2, slv b.outs.length q10.1), (3, I b.pend)].toArray) (v := .agg [slv b.mem.length q1.1, slv b.guests.length q5.1, slv b.outs.length q10.1, I b.pend].toArray) (fun w => by kernel_rfl)) .nil) fun ac S => ?_
 refine S.sl 12 [] [] 2 [(1, [slv b.mem.length q1.1, slv b.guests.length q5.1, slv b.outs.length q10.1, I b.pend])] .nil fun ac w β S => ?_
 refine WD.done (by kernel_rfl) ?_ _
 refine S.ex fun S => ?_
 refine S.gr 2 .nil [GT.val (⟨b.mem, b.guests, b.outs, b.pend⟩ : TBare) (⟨q1, q5, q10⟩ : PBare)] fun ac w β S => ?_
 have o16 := ow_Bare (x := (⟨b.mem, b.guests, b.outs, b.pend⟩ : TBare)) (p := (⟨q1, q5, q10⟩ : PBare)) o3 o7 o12 d9 d14 d15 (RBare.pend (d := b) (S.arg hb))
 exact ret1_of S (show b = (⟨b.mem, b.guests, b.outs, b.pend⟩ : TBare) by clear S; (first | rfl | simp)) rfl o16

theorem k0_impl_WithGuest {p : Prop} (h : p := by clear S; (unfold f_withGuest; first | (rw [if_pos (by omega)]; done) | (rw [if_neg (by omega)]; done))) : p := h
theorem c_impl_WithGuest (w0 : World) (b : TBare) (pb : PBare) (hb : RD w0 b pb) (g : Int) (x : TGuest) (px : PGuest) (hx : RD w0 x px) : Calls Tryz.prog 150 [GT.val b pb, I g, GT.val x px].toArray w0 (Ret1 NoB w0 (f_withGuest b g x : TBare)) := by
 refine Calls.run NoB Tryz.func150 ?_
 intro ac β S
 have hleb_mem : b.mem.length ≤ 4194304 := LRd.le (RBare.mem (d := b) hb)
 have hleb_guests : b.guests.length ≤ 4194304 := LRd.le (RBare.guests (d := b) hb)
 have hleb_outs : b.outs.length ≤ 4194304 := LRd.le (RBare.outs (d := b) hb)
 have hlex_prog : x.prog.length ≤ 4194304 := LRd.le (RGuest.prog (d := x) hx)
 have hlex_written : x.written.length ≤ 4194304 := LRd.le (RGuest.written (d := x) hx)
 have hlex_live : x.live.length ≤ 4194304 := LRd.le (RGuest.live (d := x) hx)
 have hlex_seen : x.seen.length ≤ 4194304 := LRd.le (RGuest.seen (d := x) hx)
 refine S.go 10 .nil fun ac w β S => S.K1 (r := b) (d := 9) (c_impl_copyBare w b pb (S.rd (S.arg hb))) fun ac w N q1 F2 S up o3 d4 => ?_
 clear up d4
 have i14 : In64 b.pend := RBare.pend (d := b) o3.rn
 obtain ⟨F5, F8, F11, o6, o9, o12, _, _, _, d15, d16, d17⟩ := sp_Bare o3
 refine S.gb 14 (.cons (Q_call fun w hw => c_impl_has w g (b.guests.length : Int) (by omega)) .nil) (f_within g 0 ((b.guests.length : Int) - 1)) (fun ac w β h18 S => ?_) (fun ac w β h18 S => ?_)
 ·have g19 := within_t h18
  refine S.go 1 .nil fun ac w β S => ?_
  refine drw ?_
  refine S.draw0 (f := 7) 6 (by kernel_rfl) (by kernel_rfl) fun w S => ?_
  refine S.hq 0 [0] [] [(15, .p 3 1)] .nil fun ac S => ?_
  refine S.hq 1 [1] [] [(16, .v (slv b.guests.length q1.guests.1))] .nil fun ac S => ?_
  refine S.hq 2 [2] [] [(17, .v (I g))] .nil fun ac S => ?_
  refine S.hq 3 [3] [] [(18, .v (GT.val x px))] .nil fun ac S => ?_
  refine WD.one (i := 4) (by kernel_rfl) ?_
  refine id (S.k1 19 (c_impl_copyGuest w x px (S.rd (S.arg hx))) fun ac w N q20 F21 S up o22 d23 => ?_)
  refine WD.next S up (by kernel_rfl) ?_
  have d24 := Disj.w d23 o6.sub
  have d25 := Disj.w d23 o9.sub
  have d26 := Disj.w d23 o12.sub
  replace o6 := o6.up up
  replace o9 := o9.up up
  replace o12 := o12.up up
  clear up d23
  refine S.hq 5 [5] [] [(20, .v (pt q1.guests.1.b (q1.guests.1.off + g.toNat * 15)))] (.cons (qt o9.rn g Tryz.underlying25) .nil) fun ac S => ?_
  refine WD.one (i := 6) (by kernel_rfl) ?_
  refine id (S.sV (α := TGuest) o9 (t := 51) (k := g.toNat) (off := q1.guests.1.off + g.toNat * 15) o22 d25 fun w N F28 q29 S up o27 d30 s31 n32 => ?_)
  refine WD.last (by kernel_rfl) ?_
  have d33 := d30 _ d15 d24 o6.sub
  have d34 := d30 _ (Disj.symm d17) d26 o12.sub
  replace o6 := o6.upF d15 up
  replace o12 := o12.upF (Disj.symm d17) up
  clear up d30 o9 n32
  have l35 : (b.guests.set g.toNat x).length = b.guests.length := List.length_set
  replace S := S.z (σ' := ⟨[(6, .p 2 0), (7, .p 3 0), (19, .v (GT.val x q20)), (20, .v (pt q1.guests.1.b (q1.guests.1.off + g.toNat * 15)))], [GT.cells b pb, GT.cells x px, Zc TBare, [slv b.mem.length q1.mem.1, slv b.guests.length q1.guests.1, slv b.outs.length q1.outs.1, I b.pend]]⟩)
  replace S := S.cast (σ' := ⟨[(6, .p 2 0), (7, .p 3 0), (19, .v (GT.val x q20)), (20, .v (pt q1.guests.1.b (q1.guests.1.off + g.toNat * 15)))], [GT.cells b pb, GT.cells x px, Zc TBare, [slv b.mem.length q1.mem.1, slv (b.guests.set g.toNat x).length q1.guests.1, slv b.outs.length q1.outs.1, I b.pend]]⟩) (by rw [show (b.guests.set g.toNat x).length = b.guests.length by omega])
  refine WD.done (by kernel_rfl) ?_ _
  refine S.ex fun S => ?_
  refine S.gr 8 .nil [GT.val (⟨b.mem, (b.guests.set g.toNat x), b.outs, b.pend⟩ : TBare) (⟨q1.mem, (q1.guests.1, q29), q1.outs⟩ : PBare)] fun ac w β S => ?_
  have o36 := ow_Bare (x := (⟨b.mem, (b.guests.set g.toNat x), b.outs, b.pend⟩ : TBare)) (p := (⟨q1.mem, (q1.guests.1, q29), q1.outs⟩ : PBare)) o6 o27 o12 d33 d16 (Disj.symm d34) i14
  exact ret1_of S (show f_withGuest b g x = (⟨b.mem, (b.guests.set g.toNat x), b.outs, b.pend⟩ : TBare) from k0_impl_WithGuest) rfl o36
 have g37 := within_f h18
 refine S.gr 10 .nil [GT.val b q1] fun ac w β S => ?_
 have o38 := ow_Bare (x := b) (p := q1) o6 o9 o12 d15 d16 d17 i14
 exact ret1_of S (show f_withGuest b g x = b from k0_impl_WithGuest) rfl o38

theorem k0_impl_changed_impl_BareSet_1 {p : Prop} (h : p := by clear S; (first | (unfold f_changed; rw [if_neg (by rintro ⟨h1, h2, h3⟩; first | omega | simp_all)]; done) | ((have hg := guestAt_t (by assumption)); unfold f_changed f_withGuest; rw [if_pos ⟨by assumption, hg, by first | assumption | rfl⟩, if_pos hg, guestAt_1 hg]; done))) : p := h
theorem k1_impl_changed_impl_BareSet_1 {p : Prop} (h : p := by clear S; (first | (unfold f_changed; rw [if_neg (by rintro ⟨h1, h2, h3⟩; first | omega | simp_all)]; done) | ((have hg := guestAt_t (by assumption)); unfold f_changed; rw [if_pos ⟨by assumption, hg, by first | assumption | rfl⟩]; done))) : p := h
theorem c_impl_changed_impl_BareSet_1 (w0 : World) (b : TBare) (pb : PBare) (hb : RD w0 b pb) (g : Int) (condition : Bool) (page : Int) (qpage : LP Int) (hpage : RD w0 [page] qpage) (s : TSlot) (qs : LP TSlot) (hs : RD w0 [s] qs) : Calls Tryz.prog 117 [GT.val b pb, I g, B condition, .func (.func 119) #[] #[pt qpage.1.b (qpage.1.off + 0 * 1), pt qs.1.b (qs.1.off + 0 * 2)]].toArray w0 (Ret2 NoB w0 ((f_changed b g condition (fun x => ({ x with written := f_withSlot x.written page s } : TGuest))).1 : TBare) ((f_changed b g condition (fun x => ({ x with written := f_withSlot x.written page s } : TGuest))).2 : Bool)) := by
 refine Calls.run NoB Tryz.func117 ?_
 intro ac β S
 have hleb_mem : b.mem.length ≤ 4194304 := LRd.le (RBare.mem (d := b) hb)
 have hleb_guests : b.guests.length ≤ 4194304 := LRd.le (RBare.guests (d := b) hb)
 have hleb_outs : b.outs.length ≤ 4194304 := LRd.le (RBare.outs (d := b) hb)
 refine S.go 11 .nil fun ac w β S => S.K2 (r := (f_guestAt b g).1) (r' := (f_guestAt b g).2) (d := 15) (c_impl_GuestAt w b pb (S.rd (S.arg hb)) g) fun ac w N q1 q2 F3 F4 S up o5 o6 d7 d8 d9 => ?_
 clear up d7
 clear d8
 refine S.gb 15 (.cons (Q_call fun w hw => c_impl_BareOk w b pb (rd_of (S.arg hb) hw)) .nil) (!(f_bareOk b)) (fun ac w β h10 S => ?_) (fun ac w β h10 S => ?_)
 ·have h11 := not_t h10
  refine S.go 13 .nil fun ac w β S => S.K1 (r := b) (d := 30) (c_impl_copyBare w b pb (S.rd (S.arg hb))) fun ac w N q12 F13 S up o14 d15 => ?_
  clear up d15
  refine S.gr 5 .nil [GT.val b q12, B false] fun ac w β S => ?_
  exact ret2_of (p' := ()) S (show (f_changed b g condition (fun x => ({ x with written := f_withSlot x.written page s } : TGuest))).1 = b from k0_impl_changed_impl_BareSet_1) (show (f_changed b g condition (fun x => ({ x with written := f_withSlot x.written page s } : TGuest))).2 = false from k1_impl_changed_impl_BareSet_1) rfl rfl o14 trivial
 have h16 := not_f h10
 have g17 := bareOk_t h16
 refine S.gb 4 .nil (!(f_guestAt b g).2) (fun ac w β h18 S => ?_) (fun ac w β h18 S => ?_)
 ·have h19 := not_t h18
  have g20 := guestAt_f h19
  refine S.go 9 .nil fun ac w β S => S.K1 (r := b) (d := 30) (c_impl_copyBare w b pb (S.rd (S.arg hb))) fun ac w N q21 F22 S up o23 d24 => ?_
  clear up d24
  refine S.gr 5 .nil [GT.val b q21, B false] fun ac w β S => ?_
  exact ret2_of (p' := ()) S (show (f_changed b g condition (fun x => ({ x with written := f_withSlot x.written page s } : TGuest))).1 = b from k0_impl_changed_impl_BareSet_1) (show (f_changed b g condition (fun x => ({ x with written := f_withSlot x.written page s } : TGuest))).2 = false from k1_impl_changed_impl_BareSet_1) rfl rfl o23 trivial
 have h25 := not_f h18
 have g26 := guestAt_t h25
 refine S.gb 5 .nil (!condition) (fun ac w β h27 S => ?_) (fun ac w β h27 S => ?_)
 ·have h28 := not_t h27
  refine S.go 4 .nil fun ac w β S => S.K1 (r := b) (d := 30) (c_impl_copyBare w b pb (S.rd (S.arg hb))) fun ac w N q29 F30 S up o31 d32 => ?_
  clear up d32
  refine S.gr 5 .nil [GT.val b q29, B false] fun ac w β S => ?_
  exact ret2_of (p' := ()) S (show (f_changed b g condition (fun x => ({ x with written := f_withSlot x.written page s } : TGuest))).1 = b from k0_impl_changed_impl_BareSet_1) (show (f_changed b g condition (fun x => ({ x with written := f_withSlot x.written page s } : TGuest))).2 = false from k1_impl_changed_impl_BareSet_1) rfl rfl o31 trivial
 have h33 := not_f h27
 refine S.go 4 .nil fun ac w β S => ?_
 refine drw ?_
 refine S.draw0 (f := 8) 6 (by kernel_rfl) (by kernel_rfl) fun w S => ?_
 refine S.hq 0 [0] [] [(31, .v (GT.val b pb))] .nil fun ac S => ?_
 refine S.hq 1 [1] [] [(32, .v (I g))] .nil fun ac S => ?_
 refine S.hq 2 [2] [] [(33, .v (.func (.func 119) #[] #[pt qpage.1.b (qpage.1.off + 0 * 1), pt qs.1.b (qs.1.off + 0 * 2)]))] .nil fun ac S => ?_
 refine S.hq 3 [3] [] [(34, .v (GT.val (f_guestAt b g).1 q1))] .nil fun ac S => ?_
 refine WD.one (i := 4) (by kernel_rfl) ?_
 refine id (S.callT0 (r := ({ (f_guestAt b g).1 with written := f_withSlot (f_guestAt b g).1.written page s } : TGuest)) (d := 35) o5 (c_impl_BareSet_1 w (f_guestAt b g).1 q1 F3 (S.ownw o5) (fun b hb => (S.sep b (o5.sub b hb)).1) page qpage (S.rd (S.arg hpage)) s qs (S.rd (S.arg hs))) fun ac w N q34 F35 S up o36 d37  => ?_)
 refine WD.next S up (by kernel_rfl) ?_
 clear up d37 o5
 refine WD.one (i := 5) (by kernel_rfl) ?_
 refine id (S.k1 36 (c_impl_WithGuest w b pb (S.rd (S.arg hb)) g ({ (f_guestAt b g).1 with written := f_withSlot (f_guestAt b g).1.written page s } : TGuest) q34 (S.rd o36.rn)) fun ac w N q38 F39 S up o40 d41 => ?_)
 refine WD.next S up (by kernel_rfl) ?_
 clear up d41
 refine S.sl 6 [] [] 3 [(1, GT.cells (f_withGuest b g ({ (f_guestAt b g).1 with written := f_withSlot (f_guestAt b g).1.written page s } : TGuest)) q38)] .nil fun ac w β S => ?_
 refine S.sl 7 [] [(9, .v (B true))] 3 [] .nil fun ac w β S => ?_
 refine WD.done (by kernel_rfl) ?_ _
 refine S.ex fun S => ?_
 refine S.gr 2 .nil [GT.val (f_withGuest b g ({ (f_guestAt b g).1 with written := f_withSlot (f_guestAt b g).1.written page s } : TGuest)) q38, B true] fun ac w β S => ?_
 exact ret2_of (p' := ()) S (show (f_changed b g condition (fun x => ({ x with written := f_withSlot x.written page s } : TGuest))).1 = (f_withGuest b g ({ (f_guestAt b g).1 with written := f_withSlot (f_guestAt b g).1.written page s } : TGuest)) from k0_impl_changed_impl_BareSet_1) (show (f_changed b g condition (fun x => ({ x with written := f_withSlot x.written page s } : TGuest))).2 = true from k1_impl_changed_impl_BareSet_1) rfl rfl o40 trivial

theorem k0_impl_changed_impl_BareFlush_1 {p : Prop} (h : p := by clear S; (first | (unfold f_changed; rw [if_neg (by rintro ⟨h1, h2, h3⟩; first | omega | simp_all)]; done) | ((have hg := guestAt_t (by assumption)); unfold f_changed f_withGuest; rw [if_pos ⟨by assumption, hg, by first | assumption | rfl⟩, if_pos hg, guestAt_1 hg]; done))) : p := h
theorem k1_impl_changed_impl_BareFlush_1 {p : Prop} (h : p := by clear S; (first | (unfold f_changed; rw [if_neg (by rintro ⟨h1, h2, h3⟩; first | omega | simp_all)]; done) | ((have hg := guestAt_t (by assumption)); unfold f_changed; rw [if_pos ⟨by assumption, hg, by first | assumption | rfl⟩]; done))) : p := h
theorem c_impl_changed_impl_BareFlush_1 (w0 : World) (b : TBare) (pb : PBare) (hb : RD w0 b pb) (g : Int) (condition : Bool) (page : Int) (qpage : LP Int) (hpage : RD w0 [page] qpage) : Calls Tryz.prog 117 [GT.val b pb, I g, B condition, .func (.func 121) #[] #[pt qpage.1.b (qpage.1.off + 0 * 1)]].toArray w0 (Ret2 NoB w0 ((f_changed b g condition (fun x => ({ x with live := f_withSlot x.live page (f_slotAt x.written page) } : TGuest))).1 : TBare) ((f_changed b g condition (fun x => ({ x with live := f_withSlot x.live page (f_slotAt x.written page) } : TGuest))).2 : Bool)) := by
 refine Calls.run NoB Tryz.func117 ?_
 intro ac β S
 have hleb_mem : b.mem.length ≤ 4194304 := LRd.le (RBare.mem (d := b) hb)
 have hleb_guests : b.guests.length ≤ 4194304 := LRd.le (RBare.guests (d := b) hb)
 have hleb_outs : b.outs.length ≤ 4194304 := LRd.le (RBare.outs (d := b) hb)
 refine S.go 11 .nil fun ac w β S => S.K2 (r := (f_guestAt b g).1) (r' := (f_guestAt b g).2) (d := 15) (c_impl_GuestAt w b pb (S.rd (S.arg hb)) g) fun ac w N q1 q2 F3 F4 S up o5 o6 d7 d8 d9 => ?_
 clear up d7
 clear d8
 refine S.gb 15 (.cons (Q_call fun w hw => c_impl_BareOk w b pb (rd_of (S.arg hb) hw)) .nil) (!(f_bareOk b)) (fun ac w β h10 S => ?_) (fun ac w β h10 S => ?_)
 ·have h11 := not_t h10
  refine S.go 13 .nil fun ac w β S => S.K1 (r := b) (d := 30) (c_impl_copyBare w b pb (S.rd (S.arg hb))) fun ac w N q12 F13 S up o14 d15 => ?_
  clear up d15
  refine S.gr 5 .nil [GT.val b q12, B false] fun ac w β S => ?_
  exact ret2_of (p' := ()) S (show (f_changed b g condition (fun x => ({ x with live := f_withSlot x.live page (f_slotAt x.written page) } : TGuest))).1 = b from k0_impl_changed_impl_BareFlush_1) (show (f_changed b g condition (fun x => ({ x with live := f_withSlot x.live page (f_slotAt x.written page) } : TGuest))).2 = false from k1_impl_changed_impl_BareFlush_1) rfl rfl o14 trivial
 have h16 := not_f h10
 have g17 := bareOk_t h16
 refine S.gb 4 .nil (!(f_guestAt b g).2) (fun ac w β h18 S => ?_) (fun ac w β h18 S => ?_)
 ·have h19 := not_t h18
  have g20 := guestAt_f h19
  refine S.go 9 .nil fun ac w β S => S.K1 (r := b) (d := 30) (c_impl_copyBare w b pb (S.rd (S.arg hb))) fun ac w N q21 F22 S up o23 d24 => ?_
  clear up d24
  refine S.gr 5 .nil [GT.val b q21, B false] fun ac w β S => ?_
  exact ret2_of (p' := ()) S (show (f_changed b g condition (fun x => ({ x with live := f_withSlot x.live page (f_slotAt x.written page) } : TGuest))).1 = b from k0_impl_changed_impl_BareFlush_1) (show (f_changed b g condition (fun x => ({ x with live := f_withSlot x.live page (f_slotAt x.written page) } : TGuest))).2 = false from k1_impl_changed_impl_BareFlush_1) rfl rfl o23 trivial
 have h25 := not_f h18
 have g26 := guestAt_t h25
 refine S.gb 5 .nil (!condition) (fun ac w β h27 S => ?_) (fun ac w β h27 S => ?_)
 ·have h28 := not_t h27
  refine S.go 4 .nil fun ac w β S => S.K1 (r := b) (d := 30) (c_impl_copyBare w b pb (S.rd (S.arg hb))) fun ac w N q29 F30 S up o31 d32 => ?_
  clear up d32
  refine S.gr 5 .nil [GT.val b q29, B false] fun ac w β S => ?_
  exact ret2_of (p' := ()) S (show (f_changed b g condition (fun x => ({ x with live := f_withSlot x.live page (f_slotAt x.written page) } : TGuest))).1 = b from k0_impl_changed_impl_BareFlush_1) (show (f_changed b g condition (fun x => ({ x with live := f_withSlot x.live page (f_slotAt x.written page) } : TGuest))).2 = false from k1_impl_changed_impl_BareFlush_1) rfl rfl o31 trivial
 have h33 := not_f h27
 refine S.go 4 .nil fun ac w β S => ?_
 refine drw ?_
 refine S.draw0 (f := 8) 6 (by kernel_rfl) (by kernel_rfl) fun w S => ?_
 refine S.hq 0 [0] [] [(31, .v (GT.val b pb))] .nil fun ac S => ?_
 refine S.hq 1 [1] [] [(32, .v (I g))] .nil fun ac S => ?_
 refine S.hq 2 [2] [] [(33, .v (.func (.func 121) #[] #[pt qpage.1.b (qpage.1.off + 0 * 1)]))] .nil fun ac S => ?_
 refine S.hq 3 [3] [] [(34, .v (GT.val (f_guestAt b g).1 q1))] .nil fun ac S => ?_
 refine WD.one (i := 4) (by kernel_rfl) ?_
 refine id (S.callT0 (r := ({ (f_guestAt b g).1 with live := f_withSlot (f_guestAt b g).1.live page (f_slotAt (f_guestAt b g).1.written page) } : TGuest)) (d := 35) o5 (c_impl_BareFlush_1 w (f_guestAt b g).1 q1 F3 (S.ownw o5) (fun b hb => (S.sep b (o5.sub b hb)).1) page qpage (S.rd (S.arg hpage))) fun ac w N q34 F35 S up o36 d37  => ?_)
 refine WD.next S up (by kernel_rfl) ?_
 clear up d37 o5
 refine WD.one (i := 5) (by kernel_rfl) ?_
 refine id (S.k1 36 (c_impl_WithGuest w b pb (S.rd (S.arg hb)) g ({ (f_guestAt b g).1 with live := f_withSlot (f_guestAt b g).1.live page (f_slotAt (f_guestAt b g).1.written page) } : TGuest) q34 (S.rd o36.rn)) fun ac w N q38 F39 S up o40 d41 => ?_)
 refine WD.next S up (by kernel_rfl) ?_
 clear up d41
 refine S.sl 6 [] [] 3 [(1, GT.cells (f_withGuest b g ({ (f_guestAt b g).1 with live := f_withSlot (f_guestAt b g).1.live page (f_slotAt (f_guestAt b g).1.written page) } : TGuest)) q38)] .nil fun ac w β S => ?_
 refine S.sl 7 [] [(9, .v (B true))] 3 [] .nil fun ac w β S => ?_
 refine WD.done (by kernel_rfl) ?_ _
 refine S.ex fun S => ?_
 refine S.gr 2 .nil [GT.val (f_withGuest b g ({ (f_guestAt b g).1 with live := f_withSlot (f_guestAt b g).1.live page (f_slotAt (f_guestAt b g).1.written page) } : TGuest)) q38, B true] fun ac w β S => ?_
 exact ret2_of (p' := ()) S (show (f_changed b g condition (fun x => ({ x with live := f_withSlot x.live page (f_slotAt x.written page) } : TGuest))).1 = (f_withGuest b g ({ (f_guestAt b g).1 with live := f_withSlot (f_guestAt b g).1.live page (f_slotAt (f_guestAt b g).1.written page) } : TGuest)) from k0_impl_changed_impl_BareFlush_1) (show (f_changed b g condition (fun x => ({ x with live := f_withSlot x.live page (f_slotAt x.written page) } : TGuest))).2 = true from k1_impl_changed_impl_BareFlush_1) rfl rfl o40 trivial

theorem k0_impl_BareSet {p : Prop} (h : p := by clear S; (first | (rw [set_has (by assumption)]; done) | (rw [set_hasnt (by assumption)]; done))) : p := h
theorem c_impl_BareSet (w0 : World) (b : TBare) (pb : PBare) (hb : RD w0 b pb) (g : Int) (page : Int) (hpage : In64 page) (s : TSlot) (hs : RSlot s) : Calls Tryz.prog 59 [GT.val b pb, I g, I page, GT.val s ()].toArray w0 (Ret2 NoB w0 ((f_bareSet b g page s).1 : TBare) ((f_bareSet b g page s).2 : Bool)) := by
 refine Calls.run NoB Tryz.func59 ?_
 intro ac β S
 have hleb_mem : b.mem.length ≤ 4194304 := LRd.le (RBare.mem (d := b) hb)
 have hleb_guests : b.guests.length ≤ 4194304 := LRd.le (RBare.guests (d := b) hb)
 have hleb_outs : b.outs.length ≤ 4194304 := LRd.le (RBare.outs (d := b) hb)
 have hlopage := hpage.lo; have hhipage := hpage.hi
 refine S.go 10 .nil fun ac w β S => ?_
 refine S.Frz 1 page () hpage fun β N b1 F2 S up o3 d4 => ?_
 clear up d4
 refine S.Frz 1 s () hs fun β N b5 F6 S up o7 d8 => ?_
 replace o3 := o3.up up
 clear up d8
 refine drw ?_
 rcases Bool.eq_false_or_eq_true (f_within page 0 (4 - 1)) with h10 | h10
 ·have g11 := within_t h10
  let σ12 : Sy := ⟨[(1, .v (I g)), (4, .p 0 0), (6, .v (pt (cap1 b1 () : LP Int).1.b ((cap1 b1 () : LP Int).1.off + 0 * 1))), (7, .v (pt (cap1 b5 () : LP TSlot).1.b ((cap1 b5 () : LP TSlot).1.off + 0 * 2))), (8, .p 1 0)], [GT.cells b pb, Zc TBare]⟩
  obtain ⟨u0, N0, β0, S, o3, o7⟩ : ∃ u0 N0 β0, St Tryz.prog Tryz.f59.ntmps w0 NoB u0 N0 β0 σ12 ac w ∧ Ow w0 NoB u0 N0 F2 ([page]) (cap1 b1 () : LP Int) ∧ Ow w0 NoB u0 N0 F6 ([s]) (cap1 b5 () : LP TSlot) := ⟨_, _, _, S.z, o3, o7⟩
  refine wp_region_cut (fun ac w => ∃ q31 F32 u N β, St Tryz.prog Tryz.f59.ntmps w0 NoB u N β (σ12.dl [1, 4, 6, 7] [(9, .v (B (f_changed b g (f_slotOk s 8) (fun x => ({ x with written := f_withSlot x.written page s } : TGuest))).2))] 2 [(1, GT.cells (f_changed b g (f_slotOk s 8) (fun x => ({ x with written := f_withSlot x.written page s } : TGuest))).1 q31)]) ac w ∧ Ow w0 NoB u N F32 (f_changed b g (f_slotOk s 8) (fun x => ({ x with written := f_withSlot x.written page s } : TGuest))).1 q31) ?_ ?_
  ·refine S.draw0 (f := 14) 12 (by kernel_rfl) (by kernel_rfl) fun w S => ?_
   refine S.hq 0 [0] [] [(10, .v (GT.val b pb))] .nil fun ac S => ?_
   refine S.hq 1 [1] [] [(11, .v (I g))] .nil fun ac S => ?_
   refine S.hq 2 [2] [] [(12, .v (I page))] (.cons (Q_el1 o3.rn (t := 3) (k := 0) (Nat.succ_pos 0) rfl (by kernel_rfl)) .nil) fun ac S => ?_
   refine S.hq 8 [8] [] [(18, .v (.func (.func 119) #[] #[pt (cap1 b1 () : LP Int).1.b ((cap1 b1 () : LP Int).1.off + 0 * 1), pt (cap1 b5 () : LP TSlot).1.b ((cap1 b5 () : LP TSlot).1.off + 0 * 2)]))] .nil fun ac S => ?_
   refine WD.nameW fun W hW => ?_
   refine WD.castW (l' := mkL 14 [0, 1, 2, 8]) (by kernel_rfl) ?_
   have hK33 ac w q31 F32 u N β (S : St Tryz.prog Tryz.f59.ntmps w0 NoB u N β (σ12.dl [1, 4, 6, 7] [(9, .v (B (f_changed b g (f_slotOk s 8) (fun x => ({ x with written := f_withSlot x.written page s } : TGuest))).2))] 2 [(1, GT.cells (f_changed b g (f_slotOk s 8) (fun x => ({ x with written := f_withSlot x.written page s } : TGuest))).1 q31)]) ac w) (o30 : Ow w0 NoB u N F32 (f_changed b g (f_slotOk s 8) (fun x => ({ x with written := f_withSlot x.written page s } : TGuest))).1 q31) : W 0 (mkL 14 [0, 1, 2, 3, 4, 5, 6, 7, 8, 9, 10, 11, 12, 13]) ac w := by
    exact od hW ⟨rfl, q31, F32, _, _, _, S.z, o30⟩
   have hK34 ac w q28 F29 u N β (S : St Tryz.prog Tryz.f59.ntmps w0 NoB u N β (σ12.dl [1, 4, 6, 7] [(20, .v (GT.val (f_changed b g (f_slotOk s 8) (fun x => ({ x with written := f_withSlot x.written page s } : TGuest))).1 q28)), (21, .v (B (f_changed b g (f_slotOk s 8) (fun x => ({ x with written := f_withSlot x.written page s } : TGuest))).2))] 2 []) ac w) (o27 : Ow w0 NoB u N F29 (f_changed b g (f_slotOk s 8) (fun x => ({ x with written := f_withSlot x.written page s } : TGuest))).1 q28) (hNN : NN N0 u0 N u) (hBB : BB σ12.bx.length β0 β) : W 2 (mkL 14 [0, 1, 2, 3, 4, 5, 6, 7, 8, 9, 10, 11]) ac w := by
    exact ox1 hW 12 (S.wl hW [13] .nil fun _ _ _ S => hK33 _ _ q28 F29 _ _ _ S o27)
   have hK35 ac w u N β (S : St Tryz.prog Tryz.f59.ntmps w0 NoB u N β (σ12.dl [1, 4, 6, 7] [(10, .v (GT.val b pb)), (11, .v (I g)), (17, .v (B (f_slotOk s 8))), (18, .v (.func (.func 119) #[] #[pt (cap1 b1 () : LP Int).1.b ((cap1 b1 () : LP Int).1.off + 0 * 1), pt (cap1 b5 () : LP TSlot).1.b ((cap1 b5 () : LP TSlot).1.off + 0 * 2)]))] 2 []) ac w) (o3 : Ow w0 NoB u N F2 ([page]) (cap1 b1 () : LP Int)) (o7 : Ow w0 NoB u N F6 ([s]) (cap1 b5 () : LP TSlot)) (hNN : NN N0 u0 N u) (hBB : BB σ12.bx.length β0 β) : W 5 (mkL 14 [0, 1, 2, 3, 4, 5, 6, 7, 8]) ac w := by
    refine ox1 hW 9 ?_
    refine id (S.call2 (r := (f_changed b g (f_slotOk s 8) (fun x => ({ x with written := f_withSlot x.written page s } : TGuest))).1) (r' := (f_changed b g (f_slotOk s 8) (fun x => ({ x with written := f_withSlot x.written page s } : TGuest))).2) (d := 19) (c_impl_changed_impl_BareSet_1 w b pb (S.rd (S.arg hb)) g (f_slotOk s 8) page (cap1 b1 () : LP Int) (S.rd o3.rn) s (cap1 b5 () : LP TSlot) (S.rd o7.rn)) (by kernel_rfl) rfl fun ac w N q36 q37 F38 F39 S up o40 o41 d42 d43 d44 => ?_)
    have hb45 := fun b h => (⟨(up b (hNN b h).1).1, (up b (hNN b h).1).2.trans (hNN b h).2⟩ : _ ∧ _)
    refine WD.sc S hb45 hBB fun hC => ?_
    replace o3 := o3.up up
    replace o7 := o7.up up
    clear up d42
    clear d43
    exact S.wh hW [10, 11] hC fun _ S => hK34 _ _ q36 F38 _ _ _ S o40 hb45 hBB
   have hK50 ac w u N β (S : St Tryz.prog Tryz.f59.ntmps w0 NoB u N β (σ12.dl [1, 4, 6, 7] [(10, .v (GT.val b pb)), (11, .v (I g)), (14, .v (B true)), (15, .v (GT.val s ())), (18, .v (.func (.func 119) #[] #[pt (cap1 b1 () : LP Int).1.b ((cap1 b1 () : LP Int).1.off + 0 * 1), pt (cap1 b5 () : LP TSlot).1.b ((cap1 b5 () : LP TSlot).1.off + 0 * 2)]))] 2 []) ac w) (o3 : Ow w0 NoB u N F2 ([page]) (cap1 b1 () : LP Int)) (o7 : Ow w0 NoB u N F6 ([s]) (cap1 b5 () : LP TSlot)) (hNN : NN N0 u0 N u) (hBB : BB σ12.bx.length β0 β) : W 7 (mkL 14 [0, 1, 2, 3, 4, 5, 8]) ac w := by
    exact ox1 hW 6 (S.wq hW hNN hBB [7] (.cons (Q_call fun w hw => c_impl_SlotOk w s 8 (by omega) (by omega)) .nil) fun _ _ _ S hB => hK35 _ _ _ _ _ S o3 o7 hNN hB)
   have hK51 ac w u N β (S : St Tryz.prog Tryz.f59.ntmps w0 NoB u N β (σ12.dl [1, 4, 6] [(10, .v (GT.val b pb)), (11, .v (I g)), (14, .v (B true)), (18, .v (.func (.func 119) #[] #[pt (cap1 b1 () : LP Int).1.b ((cap1 b1 () : LP Int).1.off + 0 * 1), pt (cap1 b5 () : LP TSlot).1.b ((cap1 b5 () : LP TSlot).1.off + 0 * 2)]))] 2 []) ac w) (o3 : Ow w0 NoB u N F2 ([page]) (cap1 b1 () : LP Int)) (o7 : Ow w0 NoB u N F6 ([s]) (cap1 b5 () : LP TSlot)) (hNN : NN N0 u0 N u) (hBB : BB σ12.bx.length β0 β) : W 8 (mkL 14 [0, 1, 2, 3, 4, 8]) ac w := by
    exact ox1 hW 5 (S.wq hW hNN hBB [] (.cons (Q_el o7.rn (t := 44) (k := 0) (Nat.succ_pos 0) rfl (by kernel_rfl) (by kernel_rfl)) .nil) fun _ _ _ S hB => hK50 _ _ _ _ _ S o3 o7 hNN hB)
   have hNN : NN N0 u0 N0 u0 := fun b h => ⟨h, rfl⟩
   have hBB : BB σ12.bx.length β0 β0 := fun _ _ => rfl
   exact ox1 hW 3 (S.wqo hW hNN hBB [4] [(4, true)] (.cons (Q_call fun w hw => c_impl_has w page 4 (by omega)) .nil) (.cons h10 .nil) fun _ _ _ S hB => hK51 _ _ _ _ _ S o3 o7 hNN hB)
  clear S o3 o7
  rintro ac w ⟨q31, F32, u, N, β, S, o30⟩
  refine S.ex fun S => ?_
  refine S.gr 2 .nil [GT.val (f_changed b g (f_slotOk s 8) (fun x => ({ x with written := f_withSlot x.written page s } : TGuest))).1 q31, B (f_changed b g (f_slotOk s 8) (fun x => ({ x with written := f_withSlot x.written page s } : TGuest))).2] fun ac w β S => ?_
  exact ret2_of (p' := ()) S (show (f_bareSet b g page s).1 = (f_changed b g (f_slotOk s 8) (fun x => ({ x with written := f_withSlot x.written page s } : TGuest))).1 from k0_impl_BareSet) (show (f_bareSet b g page s).2 = (f_changed b g (f_slotOk s 8) (fun x => ({ x with written := f_withSlot x.written page s } : TGuest))).2 from k0_impl_BareSet) rfl rfl o30 trivial
 ·have g52 := within_f h10
  let σ53 : Sy := ⟨[(1, .v (I g)), (4, .p 0 0), (6, .v (pt (cap1 b1 () : LP Int).1.b ((cap1 b1 () : LP Int).1.off + 0 * 1))), (7, .v (pt (cap1 b5 () : LP TSlot).1.b ((cap1 b5 () : LP TSlot).1.off + 0 * 2))), (8, .p 1 0)], [GT.cells b pb, Zc TBare]⟩
  obtain ⟨u0, N0, β0, S, o3, o7⟩ : ∃ u0 N0 β0, St Tryz.prog Tryz.f59.ntmps w0 NoB u0 N0 β0 σ53 ac w ∧ Ow w0 NoB u0 N0 F2 ([page]) (cap1 b1 () : LP Int) ∧ Ow w0 NoB u0 N0 F6 ([s]) (cap1 b5 () : LP TSlot) := ⟨_, _, _, S.z, o3, o7⟩
  refine wp_region_cut (fun ac w => ∃ q72 F73 u N β, St Tryz.prog Tryz.f59.ntmps w0 NoB u N β (σ53.dl [1, 4, 6, 7] [(9, .v (B (f_changed b g false (fun x => ({ x with written := f_withSlot x.written page s } : TGuest))).2))] 2 [(1, GT.cells (f_changed b g false (fun x => ({ x with written := f_withSlot x.written page s } : TGuest))).1 q72)]) ac w ∧ Ow w0 NoB u N F73 (f_changed b g false (fun x => ({ x with written := f_withSlot x.written page s } : TGuest))).1 q72) ?_ ?_
  ·refine S.draw0 (f := 14) 12 (by kernel_rfl) (by kernel_rfl) fun w S => ?_
   refine S.hq 0 [0] [] [(10, .v (GT.val b pb))] .nil fun ac S => ?_
   refine S.hq 1 [1] [] [(11, .v (I g))] .nil fun ac S => ?_
   refine S.hq 2 [2] [] [(12, .v (I page))] (.cons (Q_el1 o3.rn (t := 3) (k := 0) (Nat.succ_pos 0) rfl (by kernel_rfl)) .nil) fun ac S => ?_
   refine S.hq 8 [8] [] [(18, .v (.func (.func 119) #[] #[pt (cap1 b1 () : LP Int).1.b ((cap1 b1 () : LP Int).1.off + 0 * 1), pt (cap1 b5 () : LP TSlot).1.b ((cap1 b5 () : LP TSlot).1.off + 0 * 2)]))] .nil fun ac S => ?_
   refine WD.nameW fun W hW => ?_
   refine WD.castW (l' := mkL 14 [0, 1, 2, 8]) (by kernel_rfl) ?_
   have hK74 ac w q72 F73 u N β (S : St Tryz.prog Tryz.f59.ntmps w0 NoB u N β (σ53.dl [1, 4, 6, 7] [(9, .v (B (f_changed b g false (fun x => ({ x with written := f_withSlot x.written page s } : TGuest))).2))] 2 [(1, GT.cells (f_changed b g false (fun x => ({ x with written := f_withSlot x.written page s } : TGuest))).1 q72)]) ac w) (o71 : Ow w0 NoB u N F73 (f_changed b g false (fun x => ({ x with written := f_withSlot x.written page s } : TGuest))).1 q72) : W 0 (mkL 14 [0, 1, 2, 3, 4, 5, 6, 7, 8, 9, 10, 11, 12, 13]) ac w := by
    exact od hW ⟨rfl, q72, F73, _, _, _, S.z, o71⟩
   have hK75 ac w q69 F70 u N β (S : St Tryz.prog Tryz.f59.ntmps w0 NoB u N β (σ53.dl [1, 4, 6, 7] [(20, .v (GT.val (f_changed b g false (fun x => ({ x with written := f_withSlot x.written page s } : TGuest))).1 q69)), (21, .v (B (f_changed b g false (fun x => ({ x with written := f_withSlot x.written page s } : TGuest))).2))] 2 []) ac w) (o68 : Ow w0 NoB u N F70 (f_changed b g false (fun x => ({ x with written := f_withSlot x.written page s } : TGuest))).1 q69) (hNN : NN N0 u0 N u) (hBB : BB σ53.bx.length β0 β) : W 2 (mkL 14 [0, 1, 2, 3, 4, 5, 6, 7, 8, 9, 10, 11]) ac w := by
    exact ox1 hW 12 (S.wl hW [13] .nil fun _ _ _ S => hK74 _ _ q69 F70 _ _ _ S o68)
   have hK76 ac w u N β (S : St Tryz.prog Tryz.f59.ntmps w0 NoB u N β (σ53.dl [1, 4, 6, 7] [(10, .v (GT.val b pb)), (11, .v (I g)), (17, .v (B false)), (18, .v (.func (.func 119) #[] #[pt (cap1 b1 () : LP Int).1.b ((cap1 b1 () : LP Int).1.off + 0 * 1), pt (cap1 b5 () : LP TSlot).1.b ((cap1 b5 () : LP TSlot).1.off + 0 * 2)]))] 2 []) ac w) (o3 : Ow w0 NoB u N F2 ([page]) (cap1 b1 () : LP Int)) (o7 : Ow w0 NoB u N F6 ([s]) (cap1 b5 () : LP TSlot)) (hNN : NN N0 u0 N u) (hBB : BB σ53.bx.length β0 β) : W 5 (mkL 14 [0, 1, 2, 3, 4, 5, 6, 7, 8]) ac w := by
    refine ox1 hW 9 ?_
    refine id (S.call2 (r := (f_changed b g false (fun x => ({ x with written := f_withSlot x.written page s } : TGuest))).1) (r' := (f_changed b g false (fun x => ({ x with written := f_withSlot x.written page s } : TGuest))).2) (d := 19) (c_impl_changed_impl_BareSet_1 w b pb (S.rd (S.arg hb)) g false page (cap1 b1 () : LP Int) (S.rd o3.rn) s (cap1 b5 () : LP TSlot) (S.rd o7.rn)) (by kernel_rfl) rfl fun ac w N q77 q78 F79 F80 S up o81 o82 d83 d84 d85 => ?_)
    have hb86 := fun b h => (⟨(up b (hNN b h).1).1, (up b (hNN b h).1).2.trans (hNN b h).2⟩ : _ ∧ _)
    refine WD.sc S hb86 hBB fun hC => ?_
    replace o3 := o3.up up
    replace o7 := o7.up up
    clear up d83
    clear d84
    exact S.wh hW [10, 11] hC fun _ S => hK75 _ _ q77 F79 _ _ _ S o81 hb86 hBB
   have hK91 ac w u N β (S : St Tryz.prog Tryz.f59.ntmps w0 NoB u N β (σ53.dl [1, 4, 6, 7] [(10, .v (GT.val b pb)), (11, .v (I g)), (14, .v (B false)), (15, .v undef), (18, .v (.func (.func 119) #[] #[pt (cap1 b1 () : LP Int).1.b ((cap1 b1 () : LP Int).1.off + 0 * 1), pt (cap1 b5 () : LP TSlot).1.b ((cap1 b5 () : LP TSlot).1.off + 0 * 2)]))] 2 []) ac w) (o3 : Ow w0 NoB u N F2 ([page]) (cap1 b1 () : LP Int)) (o7 : Ow w0 NoB u N F6 ([s]) (cap1 b5 () : LP TSlot)) (hNN : NN N0 u0 N u) (hBB : BB σ53.bx.length β0 β) : W 7 (mkL 14 [0, 1, 2, 3, 4, 5, 8]) ac w := by
    exact ox1 hW 6 (S.wq hW hNN hBB [7] .nil fun _ _ _ S hB => hK76 _ _ _ _ _ S o3 o7 hNN hB)
   have hK92 ac w u N β (S : St Tryz.prog Tryz.f59.ntmps w0 NoB u N β (σ53.dl [1, 4, 6] [(10, .v (GT.val b pb)), (11, .v (I g)), (14, .v (B false)), (18, .v (.func (.func 119) #[] #[pt (cap1 b1 () : LP Int).1.b ((cap1 b1 () : LP Int).1.off + 0 * 1), pt (cap1 b5 () : LP TSlot).1.b ((cap1 b5 () : LP TSlot).1.off + 0 * 2)]))] 2 []) ac w) (o3 : Ow w0 NoB u N F2 ([page]) (cap1 b1 () : LP Int)) (o7 : Ow w0 NoB u N F6 ([s]) (cap1 b5 () : LP TSlot)) (hNN : NN N0 u0 N u) (hBB : BB σ53.bx.length β0 β) : W 8 (mkL 14 [0, 1, 2, 3, 4, 8]) ac w := by
    exact ox1 hW 5 (S.wq hW hNN hBB [] .nil fun _ _ _ S hB => hK91 _ _ _ _ _ S o3 o7 hNN hB)
   have hNN : NN N0 u0 N0 u0 := fun b h => ⟨h, rfl⟩
   have hBB : BB σ53.bx.length β0 β0 := fun _ _ => rfl
   exact ox1 hW 3 (S.wqo hW hNN hBB [4] [(4, false)] (.cons (Q_call fun w hw => c_impl_has w page 4 (by omega)) .nil) (.cons h10 .nil) fun _ _ _ S hB => hK92 _ _ _ _ _ S o3 o7 hNN hB)
  clear S o3 o7
  rintro ac w ⟨q72, F73, u, N, β, S, o71⟩
  refine S.ex fun S => ?_
  refine S.gr 2 .nil [GT.val (f_changed b g false (fun x => ({ x with written := f_withSlot x.written page s } : TGuest))).1 q72, B (f_changed b g false (fun x => ({ x with written := f_withSlot x.written page s } : TGuest))).2] fun ac w β S => ?_
  exact ret2_of (p' := ()) S (show (f_bareSet b g page s).1 = (f_changed b g false (fun x => ({ x with written := f_withSlot x.written page s } : TGuest))).1 from k0_impl_BareSet) (show (f_bareSet b g page s).2 = (f_changed b g false (fun x => ({ x with written := f_withSlot x.written page s } : TGuest))).2 from k0_impl_BareSet) rfl rfl o71 trivial

theorem c_impl_HostSet_1 (w0 : World) (b : TBare) (pb : PBare) (hb : RD w0 b pb) (g : Int) (qg : LP Int) (hg : RD w0 [g] qg) (page : Int) (qpage : LP Int) (hpage : RD w0 [page] qpage) (s : TSlot) (qs : LP TSlot) (hs : RD w0 [s] qs) : Calls Tryz.prog 58 [GT.val b pb, pt qg.1.b (qg.1.off + 0 * 1), pt qpage.1.b (qpage.1.off + 0 * 1), pt qs.1.b (qs.1.off + 0 * 2)].toArray w0 (Ret2 NoB w0 ((f_bareSet b g page s).1 : TBare) ((f_bareSet b g page s).2 : Bool)) := by
 refine Calls.run NoB Tryz.func58 ?_
 intro ac β S
 have hleb_mem : b.mem.length ≤ 4194304 := LRd.le (RBare.mem (d := b) hb)
 have hleb_guests : b.guests.length ≤ 4194304 := LRd.le (RBare.guests (d := b) hb)
 have hleb_outs : b.outs.length ≤ 4194304 := LRd.le (RBare.outs (d := b) hb)
 refine S.go 13 (.cons (Q_el1 (S.arg hg) (t := 3) (k := 0) (Nat.succ_pos 0) rfl (by kernel_rfl)) (.cons (Q_el1 (S.arg hpage) (t := 3) (k := 0) (Nat.succ_pos 0) rfl (by kernel_rfl)) (.cons (Q_el (S.arg hs) (t := 44) (k := 0) (Nat.succ_pos 0) rfl (by kernel_rfl) (by kernel_rfl)) .nil))) fun ac w β S => S.K2 (r := (f_bareSet b g page s).1) (r' := (f_bareSet b g page s).2) (d := 11) (c_impl_BareSet w b pb (S.rd (S.arg hb)) g page (show In64 page from LRd.el (S.arg hpage) 0 (Nat.succ_pos 0)) s (show RSlot s from LRd.el (S.arg hs) 0 (Nat.succ_pos 0))) fun ac w N q1 q2 F3 F4 S up o5 o6 d7 d8 d9 => ?_
 clear up d7
 clear d8
 refine S.gr 7 .nil [GT.val (f_bareSet b g page s).1 q1, B (f_bareSet b g page s).2] fun ac w β S => ?_
 exact ret2_of (p' := ()) S (show (f_bareSet b g page s).1 = (f_bareSet b g page s).1 by clear S; rfl) (show (f_bareSet b g page s).2 = (f_bareSet b g page s).2 by clear S; rfl) rfl rfl o5 trivial

theorem c_impl_BareFlush (w0 : World) (b : TBare) (pb : PBare) (hb : RD w0 b pb) (g : Int) (page : Int) (hpage : In64 page) : Calls Tryz.prog 61 [GT.val b pb, I g, I page].toArray w0 (Ret2 NoB w0 ((f_bareFlush b g page).1 : TBare) ((f_bareFlush b g page).2 : Bool)) := by
 refine Calls.run NoB Tryz.func61 ?_
 intro ac β S
 have hleb_mem : b.mem.length ≤ 4194304 := LRd.le (RBare.mem (d := b) hb)
 have hleb_guests : b.guests.length ≤ 4194304 := LRd.le (RBare.guests (d := b) hb)
 have hleb_outs : b.outs.length ≤ 4194304 := LRd.le (RBare.outs (d := b) hb)
 have hlopage := hpage.lo; have hhipage := hpage.hi
 refine S.go 9 .nil fun ac w β S => ?_
 refine S.Frz 1 page () hpage fun β N b1 F2 S up o3 d4 => ?_
 clear up d4
 refine drw ?_
 refine S.draw0 (f := 10) 8 (by kernel_rfl) (by kernel_rfl) fun w S => ?_
 refine S.hq 0 [0] [] [(8, .v (GT.val b pb))] .nil fun ac S => ?_
 refine S.hq 1 [1] [] [(9, .v (I g))] .nil fun ac S => ?_
 refine S.hq 2 [2] [] [(10, .v (I page))] (.cons (Q_el1 o3.rn (t := 3) (k := 0) (Nat.succ_pos 0) rfl (by kernel_rfl)) .nil) fun ac S => ?_
 refine S.hq 4 [4] [] [(12, .v (.func (.func 121) #[] #[pt (cap1 b1 () : LP Int).1.b ((cap1 b1 () : LP Int).1.off + 0 * 1)]))] .nil fun ac S => ?_
 refine S.sq 3 [] [(11, .v (B (f_within page 0 (4 - 1))))] 2 [] (.cons (Q_call fun w hw => c_impl_has w page 4 (by omega)) .nil) fun ac w β S => ?_
 refine WD.one (i := 5) (by kernel_rfl) ?_
 refine id (S.call2 (r := (f_changed b g (f_within page 0 (4 - 1)) (fun x => ({ x with live := f_withSlot x.live page (f_slotAt x.written page) } : TGuest))).1) (r' := (f_changed b g (f_within page 0 (4 - 1)) (fun x => ({ x with live := f_withSlot x.live page (f_slotAt x.written page) } : TGuest))).2) (d := 13) (c_impl_changed_impl_BareFlush_1 w b pb (S.rd (S.arg hb)) g (f_within page 0 (4 - 1)) page (cap1 b1 () : LP Int) (S.rd o3.rn)) (by kernel_rfl) rfl fun ac w N q5 q6 F7 F8 S up o9 o10 d11 d12 d13 => ?_)
 refine WD.next S up (by kernel_rfl) ?_
 clear up d11
 clear d12
 refine S.hq 6 [6] [] [(14, .v (GT.val (f_changed b g (f_within page 0 (4 - 1)) (fun x => ({ x with live := f_withSlot x.live page (f_slotAt x.written page) } : TGuest))).1 q5))] .nil fun ac S => ?_
 refine S.hq 7 [7] [] [(15, .v (B (f_changed b g (f_within page 0 (4 - 1)) (fun x => ({ x with live := f_withSlot x.live page (f_slotAt x.written page) } : TGuest))).2))] .nil fun ac S => ?_
 refine S.sl 8 [] [] 2 [(1, GT.cells (f_changed b g (f_within page 0 (4 - 1)) (fun x => ({ x with live := f_withSlot x.live page (f_slotAt x.written page) } : TGuest))).1 q5)] .nil fun ac w β S => ?_
 refine S.sl 9 [] [(7, .v (B (f_changed b g (f_within page 0 (4 - 1)) (fun x => ({ x with live := f_withSlot x.live page (f_slotAt x.written page) } : TGuest))).2))] 2 [] .nil fun ac w β S => ?_
 refine WD.done (by kernel_rfl) ?_ _
 refine S.ex fun S => ?_
 refine S.gr 2 .nil [GT.val (f_changed b g (f_within page 0 (4 - 1)) (fun x => ({ x with live := f_withSlot x.live page (f_slotAt x.written page) } : TGuest))).1 q5, B (f_changed b g (f_within page 0 (4 - 1)) (fun x => ({ x with live := f_withSlot x.live page (f_slotAt x.written page) } : TGuest))).2] fun ac w β S => ?_
 exact ret2_of (p' := ()) S (show (f_bareFlush b g page).1 = (f_changed b g (f_within page 0 (4 - 1)) (fun x => ({ x with live := f_withSlot x.live page (f_slotAt x.written page) } : TGuest))).1 by clear S; rfl) (show (f_bareFlush b g page).2 = (f_changed b g (f_within page 0 (4 - 1)) (fun x => ({ x with live := f_withSlot x.live page (f_slotAt x.written page) } : TGuest))).2 by clear S; rfl) rfl rfl o9 trivial

theorem c_impl_HostFlush_1 (w0 : World) (b : TBare) (pb : PBare) (hb : RD w0 b pb) (g : Int) (qg : LP Int) (hg : RD w0 [g] qg) (page : Int) (qpage : LP Int) (hpage : RD w0 [page] qpage) : Calls Tryz.prog 60 [GT.val b pb, pt qg.1.b (qg.1.off + 0 * 1), pt qpage.1.b (qpage.1.off + 0 * 1)].toArray w0 (Ret2 NoB w0 ((f_bareFlush b g page).1 : TBare) ((f_bareFlush b g page).2 : Bool)) := by
 refine Calls.run NoB Tryz.func60 ?_
 intro ac β S
 have hleb_mem : b.mem.length ≤ 4194304 := LRd.le (RBare.mem (d := b) hb)
 have hleb_guests : b.guests.length ≤ 4194304 := LRd.le (RBare.guests (d := b) hb)
 have hleb_outs : b.outs.length ≤ 4194304 := LRd.le (RBare.outs (d := b) hb)
 refine S.go 12 (.cons (Q_el1 (S.arg hg) (t := 3) (k := 0) (Nat.succ_pos 0) rfl (by kernel_rfl)) (.cons (Q_el1 (S.arg hpage) (t := 3) (k := 0) (Nat.succ_pos 0) rfl (by kernel_rfl)) .nil)) fun ac w β S => S.K2 (r := (f_bareFlush b g page).1) (r' := (f_bareFlush b g page).2) (d := 9) (c_impl_BareFlush w b pb (S.rd (S.arg hb)) g page (show In64 page from LRd.el (S.arg hpage) 0 (Nat.succ_pos 0))) fun ac w N q1 q2 F3 F4 S up o5 o6 d7 d8 d9 => ?_
 clear up d7
 clear d8
 refine S.gr 7 .nil [GT.val (f_bareFlush b g page).1 q1, B (f_bareFlush b g page).2] fun ac w β S => ?_
 exact ret2_of (p' := ()) S (show (f_bareFlush b g page).1 = (f_bareFlush b g page).1 by clear S; rfl) (show (f_bareFlush b g page).2 = (f_bareFlush b g page).2 by clear S; rfl) rfl rfl o5 trivial

theorem k0_impl_WithCell {p : Prop} (h : p := by clear S; (unfold f_withCell; (repeat' split) <;> first | rfl | (simp; done) | (exfalso; omega) | (exfalso; simp_all; done) | (exfalso; simp_all; omega))) : p := h
theorem c_impl_WithCell (w0 : World) (m : List (List Int)) (pm : LP (List Int)) (hm : RD w0 m pm) (page : Int) (cell : Int) (v : Int) (hv : In64 v) : Calls Tryz.prog 41 [slv m.length pm.1, I page, I cell, I v].toArray w0 (Ret1 NoB w0 (f_withCell m page cell v : List (List Int))) := by
 refine Calls.run NoB Tryz.func41 ?_
 intro ac β S
 have hlem : m.length ≤ 4194304 := LRd.le hm
 have hlov := hv.lo; have hhiv := hv.hi
 refine S.go 8 .nil fun ac w β S => S.K1 (r := m) (d := 11) (c_impl_copyMem w m pm (S.rd (S.arg hm))) fun ac w N q1 F2 S up o3 d4 => ?_
 clear up d4
 refine S.gb 11 (.cons (Q_call fun w hw => c_impl_has w page (m.length : Int) (by omega)) .nil) (f_within page 0 ((m.length : Int) - 1)) (fun ac w β h5 S => ?_) (fun ac w β h5 S => ?_)
 ·have g6 := within_t h5
  have b7 : (el m page.toNat).length ≤ 4194304 := LRd.le (LRd.el (S.arg hm) page.toNat (by omega))
  refine S.gb 9 (.cons (qt (S.arg hm) page Tryz.underlying24) (.cons (qx (S.arg hm) 26 page.toNat) (.cons (Q_call fun w hw => c_impl_has w cell ((el m page.toNat).length : Int) (by omega)) .nil))) (f_within cell 0 (((el m page.toNat).length : Int) - 1)) (fun ac w β h8 S => ?_) (fun ac w β h8 S => ?_)
  ·have g9 := within_t h8
   refine S.gb 5 (.cons (Q_call fun w hw => c_impl_within w v 0 99) .nil) (f_within v 0 99) (fun ac w β h10 S => ?_) (fun ac w β h10 S => ?_)
   ·have g11 := within_t h10
    obtain ⟨F12, o13, _, b15⟩ := foc2_id o3 (k := page.toNat) (show page.toNat < m.length by omega)
    have l16 := LRd.le o13.rn
    have n17 := o13.sub
    refine S.go 9 (.cons (qt o3.rn page Tryz.underlying24) (.cons (qx o3.rn 26 page.toNat) (.cons (qt (LRd.el o3.rn page.toNat (by omega)) cell Tryz.underlying26) .nil))) fun ac w β S => S.SF (α := Int) o13 (t := 3) (k := cell.toNat) (j := 0) (off := (q1.2 page.toNat).1.off + cell.toNat * 1) (v := I v) (y := v) (q := ()) (fun _ _ _ => ⟨NoB, hv, fun _ h => False.elim h⟩) fun w N F19 q20 S up o18 d21 s22 n23 => ?_
    clear d21 o13
    obtain ⟨p24, o25, c26⟩ := b15 _ _ _ _ _ NoB up o18 s22 (fun b _ h => False.elim h) (by show [slv _ _] = [slv _ _]; rw [List.length_set]) (fun b h => n23 b (n17 b h))
    clear up o18 n23
    have l27 : (m.set page.toNat ((el m page.toNat).set cell.toNat v)).length = m.length := List.length_set
    refine S.gr 9 .nil [slv m.length q1.1] fun ac w β S => ?_
    exact ret1_of S (show f_withCell m page cell v = (m.set page.toNat ((el m page.toNat).set cell.toNat v)) from k0_impl_WithCell) (by rw [show m.length = (m.set page.toNat ((el m page.toNat).set cell.toNat v)).length from (by omega)]; rfl) o25
   have g28 := within_f h10
   refine S.gr 10 .nil [slv m.length q1.1] fun ac w β S => ?_
   exact ret1_of S (show f_withCell m page cell v = m from k0_impl_WithCell) rfl o3
  have g29 := within_f h8
  refine S.gr 15 .nil [slv m.length q1.1] fun ac w β S => ?_
  exact ret1_of S (show f_withCell m page cell v = m from k0_impl_WithCell) rfl o3
 have g30 := within_f h5
 refine S.gr 24 .nil [slv m.length q1.1] fun ac w β S => ?_
 exact ret1_of S (show f_withCell m page cell v = m from k0_impl_WithCell) rfl o3

theorem k0_impl_BarePoke {p : Prop} (h : p := by clear S; (unfold f_barePoke; (repeat' split) <;> first | rfl | (exfalso; omega) | (exfalso; simp_all; done) | (exfalso; simp_all; omega) | (simp_all; done))) : p := h
theorem c_impl_BarePoke (w0 : World) (b : TBare) (pb : PBare) (hb : RD w0 b pb) (page : Int) (cell : Int) (v : Int) (hv : In64 v) : Calls Tryz.prog 67 [GT.val b pb, I page, I cell, I v].toArray w0 (Ret2 NoB w0 ((f_barePoke b page cell v).1 : TBare) ((f_barePoke b page cell v).2 : Bool)) := by
 refine Calls.run NoB Tryz.func67 ?_
 intro ac β S
 have hleb_mem : b.mem.length ≤ 4194304 := LRd.le (RBare.mem (d := b) hb)
 have hleb_guests : b.guests.length ≤ 4194304 := LRd.le (RBare.guests (d := b) hb)
 have hleb_outs : b.outs.length ≤ 4194304 := LRd.le (RBare.outs (d := b) hb)
 have hlov := hv.lo; have hhiv := hv.hi
 refine S.go 10 .nil fun ac w β S => S.K1 (r := b) (d := 12) (c_impl_copyBare w b pb (S.rd (S.arg hb))) fun ac w N q1 F2 S up o3 d4 => ?_
 clear up d4
 have i14 : In64 b.pend := RBare.pend (d := b) o3.rn
 obtain ⟨F5, F8, F11, o6, o9, o12, _, _, _, d15, d16, d17⟩ := sp_Bare o3
 refine S.gb 11 (.cons (Q_call fun w hw => c_impl_BareOk w b pb (rd_of (S.arg hb) hw)) .nil) (!(f_bareOk b)) (fun ac w β h18 S => ?_) (fun ac w β h18 S => ?_)
 ·have h19 := not_t h18
  refine S.gr 25 .nil [GT.val b q1, B false] fun ac w β S => ?_
  have o20 := ow_Bare (x := b) (p := q1) o6 o9 o12 d15 d16 d17 i14
  exact ret2_of (p' := ()) S (show (f_barePoke b page cell v).1 = b from k0_impl_BarePoke) (show (f_barePoke b page cell v).2 = false from k0_impl_BarePoke) rfl rfl o20 trivial
 have h21 := not_f h18
 have g22 := bareOk_t h21
 refine S.gb 5 (.cons (Q_call fun w hw => c_impl_has w page 8 (by omega)) .nil) (!(f_within page 0 (8 - 1))) (fun ac w β h23 S => ?_) (fun ac w β h23 S => ?_)
 ·have h24 := not_t h23
  have g25 := within_f h24
  refine S.gr 20 .nil [GT.val b q1, B false] fun ac w β S => ?_
  have o26 := ow_Bare (x := b) (p := q1) o6 o9 o12 d15 d16 d17 i14
  exact ret2_of (p' := ()) S (show (f_barePoke b page cell v).1 = b from k0_impl_BarePoke) (show (f_barePoke b page cell v).2 = false from k0_impl_BarePoke) rfl rfl o26 trivial
 have h27 := not_f h23
 have g28 := within_t h27
 refine S.gb 5 (.cons (Q_call fun w hw => c_impl_has w cell 4 (by omega)) .nil) (!(f_within cell 0 (4 - 1))) (fun ac w β h29 S => ?_) (fun ac w β h29 S => ?_)
 ·have h30 := not_t h29
  have g31 := within_f h30
  refine S.gr 15 .nil [GT.val b q1, B false] fun ac w β S => ?_
  have o32 := ow_Bare (x := b) (p := q1) o6 o9 o12 d15 d16 d17 i14
  exact ret2_of (p' := ()) S (show (f_barePoke b page cell v).1 = b from k0_impl_BarePoke) (show (f_barePoke b page cell v).2 = false from k0_impl_BarePoke) rfl rfl o32 trivial
 have h33 := not_f h29
 have g34 := within_t h33
 refine S.gb 6 (.cons (Q_call fun w hw => c_impl_within w v 0 99) .nil) (!(f_within v 0 99)) (fun ac w β h35 S => ?_) (fun ac w β h35 S => ?_)
 ·have h36 := not_t h35
  have g37 := within_f h36
  refine S.gr 9 .nil [GT.val b q1, B false] fun ac w β S => ?_
  have o38 := ow_Bare (x := b) (p := q1) o6 o9 o12 d15 d16 d17 i14
  exact ret2_of (p' := ()) S (show (f_barePoke b page cell v).1 = b from k0_impl_BarePoke) (show (f_barePoke b page cell v).2 = false from k0_impl_BarePoke) rfl rfl o38 trivial
 have h39 := not_f h35
 have g40 := within_t h39
 refine S.go 10 .nil fun ac w β S => S.K1 (r := f_withCell b.mem page cell v) (d := 37) (c_impl_WithCell w b.mem pb.mem (S.rd (RBare.mem (d := b) (S.arg hb))) page cell v hv) fun ac w N q41 F42 S up o43 d44 => ?_
 have d46 := Disj.w d44 o9.sub
 have d47 := Disj.w d44 o12.sub
 replace o9 := o9.up up
 replace o12 := o12.up up
 clear up d44
 refine S.gr 12 .nil [GT.val (⟨(f_withCell b.mem page cell v), b.guests, b.outs, b.pend⟩ : TBare) (⟨q41, q1.guests, q1.outs⟩ : PBare), B true] fun ac w β S => ?_
 have o48 := ow_Bare (x := (⟨(f_withCell b.mem page cell v), b.guests, b.outs, b.pend⟩ : TBare)) (p := (⟨q41, q1.guests, q1.outs⟩ : PBare)) o43 o9 o12 (Disj.symm d46) (Disj.symm d47) d17 i14
 exact ret2_of (p' := ()) S (show (f_barePoke b page cell v).1 = (⟨(f_withCell b.mem page cell v), b.guests, b.outs, b.pend⟩ : TBare) from k0_impl_BarePoke) (show (f_barePoke b page cell v).2 = true from k0_impl_BarePoke) rfl rfl o48 trivial

theorem c_impl_HostPoke_1 (w0 : World) (b : TBare) (pb : PBare) (hb : RD w0 b pb) (page : Int) (qpage : LP Int) (hpage : RD w0 [page] qpage) (cell : Int) (qcell : LP Int) (hcell : RD w0 [cell] qcell) (v : Int) (qv : LP Int) (hv : RD w0 [v] qv) : Calls Tryz.prog 66 [GT.val b pb, pt qpage.1.b (qpage.1.off + 0 * 1), pt qcell.1.b (qcell.1.off + 0 * 1), pt qv.1.b (qv.1.off + 0 * 1)].toArray w0 (Ret2 NoB w0 ((f_barePoke b page cell v).1 : TBare) ((f_barePoke b page cell v).2 : Bool)) := by
 refine Calls.run NoB Tryz.func66 ?_
 intro ac β S
 have hleb_mem : b.mem.length ≤ 4194304 := LRd.le (RBare.mem (d := b) hb)
 have hleb_guests : b.guests.length ≤ 4194304 := LRd.le (RBare.guests (d := b) hb)
 have hleb_outs : b.outs.length ≤ 4194304 := LRd.le (RBare.outs (d := b) hb)
 refine S.go 13 (.cons (Q_el1 (S.arg hpage) (t := 3) (k := 0) (Nat.succ_pos 0) rfl (by kernel_rfl)) (.cons (Q_el1 (S.arg hcell) (t := 3) (k := 0) (Nat.succ_pos 0) rfl (by kernel_rfl)) (.cons (Q_el1 (S.arg hv) (t := 3) (k := 0) (Nat.succ_pos 0) rfl (by kernel_rfl)) .nil))) fun ac w β S => S.K2 (r := (f_barePoke b page cell v).1) (r' := (f_barePoke b page cell v).2) (d := 11) (c_impl_BarePoke w b pb (S.rd (S.arg hb)) page cell v (show In64 v from LRd.el (S.arg hv) 0 (Nat.succ_pos 0))) fun ac w N q1 q2 F3 F4 S up o5 o6 d7 d8 d9 => ?_
 clear up d7
 clear d8
 refine S.gr 7 .nil [GT.val (f_barePoke b page cell v).1 q1, B (f_barePoke b page cell v).2] fun ac w β S => ?_
 exact ret2_of (p' := ()) S (show (f_barePoke b page cell v).1 = (f_barePoke b page cell v).1 by clear S; rfl) (show (f_barePoke b page cell v).2 = (f_barePoke b page cell v).2 by clear S; rfl) rfl rfl o5 trivial

theorem c_impl_copyKept (w0 : World) (k : TKept) (pk : PKept) (hk : RD w0 k pk) : Calls Tryz.prog 123 [GT.val k pk].toArray w0 (Ret1 NoB w0 (k : TKept)) := by
 refine Calls.run NoB Tryz.func123 ?_
 intro ac β S
 have hlek_known : k.known.length ≤ 4194304 := LRd.le (RKept.known (d := k) hk)
 have hlek_slots : k.slots.length ≤ 4194304 := LRd.le (RKept.slots (d := k) hk)
 refine S.go 7 .nil fun ac w β S => ?_
 refine drw ?_
 refine S.draw0 (f := 9) 8 (by kernel_rfl) (by kernel_rfl) fun w S => ?_
 refine S.hq 1 [1] [] [(4, .p 0 0)] .nil fun ac S => ?_
 refine S.hq 2 [2] [] [(5, .v (slv k.known.length pk.known.1))] .nil fun ac S => ?_
 refine S.hq 4 [4] [] [(7, .p 0 1)] .nil fun ac S => ?_
 refine S.hq 5 [5] [] [(8, .v (slv k.slots.length pk.slots.1))] .nil fun ac S => ?_
 refine WD.one (i := 0) (by kernel_rfl) ?_
 refine id (S.bs0 (α := Bool) (d := 3) (by kernel_rfl) fun ac w N q1 F2 S up o3 d4 => ?_)
 have hb5 := fun b h => (⟨(up b h).1, (up b h).2, d4 b h⟩ : _ ∧ _ ∧ _)
 refine WD.keep S up (by kernel_rfl) ?_
 clear up d4
 refine WD.one (i := 3) (by kernel_rfl) ?_
 have b10 : k.known.length ≤ 4194304 := LRd.le (RKept.known (d := k) (S.arg hk))
 refine id (S.appFlat0 (α := Bool) o3 (RKept.known (d := k) (S.arg hk)) (fun _ _ h => h) (by' := 1) (d := 6) (lx := 0) (ly := k.known.length) rfl fun ac w N q6 F7 S up o8 d9 => ?_)
 have hb11 := fun b h => (⟨(up b (hb5 b h).1 (hb5 b h).2.2).1, (up b (hb5 b h).1 (hb5 b h).2.2).2.trans (hb5 b h).2.1⟩ : _ ∧ _)
 refine WD.next S hb11 (by kernel_rfl) ?_
 clear up d9
 refine WD.one (i := 6) (by kernel_rfl) ?_
 refine id (S.k1 9 (c_impl_copyTable w k.slots pk.slots (S.rd (RKept.slots (d := k) (S.arg hk)))) fun ac w N q12 F13 S up o14 d15 => ?_)
 refine WD.next S up (by kernel_rfl) ?_
 have d16 := Disj.w d15 o8.sub
 replace o8 := o8.up up
 clear up d15
 refine S.hq 7 [7] [] [(10, .v (GT.val (⟨k.known, k.slots⟩ : TKept) (⟨q6, q12⟩ : PKept)))] (.cons (Q_sem (s := Instr.build 106 [(0, slv k.known.length q6.1), (1, slv k.slots.length q12.1)].toArray) (v := .agg [slv k.known.length q6.1, slv k.slots.length q12.1].toArray) (fun w => by kernel_rfl)) .nil) fun ac S => ?_
 refine S.sl 8 [] [] 2 [(1, [slv k.known.length q6.1, slv k.slots.length q12.1])] .nil fun ac w β S => ?_
 refine WD.done (by kernel_rfl) ?_ _
 refine S.ex fun S => ?_
 refine S.gr 2 .nil [GT.val (⟨k.known, k.slots⟩ : TKept) (⟨q6, q12⟩ : PKept)] fun ac w β S => ?_
 have o17 := ow_Kept (x := (⟨k.known, k.slots⟩ : TKept)) (p := (⟨q6, q12⟩ : PKept)) o8 o14 d16 
 exact ret1_of S (show k = (⟨k.known, k.slots⟩ : TKept) by clear S; (first | rfl | simp)) rfl o17

theorem c_impl_copyMon (w0 : World) (m : TMon) (pm : PMon) (hm : RD w0 m pm) : Calls Tryz.prog 127 [GT.val m pm].toArray w0 (Ret1 NoB w0 (m : TMon)) := by
 refine Calls.run NoB Tryz.func127 ?_
 intro ac β S
 have hlem_outer : m.outer.length ≤ 4194304 := LRd.le (RMon.outer (d := m) hm)
 have hlem_out : m.out.length ≤ 4194304 := LRd.le (RMon.out (d := m) hm)
 have hlem_dirty : m.dirty.length ≤ 4194304 := LRd.le (RMon.dirty (d := m) hm)
 have hlem_guests : m.guests.length ≤ 4194304 := LRd.le (RMon.guests (d := m) hm)
 have hlem_outs : m.outs.length ≤ 4194304 := LRd.le (RMon.outs (d := m) hm)
 have hlem_tables : m.tables.length ≤ 4194304 := LRd.le (RMon.tables (d := m) hm)
 refine S.go 10 .nil fun ac w β S => S.K1 (r := m.outer) (d := 8) (c_impl_copyTable w m.outer pm.outer (S.rd (RMon.outer (d := m) (S.arg hm)))) fun ac w N q1 F2 S up o3 d4 => ?_
 clear up d4
 refine S.go 8 .nil fun ac w β S => S.K1 (r := m.out) (d := 12) (c_impl_copyMem w m.out pm.out (S.rd (RMon.out (d := m) (S.arg hm)))) fun ac w N q5 F6 S up o7 d8 => ?_
 have d9 := Disj.w d8 o3.sub
 replace o3 := o3.up up
 clear up d8
 refine S.go 6 .nil fun ac w β S => S.B0 (α := Bool) (d := 14) fun ac w N q10 F11 S up o12 d13 => ?_
 have d14 := Disj.w d13 o3.sub
 have d15 := Disj.w d13 o7.sub
 replace o3 := o3.up up
 replace o7 := o7.up up
 clear up d13
 have b20 : m.dirty.length ≤ 4194304 := LRd.le (RMon.dirty (d := m) (S.arg hm))
 refine S.go 2 .nil fun ac w β S => S.AF0 (α := Bool) o12 (RMon.dirty (d := m) (S.arg hm)) (fun _ _ h => h) (by' := 1) (d := 17) (lx := 0) (ly := m.dirty.length) rfl fun ac w N q16 F17 S up o18 d19 => ?_
 have d21 := d19 _ d14 o3.sub
 have d22 := d19 _ d15 o7.sub
 replace o3 := o3.upF d14 up
 replace o7 := o7.upF d15 up
 clear up d19
 refine S.go 8 .nil fun ac w β S => S.K1 (r := m.guests) (d := 21) (c_impl_copyGuests w m.guests pm.guests (S.rd (RMon.guests (d := m) (S.arg hm)))) fun ac w N q23 F24 S up o25 d26 => ?_
 have d27 := Disj.w d26 o3.sub
 have d28 := Disj.w d26 o7.sub
 have d29 := Disj.w d26 o18.sub
 replace o3 := o3.up up
 replace o7 := o7.up up
 replace o18 := o18.up up
 clear up d26
 refine S.go 8 .nil fun ac w β S => S.K1 (r := m.outs) (d := 25) (c_impl_copyInts w m.outs pm.outs (S.rd (RMon.outs (d := m) (S.arg hm)))) fun ac w N q30 F31 S up o32 d33 => ?_
 have d34 := Disj.w d33 o3.sub
 have d35 := Disj.w d33 o7.sub
 have d36 := Disj.w d33 o18.sub
 have d37 := Disj.w d33 o25.sub
 replace o3 := o3.up up
 replace o7 := o7.up up
 replace o18 := o18.up up
 replace o25 := o25.up up
 clear up d33
 refine S.go 6 .nil fun ac w β S => S.B0 (α := TKept) (d := 27) fun ac w N q38 F39 S up o40 d41 => ?_
 have d42 := Disj.w d41 o3.sub
 have d43 := Disj.w d41 o7.sub
 have d44 := Disj.w d41 o18.sub
 have d45 := Disj.w d41 o25.sub
 have d46 := Disj.w d41 o32.sub
 replace o3 := o3.up up
 replace o7 := o7.up up
 replace o18 := o18.up up
 replace o25 := o25.up up
 replace o32 := o32.up up
 clear up d41
 refine S.go 13 .nil fun ac w β S => ?_
 refine lp (fun mm ac w => ∃ (k : Nat) (acc : List TKept) (q47 : _) (F48 : _) (u : _) (N : _) (β : _), mm = m.tables.length - k ∧ (k ≤ m.tables.length) ∧ (acc = m.tables.take k) ∧ St Tryz.prog Tryz.f127.ntmps w0 NoB u N β ⟨[(1, .p 0 0), (2, .p 1 0), (3, .v (slv acc.length q47.1)), (29, .v (slv m.tables.length pm.tables.1)), (30, .v (I (m.tables.length : Int))), (31, .v (I (k : Int)))], [[slv m.outer.length q1.1, slv m.out.length q5.1, slv m.dirty.length q16.1, slv m.guests.length q23.1, slv m.outs.length q30.1, I m.pend, I m.traps, slv m.tables.length pm.tables.1, I m.owned], Zc TMon]⟩ ac w ∧ Ow w0 NoB u N F48 acc q47 ∧ Ow w0 NoB u N F2 m.outer q1 ∧ Ow w0 NoB u N F6 m.out q5 ∧ Ow w0 NoB u N F17 m.dirty q16 ∧ Ow w0 NoB u N F24 m.guests q23 ∧ Ow w0 NoB u N F31 m.outs q30 ∧ Disj F48 F2 ∧ Disj F48 F6 ∧ Disj F48 F17 ∧ Disj F48 F24 ∧ Disj F48 F31) _ ⟨0, ([] : List TKept), q38, F39, _, _, _, rfl, o0, (by simp), S.z, o40, o3, o7, o18, o25, o32, (Disj.symm d42), (Disj.symm d43), (Disj.symm d44), (Disj.symm d45), (Disj.symm d46)⟩ ?_
 clear S o18 o25 o3 o32 o40 o7
 rintro f55 mm hf56 ac w ⟨k, acc, q47, F48, u, N, β, rfl, hk, hacc, S, o49, o3, o7, o18, o25, o32, d50, d51, d52, d53, d54⟩
 refine S.rs fun S => ?_
 have hlacc : acc.length = k := by rw [hacc]; simp; omega
 refine S.gd 6 .nil (decide ((k : Int) < (m.tables.length : Int))) (fun ac w β h57 g58 S => ?_) (fun ac w β h57 g58 S => ?_)
 ·refine S.go 16 (.cons (qn (RMon.tables (d := m) (S.arg hm)) k Tryz.underlying97) (.cons (qs (RMon.tables (d := m) (S.arg hm)) 106 k) .nil)) fun ac w β S => S.K1 (r := (el m.tables k)) (d := 37) (c_impl_copyKept w (el m.tables k) (pm.tables.2 k) (S.rd (LRd.el (RMon.tables (d := m) (S.arg hm)) k (by omega)))) fun ac w N q59 F60 S up o61 d62 => ?_
  have d63 := Disj.w d62 o49.sub
  have d64 := Disj.w d62 o3.sub
  have d65 := Disj.w d62 o7.sub
  have d66 := Disj.w d62 o18.sub
  have d67 := Disj.w d62 o25.sub
  have d68 := Disj.w d62 o32.sub
  replace o49 := o49.up up
  replace o3 := o3.up up
  replace o7 := o7.up up
  replace o18 := o18.up up
  replace o25 := o25.up up
  replace o32 := o32.up up
  clear up d62
  refine S.B1 (α := TKept) (x := (el m.tables k)) (p := q59) o61.own o61.sub o61.young (d := 38) fun ac w N q69 F70 S up o71 d72 => ?_
  have d73 := d72 _ d63 o49.sub
  have d74 := d72 _ d64 o3.sub
  have d75 := d72 _ d65 o7.sub
  have d76 := d72 _ d66 o18.sub
  have d77 := d72 _ d67 o25.sub
  have d78 := d72 _ d68 o32.sub
  replace o49 := o49.up up
  replace o3 := o3.up up
  replace o7 := o7.up up
  replace o18 := o18.up up
  replace o25 := o25.up up
  replace o32 := o32.up up
  clear up d72
  refine S.AO (α := TKept) o49 o71 d73 (by' := 48) (d := 39) (lx := acc.length) (ly := 1) rfl rfl (show _ ≤ 4194304 by simp only [List.length_append, List.length_cons, List.length_nil]; omega) fun ac w N q79 F80 S up o81 d82 => ?_
  have d83 := d82 _ (Disj.symm d50) d74 o3.sub
  have d84 := d82 _ (Disj.symm d51) d75 o7.sub
  have d85 := d82 _ (Disj.symm d52) d76 o18.sub
  have d86 := d82 _ (Disj.symm d53) d77 o25.sub
  have d87 := d82 _ (Disj.symm d54) d78 o32.sub
  replace o3 := o3.upF (Disj.symm d50) up
  replace o7 := o7.upF (Disj.symm d51) up
  replace o18 := o18.upF (Disj.symm d52) up
  replace o25 := o25.upF (Disj.symm d53) up
  replace o32 := o32.upF (Disj.symm d54) up
  clear up d82
  refine S.ge 8 (.cons (qp (k : Int) 1) .nil) f55 fun ac w β S => hf56.of (m.tables.length - (k + 1)) _ _ (by omega) ⟨k + 1, (acc ++ [(el m.tables k)]), q79, F80, _, _, _, rfl, ?_, ?_, S.z, o81, o3, o7, o18, o25, o32, (Disj.symm d83), (Disj.symm d84), (Disj.symm d85), (Disj.symm d86), (Disj.symm d87)⟩
  ·exact oz
  ·clear S; (first | (rw [take_el (by omega), hacc]; done) | (rw [take_el (by omega), hacc]; simp; done))
 refine S.gr 20 .nil [GT.val (⟨m.outer, m.out, m.dirty, m.guests, m.outs, m.pend, m.traps, acc, m.owned⟩ : TMon) (⟨q1, q5, q16, q23, q30, q47⟩ : PMon)] fun ac w β S => ?_
 have o88 := ow_Mon (x := (⟨m.outer, m.out, m.dirty, m.guests, m.outs, m.pend, m.traps, acc, m.owned⟩ : TMon)) (p := (⟨q1, q5, q16, q23, q30, q47⟩ : PMon)) o3 o7 o18 o25 o32 o49 d9 d21 d27 d34 (Disj.symm d50) d22 d28 d35 (Disj.symm d51) d29 d36 (Disj.symm d52) d37 (Disj.symm d53) (Disj.symm d54) (RMon.pend (d := m) (S.arg hm)) (RMon.traps (d := m) (S.arg hm)) (RMon.owned (d := m) (S.arg hm))
 exact ret1_of S (show m = (⟨m.outer, m.out, m.dirty, m.guests, m.outs, m.pend, m.traps, acc, m.owned⟩ : TMon) by clear S; (first | rfl | (rw [hacc, take_all (by omega)]; done) | (rw [hacc, take_all (by omega)]; simp; done) | simp)) rfl o88

theorem c_impl_copyHost (w0 : World) (h : THost) (ph : PHost) (hh : RD w0 h ph) : Calls Tryz.prog 65 [GT.val h ph].toArray w0 (Ret1 NoB w0 (h : THost)) := by
 refine Calls.run NoB Tryz.func65 ?_
 intro ac β S
 have hleh_mem : h.mem.length ≤ 4194304 := LRd.le (RHost.mem (d := h) hh)
 have hleh_mons : h.mons.length ≤ 4194304 := LRd.le (RHost.mons (d := h) hh)
 have hleh_buf : h.buf.length ≤ 4194304 := LRd.le (RHost.buf (d := h) hh)
 have hleh_iobuf : h.iobuf.length ≤ 4194304 := LRd.le (RHost.iobuf (d := h) hh)
 refine S.go 7 .nil fun ac w β S => ?_
 refine drw ?_
 let σ1 : Sy := ⟨[(1, .p 0 0), (2, .p 1 0)], [GT.cells h ph, Zc THost]⟩
 obtain ⟨u0, N0, β0, S⟩ : ∃ u0 N0 β0, St Tryz.prog Tryz.f65.ntmps w0 NoB u0 N0 β0 σ1 ac w := ⟨_, _, _, S.z⟩
 refine wp_region_cut (fun ac w => ∃ q234 F235 q237 F238 q231 F232 u N β, St Tryz.prog Tryz.f65.ntmps w0 NoB u N β (σ1.dl [] [(3, .p 2 0)] 3 [(2, [slv h.mem.length q231.1, slv ([] : List TMon).length (GT.pdflt (α := List TMon)).1, slv h.buf.length q234.1, slv h.iobuf.length q237.1])]) ac w ∧ Ow w0 NoB u N F235 h.buf q234 ∧ Ow w0 NoB u N F238 h.iobuf q237 ∧ Ow w0 NoB u N F232 h.mem q231 ∧ Disj F235 F238 ∧ Disj F235 F232 ∧ Disj F238 F232) ?_ ?_
 ·refine S.draw0 (f := 14) 13 (by kernel_rfl) (by kernel_rfl) fun w S => ?_
  refine S.hq 0 [0] [] [(6, .p 0 0)] .nil fun ac S => ?_
  refine S.hq 1 [1] [] [(7, .v (slv h.mem.length ph.mem.1))] .nil fun ac S => ?_
  refine S.hq 4 [4] [] [(10, .p 0 2)] .nil fun ac S => ?_
  refine S.hq 5 [5] [] [(11, .v (slv h.buf.length ph.buf.1))] .nil fun ac S => ?_
  refine S.hq 8 [8] [] [(14, .p 0 3)] .nil fun ac S => ?_
  refine S.hq 9 [9] [] [(15, .v (slv h.iobuf.length ph.iobuf.1))] .nil fun ac S => ?_
  refine WD.nameW fun W hW => ?_
  refine WD.castW (l' := mkL 14 [0, 1, 4, 5, 8, 9]) (by kernel_rfl) ?_
  have hK239 ac w q234 F235 q237 F238 q231 F232 u N β (S : St Tryz.prog Tryz.f65.ntmps w0 NoB u N β (σ1.dl [] [(3, .p 2 0)] 3 [(2, [slv h.mem.length q231.1, slv ([] : List TMon).length (GT.pdflt (α := List TMon)).1, slv h.buf.length q234.1, slv h.iobuf.length q237.1])]) ac w) (o233 : Ow w0 NoB u N F235 h.buf q234) (o236 : Ow w0 NoB u N F238 h.iobuf q237) (o230 : Ow w0 NoB u N F232 h.mem q231) (d240 : Disj F235 F238) (d241 : Disj F235 F232) (d242 : Disj F238 F232) : W 0 (mkL 14 [0, 1, 2, 3, 4, 5, 6, 7, 8, 9, 10, 11, 12, 13]) ac w := by
   exact od hW ⟨rfl, q234, F235, q237, F238, q231, F232, _, _, _, S.z, o233, o236, o230, d240, d241, d242⟩
  have hK243 ac w q217 F218 q220 F221 q214 F215 u N β (S : St Tryz.prog Tryz.f65.ntmps w0 NoB u N β (σ1.dl [] [(3, .p 2 0), (17, .v (GT.val (⟨h.mem, ([] : List TMon), h.buf, h.iobuf⟩ : THost) (⟨q214, (GT.pdflt (α := List TMon)), q217, q220⟩ : PHost)))] 3 [(2, Zc THost)]) ac w) (o216 : Ow w0 NoB u N F218 h.buf q217) (o219 : Ow w0 NoB u N F221 h.iobuf q220) (o213 : Ow w0 NoB u N F215 h.mem q214) (d244 : Disj F218 F221) (d245 : Disj F218 F215) (d246 : Disj F221 F215) (hNN : NN N0 u0 N u) (hBB : BB σ1.bx.length β0 β) : W 1 (mkL 14 [0, 1, 2, 3, 4, 5, 6, 7, 8, 9, 10, 11, 12]) ac w := by
   exact ox1 hW 13 (S.wl hW [] .nil fun _ _ _ S => hK239 _ _ q217 F218 q220 F221 q214 F215 _ _ _ S o216 o219 o213 d244 d245 d246)
  have hK247 ac w q217 F218 q220 F221 q214 F215 u N β (S : St Tryz.prog Tryz.f65.ntmps w0 NoB u N β (σ1.dl [] [(17, .v (GT.val (⟨h.mem, ([] : List TMon), h.buf, h.iobuf⟩ : THost) (⟨q214, (GT.pdflt (α := List TMon)), q217, q220⟩ : PHost)))] 2 []) ac w) (o216 : Ow w0 NoB u N F218 h.buf q217) (o219 : Ow w0 NoB u N F221 h.iobuf q220) (o213 : Ow w0 NoB u N F215 h.mem q214) (d248 : Disj F218 F221) (d249 : Disj F218 F215) (d250 : Disj F221 F215) (hNN : NN N0 u0 N u) (hBB : BB σ1.bx.length β0 β) : W 2 (mkL 14 [0, 1, 2, 3, 4, 5, 6, 7, 8, 9, 10, 11]) ac w := by
   exact ox1 hW 12 (S.wq hW hNN hBB [] .nil fun _ _ _ S hB => hK243 _ _ q217 F218 q220 F221 q214 F215 _ _ _ S o216 o219 o213 d248 d249 d250 hNN hB)
  have hK251 ac w q85 F86 q196 F197 q8 F9 u N β (S : St Tryz.prog Tryz.f65.ntmps w0 NoB u N β (σ1.dl [] [(3, .p 2 0), (8, .v (slv h.mem.length q8.1)), (12, .v (slv h.buf.length q85.1)), (16, .v (slv h.iobuf.length q196.1))] 3 [(2, Zc THost)]) ac w) (o84 : Ow w0 NoB u N F86 h.buf q85) (o195 : Ow w0 NoB u N F197 h.iobuf q196) (o7 : Ow w0 NoB u N F9 h.mem q8) (d252 : Disj F86 F197) (d253 : Disj F86 F9) (d254 : Disj F197 F9) (hNN : NN N0 u0 N u) (hBB : BB σ1.bx.length β0 β) : W 2 (mkL 14 [0, 1, 2, 3, 4, 5, 6, 7, 8, 9, 10, 12]) ac w := by
   exact ox1 hW 11 (S.wq hW hNN hBB [] (.cons (Q_sem (s := Instr.build 60 [(0, slv h.mem.length q8.1), (2, slv h.buf.length q85.1), (3, slv h.iobuf.length q196.1)].toArray) (v := .agg [slv h.mem.length q8.1, slv ([] : List TMon).length (GT.pdflt (α := List TMon)).1, slv h.buf.length q85.1, slv h.iobuf.length q196.1].toArray) (fun w => by kernel_rfl)) .nil) fun _ _ _ S hB => hK243 _ _ q85 F86 q196 F197 q8 F9 _ _ _ S o84 o195 o7 d252 d253 d254 hNN hB)
  have hK255 ac w q85 F86 q196 F197 q8 F9 u N β (S : St Tryz.prog Tryz.f65.ntmps w0 NoB u N β (σ1.dl [] [(8, .v (slv h.mem.length q8.1)), (12, .v (slv h.buf.length q85.1)), (16, .v (slv h.iobuf.length q196.1))] 2 []) ac w) (o84 : Ow w0 NoB u N F86 h.buf q85) (o195 : Ow w0 NoB u N F197 h.iobuf q196) (o7 : Ow w0 NoB u N F9 h.mem q8) (d256 : Disj F86 F197) (d257 : Disj F86 F9) (d258 : Disj F197 F9) (hNN : NN N0 u0 N u) (hBB : BB σ1.bx.length β0 β) : W 3 (mkL 14 [0, 1, 2, 3, 4, 5, 6, 7, 8, 9, 10]) ac w := by
   exact ox2 hW 11 12 (S.wq hW hNN hBB [] (.cons (Q_sem (s := Instr.build 60 [(0, slv h.mem.length q8.1), (2, slv h.buf.length q85.1), (3, slv h.iobuf.length q196.1)].toArray) (v := .agg [slv h.mem.length q8.1, slv ([] : List TMon).length (GT.pdflt (α := List TMon)).1, slv h.buf.length q85.1, slv h.iobuf.length q196.1].toArray) (fun w => by kernel_rfl)) .nil) fun _ _ _ S hB => hK247 _ _ q85 F86 q196 F197 q8 F9 _ _ _ S o84 o195 o7 d256 d257 d258 hNN hB) (S.wq hW hNN hBB [] .nil fun _ _ _ S hB => hK251 _ _ q85 F86 q196 F197 q8 F9 _ _ _ S o84 o195 o7 d256 d257 d258 hNN hB)
  have hK259 ac w q85 F86 q24 F25 q8 F9 u N β (S : St Tryz.prog Tryz.f65.ntmps w0 NoB u N β (σ1.dl [] [(3, .p 2 0), (8, .v (slv h.mem.length q8.1)), (12, .v (slv h.buf.length q85.1)), (13, .v (slv 0 q24.1)), (15, .v (slv h.iobuf.length ph.iobuf.1))] 3 [(2, Zc THost)]) ac w) (o84 : Ow w0 NoB u N F86 h.buf q85) (o23 : Ow w0 NoB u N F25 ([] : List TEntry) q24) (o7 : Ow w0 NoB u N F9 h.mem q8) (d260 : Disj F86 F25) (d261 : Disj F86 F9) (d262 : Disj F25 F9) (hNN : ∀ b, N0 b → N b ∧ u.heap[b]? = u0.heap[b]? ∧ ¬ F25 b) (hBB : BB σ1.bx.length β0 β) : W 3 (mkL 14 [0, 1, 2, 3, 4, 5, 6, 7, 8, 9, 12]) ac w := by
   refine ox1 hW 10 ?_
   have b267 : h.iobuf.length ≤ 4194304 := LRd.le (RHost.iobuf (d := h) (S.arg hh))
   refine id (S.appFlat0 (α := TEntry) o23 (RHost.iobuf (d := h) (S.arg hh)) (fun _ _ h => h) (by' := 32) (d := 16) (lx := 0) (ly := h.iobuf.length) rfl fun ac w N q263 F264 S up o265 d266 => ?_)
   have hb268 := fun b h => (⟨(up b (hNN b h).1 (hNN b h).2.2).1, (up b (hNN b h).1 (hNN b h).2.2).2.trans (hNN b h).2.1⟩ : _ ∧ _)
   refine WD.sc S hb268 hBB fun hC => ?_
   have d269 := d266 _ (Disj.symm d262) o7.sub
   have d270 := d266 _ d260 o84.sub
   replace o7 := o7.upF (Disj.symm d262) up
   replace o84 := o84.upF d260 up
   clear up d266
   exact S.wh hW [] hC fun _ S => hK251 _ _ q85 F86 q263 F264 q8 F9 _ _ _ S o84 o265 o7 d270 d261 (Disj.symm d269) hb268 hBB
  have hK271 ac w q85 F86 q24 F25 q8 F9 u N β (S : St Tryz.prog Tryz.f65.ntmps w0 NoB u N β (σ1.dl [] [(8, .v (slv h.mem.length q8.1)), (12, .v (slv h.buf.length q85.1)), (13, .v (slv 0 q24.1)), (15, .v (slv h.iobuf.length ph.iobuf.1))] 2 []) ac w) (o84 : Ow w0 NoB u N F86 h.buf q85) (o23 : Ow w0 NoB u N F25 ([] : List TEntry) q24) (o7 : Ow w0 NoB u N F9 h.mem q8) (d272 : Disj F86 F25) (d273 : Disj F86 F9) (d274 : Disj F25 F9) (hNN : ∀ b, N0 b → N b ∧ u.heap[b]? = u0.heap[b]? ∧ ¬ F25 b) (hBB : BB σ1.bx.length β0 β) : W 4 (mkL 14 [0, 1, 2, 3, 4, 5, 6, 7, 8, 9]) ac w := by
   refine ox2 hW 10 12 ?_ (S.wq hW (fun b h => ⟨(hNN b h).1, (hNN b h).2.1⟩) hBB [] .nil fun _ _ _ S hB => hK259 _ _ q85 F86 q24 F25 q8 F9 _ _ _ S o84 o23 o7 d272 d273 d274 hNN hB)
   have b279 : h.iobuf.length ≤ 4194304 := LRd.le (RHost.iobuf (d := h) (S.arg hh))
   refine id (S.appFlat0 (α := TEntry) o23 (RHost.iobuf (d := h) (S.arg hh)) (fun _ _ h => h) (by' := 32) (d := 16) (lx := 0) (ly := h.iobuf.length) rfl fun ac w N q275 F276 S up o277 d278 => ?_)
   have hb280 := fun b h => (⟨(up b (hNN b h).1 (hNN b h).2.2).1, (up b (hNN b h).1 (hNN b h).2.2).2.trans (hNN b h).2.1⟩ : _ ∧ _)
   refine WD.sc S hb280 hBB fun hC => ?_
   have d281 := d278 _ (Disj.symm d274) o7.sub
   have d282 := d278 _ d272 o84.sub
   replace o7 := o7.upF (Disj.symm d274) up
   replace o84 := o84.upF d272 up
   clear up d278
   exact S.wh hW [] hC fun _ S => hK255 _ _ q85 F86 q275 F276 q8 F9 _ _ _ S o84 o277 o7 d282 d273 (Disj.symm d281) hb280 hBB
  have hK283 ac w q85 F86 q8 F9 u N β (S : St Tryz.prog Tryz.f65.ntmps w0 NoB u N β (σ1.dl [] [(3, .p 2 0), (8, .v (slv h.mem.length q8.1)), (12, .v (slv h.buf.length q85.1)), (15, .v (slv h.iobuf.length ph.iobuf.1))] 3 [(2, Zc THost)]) ac w) (o84 : Ow w0 NoB u N F86 h.buf q85) (o7 : Ow w0 NoB u N F9 h.mem q8) (d284 : Disj F86 F9) (hNN : NN N0 u0 N u) (hBB : BB σ1.bx.length β0 β) : W 4 (mkL 14 [0, 1, 2, 3, 4, 5, 6, 8, 9, 12]) ac w := by
   refine ox1 hW 7 ?_
   refine id (S.bs0 (α := TEntry) (d := 13) (by kernel_rfl) fun ac w N q285 F286 S up o287 d288 => ?_)
   have hb289 := fun b h => (⟨(up b (hNN b h).1).1, (up b (hNN b h).1).2.trans (hNN b h).2, d288 b (hNN b h).1⟩ : _ ∧ _ ∧ _)
   refine WD.sc S (fun b h => ⟨(hb289 b h).1, (hb289 b h).2.1⟩) hBB fun hC => ?_
   have d290 := Disj.w d288 o7.sub
   have d291 := Disj.w d288 o84.sub
   replace o7 := o7.up up
   replace o84 := o84.up up
   clear up d288
   exact S.wh hW [] hC fun _ S => hK259 _ _ q85 F86 q285 F286 q8 F9 _ _ _ S o84 o287 o7 d291 d284 (Disj.symm d290) hb289 hBB
  have hK292 ac w q24 F25 q8 F9 q16 F17 u N β (S : St Tryz.prog Tryz.f65.ntmps w0 NoB u N β (σ1.dl [] [(3, .p 2 0), (8, .v (slv h.mem.length q8.1)), (9, .v (slv 0 q16.1)), (11, .v (slv h.buf.length ph.buf.1)), (13, .v (slv 0 q24.1)), (15, .v (slv h.iobuf.length ph.iobuf.1))] 3 [(2, Zc THost)]) ac w) (o23 : Ow w0 NoB u N F25 ([] : List TEntry) q24) (o7 : Ow w0 NoB u N F9 h.mem q8) (o15 : Ow w0 NoB u N F17 ([] : List TEntry) q16) (d293 : Disj F25 F9) (d294 : Disj F25 F17) (d295 : Disj F9 F17) (hNN : ∀ b, N0 b → N b ∧ u.heap[b]? = u0.heap[b]? ∧ ¬ F17 b ∧ ¬ F25 b) (hBB : BB σ1.bx.length β0 β) : W 4 (mkL 14 [0, 1, 2, 3, 4, 5, 7, 8, 9, 12]) ac w := by
   refine ox1 hW 6 ?_
   have b300 : h.buf.length ≤ 4194304 := LRd.le (RHost.buf (d := h) (S.arg hh))
   refine id (S.appFlat0 (α := TEntry) o15 (RHost.buf (d := h) (S.arg hh)) (fun _ _ h => h) (by' := 32) (d := 12) (lx := 0) (ly := h.buf.length) rfl fun ac w N q296 F297 S up o298 d299 => ?_)
   have hb301 := fun b h => (⟨(up b (hNN b h).1 (hNN b h).2.2.1).1, (up b (hNN b h).1 (hNN b h).2.2.1).2.trans (hNN b h).2.1, (hNN b h).2.2.2⟩ : _ ∧ _ ∧ _)
   refine WD.sc S (fun b h => ⟨(hb301 b h).1, (hb301 b h).2.1⟩) hBB fun hC => ?_
   have d302 := d299 _ d295 o7.sub
   have d303 := d299 _ d294 o23.sub
   replace o7 := o7.upF d295 up
   replace o23 := o23.upF d294 up
   clear up d299
   exact S.wh hW [] hC fun _ S => hK259 _ _ q296 F297 q24 F25 q8 F9 _ _ _ S o298 o23 o7 (Disj.symm d303) (Disj.symm d302) d293 hb301 hBB
  have hK304 ac w q85 F86 q8 F9 u N β (S : St Tryz.prog Tryz.f65.ntmps w0 NoB u N β (σ1.dl [] [(8, .v (slv h.mem.length q8.1)), (12, .v (slv h.buf.length q85.1)), (15, .v (slv h.iobuf.length ph.iobuf.1))] 2 []) ac w) (o84 : Ow w0 NoB u N F86 h.buf q85) (o7 : Ow w0 NoB u N F9 h.mem q8) (d305 : Disj F86 F9) (hNN : NN N0 u0 N u) (hBB : BB σ1.bx.length β0 β) : W 5 (mkL 14 [0, 1, 2, 3, 4, 5, 6, 8, 9]) ac w := by
   refine ox2 hW 7 12 ?_ (S.wq hW hNN hBB [] .nil fun _ _ _ S hB => hK283 _ _ q85 F86 q8 F9 _ _ _ S o84 o7 d305 hNN hB)
   refine id (S.bs0 (α := TEntry) (d := 13) (by kernel_rfl) fun ac w N q306 F307 S up o308 d309 => ?_)
   have hb310 := fun b h => (⟨(up b (hNN b h).1).1, (up b (hNN b h).1).2.trans (hNN b h).2, d309 b (hNN b h).1⟩ : _ ∧ _ ∧ _)
   refine WD.sc S (fun b h => ⟨(hb310 b h).1, (hb310 b h).2.1⟩) hBB fun hC => ?_
   have d311 := Disj.w d309 o7.sub
   have d312 := Disj.w d309 o84.sub
   replace o7 := o7.up up
   replace o84 := o84.up up
   clear up d309
   exact S.wh hW [] hC fun _ S => hK271 _ _ q85 F86 q306 F307 q8 F9 _ _ _ S o84 o308 o7 d312 d305 (Disj.symm d311) hb310 hBB
  have hK313 ac w q24 F25 q8 F9 q16 F17 u N β (S : St Tryz.prog Tryz.f65.ntmps w0 NoB u N β (σ1.dl [] [(8, .v (slv h.mem.length q8.1)), (9, .v (slv 0 q16.1)), (11, .v (slv h.buf.length ph.buf.1)), (13, .v (slv 0 q24.1)), (15, .v (slv h.iobuf.length ph.iobuf.1))] 2 []) ac w) (o23 : Ow w0 NoB u N F25 ([] : List TEntry) q24) (o7 : Ow w0 NoB u N F9 h.mem q8) (o15 : Ow w0 NoB u N F17 ([] : List TEntry) q16) (d314 : Disj F25 F9) (d315 : Disj F25 F17) (d316 : Disj F9 F17) (hNN : ∀ b, N0 b → N b ∧ u.heap[b]? = u0.heap[b]? ∧ ¬ F17 b ∧ ¬ F25 b) (hBB : BB σ1.bx.length β0 β) : W 5 (mkL 14 [0, 1, 2, 3, 4, 5, 7, 8, 9]) ac w := by
   refine ox2 hW 6 12 ?_ (S.wq hW (fun b h => ⟨(hNN b h).1, (hNN b h).2.1⟩) hBB [] .nil fun _ _ _ S hB => hK292 _ _ q24 F25 q8 F9 q16 F17 _ _ _ S o23 o7 o15 d314 d315 d316 hNN hB)
   have b321 : h.buf.length ≤ 4194304 := LRd.le (RHost.buf (d := h) (S.arg hh))
   refine id (S.appFlat0 (α := TEntry) o15 (RHost.buf (d := h) (S.arg hh)) (fun _ _ h => h) (by' := 32) (d := 12) (lx := 0) (ly := h.buf.length) rfl fun ac w N q317 F318 S up o319 d320 => ?_)
   have hb322 := fun b h => (⟨(up b (hNN b h).1 (hNN b h).2.2.1).1, (up b (hNN b h).1 (hNN b h).2.2.1).2.trans (hNN b h).2.1, (hNN b h).2.2.2⟩ : _ ∧ _ ∧ _)
   refine WD.sc S (fun b h => ⟨(hb322 b h).1, (hb322 b h).2.1⟩) hBB fun hC => ?_
   have d323 := d320 _ d316 o7.sub
   have d324 := d320 _ d315 o23.sub
   replace o7 := o7.upF d316 up
   replace o23 := o23.upF d315 up
   clear up d320
   exact S.wh hW [] hC fun _ S => hK271 _ _ q317 F318 q24 F25 q8 F9 _ _ _ S o319 o23 o7 (Disj.symm d324) (Disj.symm d323) d314 hb322 hBB
  have hK325 ac w q8 F9 q16 F17 u N β (S : St Tryz.prog Tryz.f65.ntmps w0 NoB u N β (σ1.dl [] [(3, .p 2 0), (8, .v (slv h.mem.length q8.1)), (9, .v (slv 0 q16.1)), (11, .v (slv h.buf.length ph.buf.1)), (15, .v (slv h.iobuf.length ph.iobuf.1))] 3 [(2, Zc THost)]) ac w) (o7 : Ow w0 NoB u N F9 h.mem q8) (o15 : Ow w0 NoB u N F17 ([] : List TEntry) q16) (d326 : Disj F9 F17) (hNN : ∀ b, N0 b → N b ∧ u.heap[b]? = u0.heap[b]? ∧ ¬ F17 b) (hBB : BB σ1.bx.length β0 β) : W 5 (mkL 14 [0, 1, 2, 3, 4, 5, 8, 9, 12]) ac w := by
   refine ox2 hW 6 7 ?_ ?_
   ·have b331 : h.buf.length ≤ 4194304 := LRd.le (RHost.buf (d := h) (S.arg hh))
    refine id (S.appFlat0 (α := TEntry) o15 (RHost.buf (d := h) (S.arg hh)) (fun _ _ h => h) (by' := 32) (d := 12) (lx := 0) (ly := h.buf.length) rfl fun ac w N q327 F328 S up o329 d330 => ?_)
    have hb332 := fun b h => (⟨(up b (hNN b h).1 (hNN b h).2.2).1, (up b (hNN b h).1 (hNN b h).2.2).2.trans (hNN b h).2.1⟩ : _ ∧ _)
    refine WD.sc S hb332 hBB fun hC => ?_
    have d333 := d330 _ d326 o7.sub
    replace o7 := o7.upF d326 up
    clear up d330
    exact S.wh hW [] hC fun _ S => hK283 _ _ q327 F328 q8 F9 _ _ _ S o329 o7 (Disj.symm d333) hb332 hBB
   ·refine id (S.bs0 (α := TEntry) (d := 13) (by kernel_rfl) fun ac w N q334 F335 S up o336 d337 => ?_)
    have hb338 := fun b h => (⟨(up b (hNN b h).1).1, (up b (hNN b h).1).2.trans (hNN b h).2.1, (hNN b h).2.2, d337 b (hNN b h).1⟩ : _ ∧ _ ∧ _ ∧ _)
    refine WD.sc S (fun b h => ⟨(hb338 b h).1, (hb338 b h).2.1⟩) hBB fun hC => ?_
    have d339 := Disj.w d337 o7.sub
    have d340 := Disj.w d337 o15.sub
    replace o7 := o7.up up
    replace o15 := o15.up up
    clear up d337
    exact S.wh hW [] hC fun _ S => hK292 _ _ q334 F335 q8 F9 q16 F17 _ _ _ S o336 o7 o15 (Disj.symm d339) (Disj.symm d340) d326 hb338 hBB
  have hK341 ac w q24 F25 q8 F9 u N β (S : St Tryz.prog Tryz.f65.ntmps w0 NoB u N β (σ1.dl [] [(3, .p 2 0), (8, .v (slv h.mem.length q8.1)), (11, .v (slv h.buf.length ph.buf.1)), (13, .v (slv 0 q24.1)), (15, .v (slv h.iobuf.length ph.iobuf.1))] 3 [(2, Zc THost)]) ac w) (o23 : Ow w0 NoB u N F25 ([] : List TEntry) q24) (o7 : Ow w0 NoB u N F9 h.mem q8) (d342 : Disj F25 F9) (hNN : ∀ b, N0 b → N b ∧ u.heap[b]? = u0.heap[b]? ∧ ¬ F25 b) (hBB : BB σ1.bx.length β0 β) : W 5 (mkL 14 [0, 1, 2, 4, 5, 7, 8, 9, 12]) ac w := by
   refine ox1 hW 3 ?_
   refine id (S.bs0 (α := TEntry) (d := 9) (by kernel_rfl) fun ac w N q343 F344 S up o345 d346 => ?_)
   have hb347 := fun b h => (⟨(up b (hNN b h).1).1, (up b (hNN b h).1).2.trans (hNN b h).2.1, d346 b (hNN b h).1, (hNN b h).2.2⟩ : _ ∧ _ ∧ _ ∧ _)
   refine WD.sc S (fun b h => ⟨(hb347 b h).1, (hb347 b h).2.1⟩) hBB fun hC => ?_
   have d348 := Disj.w d346 o7.sub
   have d349 := Disj.w d346 o23.sub
   replace o7 := o7.up up
   replace o23 := o23.up up
   clear up d346
   exact S.wh hW [] hC fun _ S => hK292 _ _ q24 F25 q8 F9 q343 F344 _ _ _ S o23 o7 o345 d342 d349 d348 hb347 hBB
  have hK350 ac w q24 F25 q16 F17 u N β (S : St Tryz.prog Tryz.f65.ntmps w0 NoB u N β (σ1.dl [] [(3, .p 2 0), (7, .v (slv h.mem.length ph.mem.1)), (9, .v (slv 0 q16.1)), (11, .v (slv h.buf.length ph.buf.1)), (13, .v (slv 0 q24.1)), (15, .v (slv h.iobuf.length ph.iobuf.1))] 3 [(2, Zc THost)]) ac w) (o23 : Ow w0 NoB u N F25 ([] : List TEntry) q24) (o15 : Ow w0 NoB u N F17 ([] : List TEntry) q16) (d351 : Disj F25 F17) (hNN : ∀ b, N0 b → N b ∧ u.heap[b]? = u0.heap[b]? ∧ ¬ F17 b ∧ ¬ F25 b) (hBB : BB σ1.bx.length β0 β) : W 5 (mkL 14 [0, 1, 3, 4, 5, 7, 8, 9, 12]) ac w := by
   refine ox1 hW 2 ?_
   refine id (S.k1 8 (c_impl_copyMem w h.mem ph.mem (S.rd (RHost.mem (d := h) (S.arg hh)))) fun ac w N q352 F353 S up o354 d355 => ?_)
   have hb356 := fun b h => (⟨(up b (hNN b h).1).1, (up b (hNN b h).1).2.trans (hNN b h).2.1, (hNN b h).2.2.1, (hNN b h).2.2.2⟩ : _ ∧ _ ∧ _ ∧ _)
   refine WD.sc S (fun b h => ⟨(hb356 b h).1, (hb356 b h).2.1⟩) hBB fun hC => ?_
   have d357 := Disj.w d355 o15.sub
   have d358 := Disj.w d355 o23.sub
   replace o15 := o15.up up
   replace o23 := o23.up up
   clear up d355
   exact S.wh hW [] hC fun _ S => hK292 _ _ q24 F25 q352 F353 q16 F17 _ _ _ S o23 o354 o15 d358 d351 (Disj.symm d357) hb356 hBB
  have hK359 ac w q8 F9 q16 F17 u N β (S : St Tryz.prog Tryz.f65.ntmps w0 NoB u N β (σ1.dl [] [(8, .v (slv h.mem.length q8.1)), (9, .v (slv 0 q16.1)), (11, .v (slv h.buf.length ph.buf.1)), (15, .v (slv h.iobuf.length ph.iobuf.1))] 2 []) ac w) (o7 : Ow w0 NoB u N F9 h.mem q8) (o15 : Ow w0 NoB u N F17 ([] : List TEntry) q16) (d360 : Disj F9 F17) (hNN : ∀ b, N0 b → N b ∧ u.heap[b]? = u0.heap[b]? ∧ ¬ F17 b) (hBB : BB σ1.bx.length β0 β) : W 6 (mkL 14 [0, 1, 2, 3, 4, 5, 8, 9]) ac w := by
   refine ox3 hW 6 7 12 ?_ ?_ (S.wq hW (fun b h => ⟨(hNN b h).1, (hNN b h).2.1⟩) hBB [] .nil fun _ _ _ S hB => hK325 _ _ q8 F9 q16 F17 _ _ _ S o7 o15 d360 hNN hB)
   ·have b365 : h.buf.length ≤ 4194304 := LRd.le (RHost.buf (d := h) (S.arg hh))
    refine id (S.appFlat0 (α := TEntry) o15 (RHost.buf (d := h) (S.arg hh)) (fun _ _ h => h) (by' := 32) (d := 12) (lx := 0) (ly := h.buf.length) rfl fun ac w N q361 F362 S up o363 d364 => ?_)
    have hb366 := fun b h => (⟨(up b (hNN b h).1 (hNN b h).2.2).1, (up b (hNN b h).1 (hNN b h).2.2).2.trans (hNN b h).2.1⟩ : _ ∧ _)
    refine WD.sc S hb366 hBB fun hC => ?_
    have d367 := d364 _ d360 o7.sub
    replace o7 := o7.upF d360 up
    clear up d364
    exact S.wh hW [] hC fun _ S => hK304 _ _ q361 F362 q8 F9 _ _ _ S o363 o7 (Disj.symm d367) hb366 hBB
   ·refine id (S.bs0 (α := TEntry) (d := 13) (by kernel_rfl) fun ac w N q368 F369 S up o370 d371 => ?_)
    have hb372 := fun b h => (⟨(up b (hNN b h).1).1, (up b (hNN b h).1).2.trans (hNN b h).2.1, (hNN b h).2.2, d371 b (hNN b h).1⟩ : _ ∧ _ ∧ _ ∧ _)
    refine WD.sc S (fun b h => ⟨(hb372 b h).1, (hb372 b h).2.1⟩) hBB fun hC => ?_
    have d373 := Disj.w d371 o7.sub
    have d374 := Disj.w d371 o15.sub
    replace o7 := o7.up up
    replace o15 := o15.up up
    clear up d371
    exact S.wh hW [] hC fun _ S => hK313 _ _ q368 F369 q8 F9 q16 F17 _ _ _ S o370 o7 o15 (Disj.symm d373) (Disj.symm d374) d360 hb372 hBB
  have hK375 ac w q24 F25 q8 F9 u N β (S : St Tryz.prog Tryz.f65.ntmps w0 NoB u N β (σ1.dl [] [(8, .v (slv h.mem.length q8.1)), (11, .v (slv h.buf.length ph.buf.1)), (13, .v (slv 0 q24.1)), (15, .v (slv h.iobuf.length ph.iobuf.1))] 2 []) ac w) (o23 : Ow w0 NoB u N F25 ([] : List TEntry) q24) (o7 : Ow w0 NoB u N F9 h.mem q8) (d376 : Disj F25 F9) (hNN : ∀ b, N0 b → N b ∧ u.heap[b]? = u0.heap[b]? ∧ ¬ F25 b) (hBB : BB σ1.bx.length β0 β) : W 6 (mkL 14 [0, 1, 2, 4, 5, 7, 8, 9]) ac w := by
   refine ox2 hW 3 12 ?_ (S.wq hW (fun b h => ⟨(hNN b h).1, (hNN b h).2.1⟩) hBB [] .nil fun _ _ _ S hB => hK341 _ _ q24 F25 q8 F9 _ _ _ S o23 o7 d376 hNN hB)
   refine id (S.bs0 (α := TEntry) (d := 9) (by kernel_rfl) fun ac w N q377 F378 S up o379 d380 => ?_)
   have hb381 := fun b h => (⟨(up b (hNN b h).1).1, (up b (hNN b h).1).2.trans (hNN b h).2.1, d380 b (hNN b h).1, (hNN b h).2.2⟩ : _ ∧ _ ∧ _ ∧ _)
   refine WD.sc S (fun b h => ⟨(hb381 b h).1, (hb381 b h).2.1⟩) hBB fun hC => ?_
   have d382 := Disj.w d380 o7.sub
   have d383 := Disj.w d380 o23.sub
   replace o7 := o7.up up
   replace o23 := o23.up up
   clear up d380
   exact S.wh hW [] hC fun _ S => hK313 _ _ q24 F25 q8 F9 q377 F378 _ _ _ S o23 o7 o379 d376 d383 d382 hb381 hBB
  have hK384 ac w q8 F9 u N β (S : St Tryz.prog Tryz.f65.ntmps w0 NoB u N β (σ1.dl [] [(3, .p 2 0), (8, .v (slv h.mem.length q8.1)), (11, .v (slv h.buf.length ph.buf.1)), (15, .v (slv h.iobuf.length ph.iobuf.1))] 3 [(2, Zc THost)]) ac w) (o7 : Ow w0 NoB u N F9 h.mem q8) (hNN : NN N0 u0 N u) (hBB : BB σ1.bx.length β0 β) : W 6 (mkL 14 [0, 1, 2, 4, 5, 8, 9, 12]) ac w := by
   refine ox2 hW 3 7 ?_ ?_
   ·refine id (S.bs0 (α := TEntry) (d := 9) (by kernel_rfl) fun ac w N q385 F386 S up o387 d388 => ?_)
    have hb389 := fun b h => (⟨(up b (hNN b h).1).1, (up b (hNN b h).1).2.trans (hNN b h).2, d388 b (hNN b h).1⟩ : _ ∧ _ ∧ _)
    refine WD.sc S (fun b h => ⟨(hb389 b h).1, (hb389 b h).2.1⟩) hBB fun hC => ?_
    have d390 := Disj.w d388 o7.sub
    replace o7 := o7.up up
    clear up d388
    exact S.wh hW [] hC fun _ S => hK325 _ _ q8 F9 q385 F386 _ _ _ S o7 o387 d390 hb389 hBB
   ·refine id (S.bs0 (α := TEntry) (d := 13) (by kernel_rfl) fun ac w N q391 F392 S up o393 d394 => ?_)
    have hb395 := fun b h => (⟨(up b (hNN b h).1).1, (up b (hNN b h).1).2.trans (hNN b h).2, d394 b (hNN b h).1⟩ : _ ∧ _ ∧ _)
    refine WD.sc S (fun b h => ⟨(hb395 b h).1, (hb395 b h).2.1⟩) hBB fun hC => ?_
    have d396 := Disj.w d394 o7.sub
    replace o7 := o7.up up
    clear up d394
    exact S.wh hW [] hC fun _ S => hK341 _ _ q391 F392 q8 F9 _ _ _ S o393 o7 (Disj.symm d396) hb395 hBB
  have hK397 ac w q24 F25 q16 F17 u N β (S : St Tryz.prog Tryz.f65.ntmps w0 NoB u N β (σ1.dl [] [(7, .v (slv h.mem.length ph.mem.1)), (9, .v (slv 0 q16.1)), (11, .v (slv h.buf.length ph.buf.1)), (13, .v (slv 0 q24.1)), (15, .v (slv h.iobuf.length ph.iobuf.1))] 2 []) ac w) (o23 : Ow w0 NoB u N F25 ([] : List TEntry) q24) (o15 : Ow w0 NoB u N F17 ([] : List TEntry) q16) (d398 : Disj F25 F17) (hNN : ∀ b, N0 b → N b ∧ u.heap[b]? = u0.heap[b]? ∧ ¬ F17 b ∧ ¬ F25 b) (hBB : BB σ1.bx.length β0 β) : W 6 (mkL 14 [0, 1, 3, 4, 5, 7, 8, 9]) ac w := by
   refine ox2 hW 2 12 ?_ (S.wq hW (fun b h => ⟨(hNN b h).1, (hNN b h).2.1⟩) hBB [] .nil fun _ _ _ S hB => hK350 _ _ q24 F25 q16 F17 _ _ _ S o23 o15 d398 hNN hB)
   refine id (S.k1 8 (c_impl_copyMem w h.mem ph.mem (S.rd (RHost.mem (d := h) (S.arg hh)))) fun ac w N q399 F400 S up o401 d402 => ?_)
   have hb403 := fun b h => (⟨(up b (hNN b h).1).1, (up b (hNN b h).1).2.trans (hNN b h).2.1, (hNN b h).2.2.1, (hNN b h).2.2.2⟩ : _ ∧ _ ∧ _ ∧ _)
   refine WD.sc S (fun b h => ⟨(hb403 b h).1, (hb403 b h).2.1⟩) hBB fun hC => ?_
   have d404 := Disj.w d402 o15.sub
   have d405 := Disj.w d402 o23.sub
   replace o15 := o15.up up
   replace o23 := o23.up up
   clear up d402
   exact S.wh hW [] hC fun _ S => hK313 _ _ q24 F25 q399 F400 q16 F17 _ _ _ S o23 o401 o15 d405 d398 (Disj.symm d404) hb403 hBB
  have hK406 ac w q16 F17 u N β (S : St Tryz.prog Tryz.f65.ntmps w0 NoB u N β (σ1.dl [] [(3, .p 2 0), (7, .v (slv h.mem.length ph.mem.1)), (9, .v (slv 0 q16.1)), (11, .v (slv h.buf.length ph.buf.1)), (15, .v (slv h.iobuf.length ph.iobuf.1))] 3 [(2, Zc THost)]) ac w) (o15 : Ow w0 NoB u N F17 ([] : List TEntry) q16) (hNN : ∀ b, N0 b → N b ∧ u.heap[b]? = u0.heap[b]? ∧ ¬ F17 b) (hBB : BB σ1.bx.length β0 β) : W 6 (mkL 14 [0, 1, 3, 4, 5, 8, 9, 12]) ac w := by
   refine ox2 hW 2 7 ?_ ?_
   ·refine id (S.k1 8 (c_impl_copyMem w h.mem ph.mem (S.rd (RHost.mem (d := h) (S.arg hh)))) fun ac w N q407 F408 S up o409 d410 => ?_)
    have hb411 := fun b h => (⟨(up b (hNN b h).1).1, (up b (hNN b h).1).2.trans (hNN b h).2.1, (hNN b h).2.2⟩ : _ ∧ _ ∧ _)
    refine WD.sc S (fun b h => ⟨(hb411 b h).1, (hb411 b h).2.1⟩) hBB fun hC => ?_
    have d412 := Disj.w d410 o15.sub
    replace o15 := o15.up up
    clear up d410
    exact S.wh hW [] hC fun _ S => hK325 _ _ q407 F408 q16 F17 _ _ _ S o409 o15 (Disj.symm d412) hb411 hBB
   ·refine id (S.bs0 (α := TEntry) (d := 13) (by kernel_rfl) fun ac w N q413 F414 S up o415 d416 => ?_)
    have hb417 := fun b h => (⟨(up b (hNN b h).1).1, (up b (hNN b h).1).2.trans (hNN b h).2.1, (hNN b h).2.2, d416 b (hNN b h).1⟩ : _ ∧ _ ∧ _ ∧ _)
    refine WD.sc S (fun b h => ⟨(hb417 b h).1, (hb417 b h).2.1⟩) hBB fun hC => ?_
    have d418 := Disj.w d416 o15.sub
    replace o15 := o15.up up
    clear up d416
    exact S.wh hW [] hC fun _ S => hK350 _ _ q413 F414 q16 F17 _ _ _ S o415 o15 (Disj.symm d418) hb417 hBB
  have hK419 ac w q24 F25 u N β (S : St Tryz.prog Tryz.f65.ntmps w0 NoB u N β (σ1.dl [] [(3, .p 2 0), (7, .v (slv h.mem.length ph.mem.1)), (11, .v (slv h.buf.length ph.buf.1)), (13, .v (slv 0 q24.1)), (15, .v (slv h.iobuf.length ph.iobuf.1))] 3 [(2, Zc THost)]) ac w) (o23 : Ow w0 NoB u N F25 ([] : List TEntry) q24) (hNN : ∀ b, N0 b → N b ∧ u.heap[b]? = u0.heap[b]? ∧ ¬ F25 b) (hBB : BB σ1.bx.length β0 β) : W 6 (mkL 14 [0, 1, 4, 5, 7, 8, 9, 12]) ac w := by
   refine ox2 hW 2 3 ?_ ?_
   ·refine id (S.k1 8 (c_impl_copyMem w h.mem ph.mem (S.rd (RHost.mem (d := h) (S.arg hh)))) fun ac w N q420 F421 S up o422 d423 => ?_)
    have hb424 := fun b h => (⟨(up b (hNN b h).1).1, (up b (hNN b h).1).2.trans (hNN b h).2.1, (hNN b h).2.2⟩ : _ ∧ _ ∧ _)
    refine WD.sc S (fun b h => ⟨(hb424 b h).1, (hb424 b h).2.1⟩) hBB fun hC => ?_
    have d425 := Disj.w d423 o23.sub
    replace o23 := o23.up up
    clear up d423
    exact S.wh hW [] hC fun _ S => hK341 _ _ q24 F25 q420 F421 _ _ _ S o23 o422 d425 hb424 hBB
   ·refine id (S.bs0 (α := TEntry) (d := 9) (by kernel_rfl) fun ac w N q426 F427 S up o428 d429 => ?_)
    have hb430 := fun b h => (⟨(up b (hNN b h).1).1, (up b (hNN b h).1).2.trans (hNN b h).2.1, d429 b (hNN b h).1, (hNN b h).2.2⟩ : _ ∧ _ ∧ _ ∧ _)
    refine WD.sc S (fun b h => ⟨(hb430 b h).1, (hb430 b h).2.1⟩) hBB fun hC => ?_
    have d431 := Disj.w d429 o23.sub
    replace o23 := o23.up up
    clear up d429
    exact S.wh hW [] hC fun _ S => hK350 _ _ q24 F25 q426 F427 _ _ _ S o23 o428 d431 hb430 hBB
  have hK432 ac w q8 F9 u N β (S : St Tryz.prog Tryz.f65.ntmps w0 NoB u N β (σ1.dl [] [(8, .v (slv h.mem.length q8.1)), (11, .v (slv h.buf.length ph.buf.1)), (15, .v (slv h.iobuf.length ph.iobuf.1))] 2 []) ac w) (o7 : Ow w0 NoB u N F9 h.mem q8) (hNN : NN N0 u0 N u) (hBB : BB σ1.bx.length β0 β) : W 7 (mkL 14 [0, 1, 2, 4, 5, 8, 9]) ac w := by
   refine ox3 hW 3 7 12 ?_ ?_ (S.wq hW hNN hBB [] .nil fun _ _ _ S hB => hK384 _ _ q8 F9 _ _ _ S o7 hNN hB)
   ·refine id (S.bs0 (α := TEntry) (d := 9) (by kernel_rfl) fun ac w N q433 F434 S up o435 d436 => ?_)
    have hb437 := fun b h => (⟨(up b (hNN b h).1).1, (up b (hNN b h).1).2.trans (hNN b h).2, d436 b (hNN b h).1⟩ : _ ∧ _ ∧ _)
    refine WD.sc S (fun b h => ⟨(hb437 b h).1, (hb437 b h).2.1⟩) hBB fun hC => ?_
    have d438 := Disj.w d436 o7.sub
    replace o7 := o7.up up
    clear up d436
    exact S.wh hW [] hC fun _ S => hK359 _ _ q8 F9 q433 F434 _ _ _ S o7 o435 d438 hb437 hBB
   ·refine id (S.bs0 (α := TEntry) (d := 13) (by kernel_rfl) fun ac w N q439 F440 S up o441 d442 => ?_)
    have hb443 := fun b h => (⟨(up b (hNN b h).1).1, (up b (hNN b h).1).2.trans (hNN b h).2, d442 b (hNN b h).1⟩ : _ ∧ _ ∧ _)
    refine WD.sc S (fun b h => ⟨(hb443 b h).1, (hb443 b h).2.1⟩) hBB fun hC => ?_
    have d444 := Disj.w d442 o7.sub
    replace o7 := o7.up up
    clear up d442
    exact S.wh hW [] hC fun _ S => hK375 _ _ q439 F440 q8 F9 _ _ _ S o441 o7 (Disj.symm d444) hb443 hBB
  have hK445 ac w q16 F17 u N β (S : St Tryz.prog Tryz.f65.ntmps w0 NoB u N β (σ1.dl [] [(7, .v (slv h.mem.length ph.mem.1)), (9, .v (slv 0 q16.1)), (11, .v (slv h.buf.length ph.buf.1)), (15, .v (slv h.iobuf.length ph.iobuf.1))] 2 []) ac w) (o15 : Ow w0 NoB u N F17 ([] : List TEntry) q16) (hNN : ∀ b, N0 b → N b ∧ u.heap[b]? = u0.heap[b]? ∧ ¬ F17 b) (hBB : BB σ1.bx.length β0 β) : W 7 (mkL 14 [0, 1, 3, 4, 5, 8, 9]) ac w := by
   refine ox3 hW 2 7 12 ?_ ?_ (S.wq hW (fun b h => ⟨(hNN b h).1, (hNN b h).2.1⟩) hBB [] .nil fun _ _ _ S hB => hK406 _ _ q16 F17 _ _ _ S o15 hNN hB)
   ·refine id (S.k1 8 (c_impl_copyMem w h.mem ph.mem (S.rd (RHost.mem (d := h) (S.arg hh)))) fun ac w N q446 F447 S up o448 d449 => ?_)
    have hb450 := fun b h => (⟨(up b (hNN b h).1).1, (up b (hNN b h).1).2.trans (hNN b h).2.1, (hNN b h).2.2⟩ : _ ∧ _ ∧ _)
    refine WD.sc S (fun b h => ⟨(hb450 b h).1, (hb450 b h).2.1⟩) hBB fun hC => ?_
    have d451 := Disj.w d449 o15.sub
    replace o15 := o15.up up
    clear up d449
    exact S.wh hW [] hC fun _ S => hK359 _ _ q446 F447 q16 F17 _ _ _ S o448 o15 (Disj.symm d451) hb450 hBB
   ·refine id (S.bs0 (α := TEntry) (d := 13) (by kernel_rfl) fun ac w N q452 F453 S up o454 d455 => ?_)
    have hb456 := fun b h => (⟨(up b (hNN b h).1).1, (up b (hNN b h).1).2.trans (hNN b h).2.1, (hNN b h).2.2, d455 b (hNN b h).1⟩ : _ ∧ _ ∧ _ ∧ _)
    refine WD.sc S (fun b h => ⟨(hb456 b h).1, (hb456 b h).2.1⟩) hBB fun hC => ?_
    have d457 := Disj.w d455 o15.sub
    replace o15 := o15.up up
    clear up d455
    exact S.wh hW [] hC fun _ S => hK397 _ _ q452 F453 q16 F17 _ _ _ S o454 o15 (Disj.symm d457) hb456 hBB
  have hK458 ac w q24 F25 u N β (S : St Tryz.prog Tryz.f65.ntmps w0 NoB u N β (σ1.dl [] [(7, .v (slv h.mem.length ph.mem.1)), (11, .v (slv h.buf.length ph.buf.1)), (13, .v (slv 0 q24.1)), (15, .v (slv h.iobuf.length ph.iobuf.1))] 2 []) ac w) (o23 : Ow w0 NoB u N F25 ([] : List TEntry) q24) (hNN : ∀ b, N0 b → N b ∧ u.heap[b]? = u0.heap[b]? ∧ ¬ F25 b) (hBB : BB σ1.bx.length β0 β) : W 7 (mkL 14 [0, 1, 4, 5, 7, 8, 9]) ac w := by
   refine ox3 hW 2 3 12 ?_ ?_ (S.wq hW (fun b h => ⟨(hNN b h).1, (hNN b h).2.1⟩) hBB [] .nil fun _ _ _ S hB => hK419 _ _ q24 F25 _ _ _ S o23 hNN hB)
   ·refine id (S.k1 8 (c_impl_copyMem w h.mem ph.mem (S.rd (RHost.mem (d := h) (S.arg hh)))) fun ac w N q459 F460 S up o461 d462 => ?_)
    have hb463 := fun b h => (⟨(up b (hNN b h).1).1, (up b (hNN b h).1).2.trans (hNN b h).2.1, (hNN b h).2.2⟩ : _ ∧ _ ∧ _)
    refine WD.sc S (fun b h => ⟨(hb463 b h).1, (hb463 b h).2.1⟩) hBB fun hC => ?_
    have d464 := Disj.w d462 o23.sub
    replace o23 := o23.up up
    clear up d462
    exact S.wh hW [] hC fun _ S => hK375 _ _ q24 F25 q459 F460 _ _ _ S o23 o461 d464 hb463 hBB
   ·refine id (S.bs0 (α := TEntry) (d := 9) (by kernel_rfl) fun ac w N q465 F466 S up o467 d468 => ?_)
    have hb469 := fun b h => (⟨(up b (hNN b h).1).1, (up b (hNN b h).1).2.trans (hNN b h).2.1, d468 b (hNN b h).1, (hNN b h).2.2⟩ : _ ∧ _ ∧ _ ∧ _)
    refine WD.sc S (fun b h => ⟨(hb469 b h).1, (hb469 b h).2.1⟩) hBB fun hC => ?_
    have d470 := Disj.w d468 o23.sub
    replace o23 := o23.up up
    clear up d468
    exact S.wh hW [] hC fun _ S => hK397 _ _ q24 F25 q465 F466 _ _ _ S o23 o467 d470 hb469 hBB
  have hK471 ac w u N β (S : St Tryz.prog Tryz.f65.ntmps w0 NoB u N β (σ1.dl [] [(3, .p 2 0), (7, .v (slv h.mem.length ph.mem.1)), (11, .v (slv h.buf.length ph.buf.1)), (15, .v (slv h.iobuf.length ph.iobuf.1))] 3 [(2, Zc THost)]) ac w) (hNN : NN N0 u0 N u) (hBB : BB σ1.bx.length β0 β) : W 7 (mkL 14 [0, 1, 4, 5, 8, 9, 12]) ac w := by
   refine ox3 hW 2 3 7 ?_ ?_ ?_
   ·refine id (S.k1 8 (c_impl_copyMem w h.mem ph.mem (S.rd (RHost.mem (d := h) (S.arg hh)))) fun ac w N q472 F473 S up o474 d475 => ?_)
    have hb476 := fun b h => (⟨(up b (hNN b h).1).1, (up b (hNN b h).1).2.trans (hNN b h).2⟩ : _ ∧ _)
    refine WD.sc S hb476 hBB fun hC => ?_
    clear up d475
    exact S.wh hW [] hC fun _ S => hK384 _ _ q472 F473 _ _ _ S o474 hb476 hBB
   ·refine id (S.bs0 (α := TEntry) (d := 9) (by kernel_rfl) fun ac w N q477 F478 S up o479 d480 => ?_)
    have hb481 := fun b h => (⟨(up b (hNN b h).1).1, (up b (hNN b h).1).2.trans (hNN b h).2, d480 b (hNN b h).1⟩ : _ ∧ _ ∧ _)
    refine WD.sc S (fun b h => ⟨(hb481 b h).1, (hb481 b h).2.1⟩) hBB fun hC => ?_
    clear up d480
    exact S.wh hW [] hC fun _ S => hK406 _ _ q477 F478 _ _ _ S o479 hb481 hBB
   ·refine id (S.bs0 (α := TEntry) (d := 13) (by kernel_rfl) fun ac w N q482 F483 S up o484 d485 => ?_)
    have hb486 := fun b h => (⟨(up b (hNN b h).1).1, (up b (hNN b h).1).2.trans (hNN b h).2, d485 b (hNN b h).1⟩ : _ ∧ _ ∧ _)
    refine WD.sc S (fun b h => ⟨(hb486 b h).1, (hb486 b h).2.1⟩) hBB fun hC => ?_
    clear up d485
    exact S.wh hW [] hC fun _ S => hK419 _ _ q482 F483 _ _ _ S o484 hb486 hBB
  have hNN : NN N0 u0 N0 u0 := fun b h => ⟨h, rfl⟩
  have hBB : BB σ1.bx.length β0 β0 := fun _ _ => rfl
  refine ox4 hW 2 3 7 12 ?_ ?_ ?_ (S.wq hW hNN hBB [] .nil fun _ _ _ S hB => hK471 _ _ _ _ _ S hNN hB)
  ·refine id (S.k1 8 (c_impl_copyMem w h.mem ph.mem (S.rd (RHost.mem (d := h) (S.arg hh)))) fun ac w N q487 F488 S up o489 d490 => ?_)
   have hb491 := fun b h => (⟨(up b (hNN b h).1).1, (up b (hNN b h).1).2.trans (hNN b h).2⟩ : _ ∧ _)
   refine WD.sc S hb491 hBB fun hC => ?_
   clear up d490
   exact S.wh hW [] hC fun _ S => hK432 _ _ q487 F488 _ _ _ S o489 hb491 hBB
  ·refine id (S.bs0 (α := TEntry) (d := 9) (by kernel_rfl) fun ac w N q492 F493 S up o494 d495 => ?_)
   have hb496 := fun b h => (⟨(up b (hNN b h).1).1, (up b (hNN b h).1).2.trans (hNN b h).2, d495 b (hNN b h).1⟩ : _ ∧ _ ∧ _)
   refine WD.sc S (fun b h => ⟨(hb496 b h).1, (hb496 b h).2.1⟩) hBB fun hC => ?_
   clear up d495
   exact S.wh hW [] hC fun _ S => hK445 _ _ q492 F493 _ _ _ S o494 hb496 hBB
  ·refine id (S.bs0 (α := TEntry) (d := 13) (by kernel_rfl) fun ac w N q497 F498 S up o499 d500 => ?_)
   have hb501 := fun b h => (⟨(up b (hNN b h).1).1, (up b (hNN b h).1).2.trans (hNN b h).2, d500 b (hNN b h).1⟩ : _ ∧ _ ∧ _)
   refine WD.sc S (fun b h => ⟨(hb501 b h).1, (hb501 b h).2.1⟩) hBB fun hC => ?_
   clear up d500
   exact S.wh hW [] hC fun _ S => hK458 _ _ q497 F498 _ _ _ S o499 hb501 hBB
 clear S
 rintro ac w ⟨q234, F235, q237, F238, q231, F232, u, N, β, S, o233, o236, o230, d502, d503, d504⟩
 refine S.ex fun S => ?_
 refine S.go 11 .nil fun ac w β S => ?_
 have o508 := S.nilOw (α := TMon)
 refine lp (fun mm ac w => ∃ (i : Nat) (acc : List TMon) (q505 : _) (F506 : _) (u : _) (N : _) (β : _), mm = h.mons.length - i ∧ (i ≤ h.mons.length) ∧ (acc = h.mons.take i) ∧ St Tryz.prog Tryz.f65.ntmps w0 NoB u N β ⟨[(2, .p 1 0), (3, .p 2 0), (19, .v (slv h.mons.length ph.mons.1)), (20, .v (I (h.mons.length : Int))), (21, .v (I (i : Int)))], [GT.cells h ph, Zc THost, [slv h.mem.length q231.1, slv acc.length q505.1, slv h.buf.length q234.1, slv h.iobuf.length q237.1]]⟩ ac w ∧ Ow w0 NoB u N F506 acc q505 ∧ Ow w0 NoB u N F232 h.mem q231 ∧ Ow w0 NoB u N F235 h.buf q234 ∧ Ow w0 NoB u N F238 h.iobuf q237 ∧ Disj F506 F232 ∧ Disj F506 F235 ∧ Disj F506 F238) _ ⟨0, ([] : List TMon), (GT.pdflt (α := List TMon)), NoB, _, _, _, rfl, o0, (by rfl), S.z, o508, o230, o233, o236, (Disj.symm (fun b _ h => False.elim h)), (Disj.symm (fun b _ h => False.elim h)), (Disj.symm (fun b _ h => False.elim h))⟩ ?_
 clear S o230 o233 o236 o508
 rintro f512 mm hf513 ac w ⟨i, acc, q505, F506, u, N, β, rfl, hi, hacc, S, o507, o230, o233, o236, d509, d510, d511⟩
 refine S.rs fun S => ?_
 have hlacc : acc.length = i := by rw [hacc]; simp; omega
 refine S.gd 6 .nil (decide ((i : Int) < (h.mons.length : Int))) (fun ac w β h514 g515 S => ?_) (fun ac w β h514 g515 S => ?_)
 ·refine S.go 13 (.cons (qn (RHost.mons (d := h) (S.arg hh)) i Tryz.underlying57) (.cons (qs (RHost.mons (d := h) (S.arg hh)) 99 i) .nil)) fun ac w β S => ?_
  refine drw ?_
  refine S.draw0 (f := 8) 5 (by kernel_rfl) (by kernel_rfl) fun w S => ?_
  refine S.hq 0 [1, 0] [] [(25, .p 2 1)] .nil fun ac S => ?_
  refine S.hq 1 [1] [] [(26, .v (slv acc.length q505.1))] .nil fun ac S => ?_
  refine S.hq 2 [3, 2] [] [(27, .v (GT.val (el h.mons i) (ph.mons.2 i)))] .nil fun ac S => ?_
  refine WD.one (i := 3) (by kernel_rfl) ?_
  refine id (S.k1 28 (c_impl_copyMon w (el h.mons i) (ph.mons.2 i) (S.rd (LRd.el (RHost.mons (d := h) (S.arg hh)) i (by omega)))) fun ac w N q516 F517 S up o518 d519 => ?_)
  refine WD.next S up (by kernel_rfl) ?_
  have d520 := Disj.w d519 o507.sub
  have d521 := Disj.w d519 o230.sub
  have d522 := Disj.w d519 o233.sub
  have d523 := Disj.w d519 o236.sub
  replace o507 := o507.up up
  replace o230 := o230.up up
  replace o233 := o233.up up
  replace o236 := o236.up up
  clear up d519
  refine WD.one (i := 4) (by kernel_rfl) ?_
  refine id (S.bs1 (α := TMon) (x := (el h.mons i)) (p := q516) o518.own o518.sub o518.young (d := 29) (by kernel_rfl) fun ac w N q524 F525 S up o526 d527 => ?_)
  refine WD.next S up (by kernel_rfl) ?_
  have d528 := d527 _ d520 o507.sub
  have d529 := d527 _ d521 o230.sub
  have d530 := d527 _ d522 o233.sub
  have d531 := d527 _ d523 o236.sub
  replace o507 := o507.up up
  replace o230 := o230.up up
  replace o233 := o233.up up
  replace o236 := o236.up up
  clear up d527
  refine WD.one (i := 5) (by kernel_rfl) ?_
  refine id (S.appOwn (α := TMon) o507 o526 d528 (by' := 168) (d := 30) (lx := acc.length) (ly := 1) rfl rfl (by kernel_rfl) (show _ ≤ 4194304 by simp only [List.length_append, List.length_cons, List.length_nil]; omega) fun ac w N q532 F533 S up o534 d535 => ?_)
  refine WD.last (by kernel_rfl) ?_
  have d536 := d535 _ (Disj.symm d509) d529 o230.sub
  have d537 := d535 _ (Disj.symm d510) d530 o233.sub
  have d538 := d535 _ (Disj.symm d511) d531 o236.sub
  replace o230 := o230.upF (Disj.symm d509) up
  replace o233 := o233.upF (Disj.symm d510) up
  replace o236 := o236.upF (Disj.symm d511) up
  clear up d535
  refine S.sl 6 [] [(31, .p 2 1)] 4 [] .nil fun ac w β S => ?_
  refine S.sl 7 [] [] 4 [(2, [slv h.mem.length q231.1, slv (acc ++ [(el h.mons i)]).length q532.1, slv h.buf.length q234.1, slv h.iobuf.length q237.1])] .nil fun ac w β S => ?_
  refine WD.done (by kernel_rfl) ?_ _
  refine S.ex fun S => ?_
  refine S.ge 6 (.cons (qp (i : Int) 1) .nil) f512 fun ac w β S => hf513.of (h.mons.length - (i + 1)) _ _ (by omega) ⟨i + 1, (acc ++ [(el h.mons i)]), q532, F533, _, _, _, rfl, ?_, ?_, S.z, o534, o230, o233, o236, (Disj.symm d536), (Disj.symm d537), (Disj.symm d538)⟩
  ·exact oz
  ·clear S; (first | (rw [take_el (by omega), hacc]; done) | (rw [take_el (by omega), hacc]; simp; done))
 refine S.gr 13 .nil [GT.val (⟨h.mem, acc, h.buf, h.iobuf⟩ : THost) (⟨q231, q505, q234, q237⟩ : PHost)] fun ac w β S => ?_
 have o539 := ow_Host (x := (⟨h.mem, acc, h.buf, h.iobuf⟩ : THost)) (p := (⟨q231, q505, q234, q237⟩ : PHost)) o230 o507 o233 o236 (Disj.symm d509) (Disj.symm d503) (Disj.symm d504) d510 d511 d502 
 exact ret1_of S (show h = (⟨h.mem, acc, h.buf, h.iobuf⟩ : THost) by clear S; (rw [hacc, take_all (by omega)]; first | done | rfl | (simp; done))) rfl o539

theorem k0_impl_BufferOk {p : Prop} (h : p := by clear S; (first | (unfold f_bufferOk; rw [show b.length = i by omega, he]; first | rfl | (simp [*]; done) | (simp; omega) | (rw [Bool.eq_iff_iff]; simp; omega)) | (unfold f_bufferOk; rw [rng_bad (k := i) (by omega) (rng_bad (k := k) (by omega) (by simp_all <;> fail))]; rfl))) : p := h
theorem c_impl_BufferOk (w0 : World) (b : List TEntry) (pb : LP TEntry) (hb : RD w0 b pb) : Calls Tryz.prog 137 [slv b.length pb.1].toArray w0 (fun e w' => e = .returned (B (f_bufferOk b)) ∧ Chg NoB w0 w') := by
 refine Calls.run NoB Tryz.func137 ?_
 intro ac β S
 have hleb : b.length ≤ 4194304 := LRd.le hb
 refine S.go 14 .nil fun ac w β S => ?_
 refine lp (fun mm ac w => ∃ (i : Nat)  (u : _) (N : _) (β : _), mm = b.length - i ∧ (i ≤ b.length) ∧ ((List.range i).all (fun i => (List.range i).all fun k => !(decide ((el b i).tag = (el b k).tag) && decide ((el b i).page = (el b k).page))) = true) ∧ St Tryz.prog Tryz.f137.ntmps w0 NoB u N β ⟨[(0, .v (slv b.length pb.1)), (7, .v (slv b.length pb.1)), (8, .v (I (b.length : Int))), (9, .v (I (i : Int)))], []⟩ ac w) _ ⟨0, _, _, _, rfl, o0, (by rfl), S.z⟩ ?_
 clear S
 rintro f1 mm hf2 ac w ⟨i, u, N, β, rfl, hi, he, S⟩
 refine S.rs fun S => ?_
 refine S.gd 6 .nil (decide ((i : Int) < (b.length : Int))) (fun ac w β h3 g4 S => ?_) (fun ac w β h3 g4 S => ?_)
 ·have l5 : (b.take i).length = i - 0 := by first | (simp; done) | (simp; omega)
  refine S.go 25 (.cons (qn (S.arg hb) i Tryz.underlying58) (.cons (qs (S.arg hb) 155 i) (.cons (Q_slice (S.arg hb) (l := b.length) (a := 0) (b := i) rfl (.inl ⟨rfl, rfl⟩) (.inr rfl) (by omega) (by omega) Tryz.underlying58 (by kernel_rfl)) .nil))) fun ac w β S => ?_
  refine lp (fun mm ac w => ∃ (k : Nat)  (u : _) (N : _) (β : _), mm = i - k ∧ (k ≤ i) ∧ ((List.range k).all (fun k => !(decide ((el b i).tag = (el b k).tag) && decide ((el b i).page = (el b k).page))) = true) ∧ St Tryz.prog Tryz.f137.ntmps w0 NoB u N β ⟨[(0, .v (slv b.length pb.1)), (4, .p 0 0), (7, .v (slv b.length pb.1)), (8, .v (I (b.length : Int))), (9, .v (I (i : Int))), (16, .v (slv i (pb.1.sl 0 4))), (17, .v (I (i : Int))), (18, .v (I (k : Int)))], [GT.cells (el b i) ()]⟩ ac w) _ ⟨0, _, _, _, rfl, o0, (by rfl), S.z⟩ ?_
  clear S
  rintro f6 mm hf7 ac w ⟨k, u, N, β, rfl, hk, he2, S⟩
  refine S.rs fun S => ?_
  have eltk : k < i → el (b.take i) k = el b k := fun h => el_take h
  refine S.gd 6 .nil (decide ((k : Int) < (i : Int))) (fun ac w β h8 g9 S => ?_) (fun ac w β h8 g9 S => ?_)
  ·refine S.gd 21 (.cons (Q_idx (show GT.rd KK _ _ (b.take i) ((pb.1.sl 0 4, fun i => pb.2 (0 + i)) : LP TEntry) from rd_sl (S.arg hb) (a := 0) (b := i) (by omega) (by omega)) (l := i) (k := k) (i := (k : Int)) (by omega) rfl (by omega) Tryz.underlying58 (by kernel_rfl)) (.cons (qs (show GT.rd KK _ _ (b.take i) ((pb.1.sl 0 4, fun i => pb.2 (0 + i)) : LP TEntry) from rd_sl (S.arg hb) (a := 0) (b := i) (by omega) (by omega)) 155 k) .nil)) ((el b i).tag == (el (b.take i) k).tag) (fun ac w β h10 g11 S => ?_) (fun ac w β h10 g11 S => ?_)
   ·refine S.gd 8 .nil ((el b i).page == (el (b.take i) k).page) (fun ac w β h12 g13 S => ?_) (fun ac w β h12 g13 S => ?_)
    ·exact S.gf 7 .nil [B false] (retB k0_impl_BufferOk)
    refine S.ge 8 (.cons (qp (k : Int) 1) .nil) f6 fun ac w β S => hf7.of (i - (k + 1)) _ _ (by omega) ⟨k + 1, _, _, _, rfl, ?_, ?_, S.z⟩
    ·exact oz
    ·clear S; (refine rng_step he2 ?_; simp_all)
   refine S.ge 16 (.cons (qp (k : Int) 1) .nil) f6 fun ac w β S => hf7.of (i - (k + 1)) _ _ (by omega) ⟨k + 1, _, _, _, rfl, ?_, ?_, S.z⟩
   ·exact oz
   ·clear S; (refine rng_step he2 ?_; simp_all)
  refine S.ge 11 (.cons (qp (i : Int) 1) .nil) f1 fun ac w β S => hf2.of (b.length - (i + 1)) _ _ (by omega) ⟨i + 1, _, _, _, rfl, ?_, ?_, S.z⟩
  ·exact oz
  ·clear S; (refine rng_step he ?_); (have e : k = i := (by omega)); rw [e] at he2; exact he2
 exact S.gf 15 .nil [B (decide ((b.length : Int) ≤ 6))] (retB k0_impl_BufferOk)

theorem c_impl_RightsOk (w0 : World) (r : Int) : Calls Tryz.prog 177 [I r].toArray w0 (fun e w' => e = .returned (B (f_within r 0 3)) ∧ Chg NoB w0 w') := by
 refine Calls.run NoB Tryz.func177 ?_
 intro ac β S
 exact S.gf 13 (.cons (Q_call fun w hw => c_impl_within w r 0 3) .nil) [B (f_within r 0 3)] (retB (by clear S; first | rfl | (simp [f_within, *]; done) | (simp [f_within, *]; omega) | (simp_all [f_within]; done) | (simp_all [f_within]; omega)))

theorem k0_impl_Enough {p : Prop} (h : p := by clear S; first | rfl | (simp [f_enough, *]; done) | (simp [f_enough, *]; omega) | (simp_all [f_enough]; done) | (simp_all [f_enough]; omega)) : p := h
theorem c_impl_Enough (w0 : World) (rights : Int) (need : Int) : Calls Tryz.prog 129 [I rights, I need].toArray w0 (fun e w' => e = .returned (B (f_enough rights need)) ∧ Chg NoB w0 w') := by
 refine Calls.run NoB Tryz.func129 ?_
 intro ac β S
 refine S.gb 10 (.cons (Q_call fun w hw => c_impl_RightsOk w rights) .nil) (f_within rights 0 3) (fun ac w β h1 S => ?_) (fun ac w β h1 S => ?_)
 ·have g2 := within_t h1
  refine S.gb 4 (.cons (Q_call fun w hw => c_impl_RightsOk w need) .nil) (f_within need 0 3) (fun ac w β h3 S => ?_) (fun ac w β h3 S => ?_)
  ·have g4 := within_t h3
   exact S.gf 10 (.cons (Q_land64 (x := rights) (y := need)) .nil) [B ((land64 rights need) == need)] (retB k0_impl_Enough)
  have g5 := within_f h3
  exact S.gf 10 .nil [B false] (retB k0_impl_Enough)
 have g6 := within_f h1
 exact S.gf 14 .nil [B false] (retB k0_impl_Enough)

theorem k0_impl_MonOk {p : Prop} (h : p := by clear S; (symm; rw [← Bool.not_eq_true]; intro hc; simp only [f_monOk, f_monHead, f_monTail, Bool.and_eq_true, decide_eq_true_eq, beq_iff_eq] at hc; first | omega | (simp_all; done) | (simp_all; omega) | (have hx := all_el (k := k) hc.1.2 (by omega); simp_all; done) | (have hx := rng_el (k := j) hc.2 (by omega); unfold f_pageSlot at hx; split at hx <;> first | (simp_all; done) | (simp_all; omega)))) : p := h
theorem c_impl_MonOk (w0 : World) (m : TMon) (pm : PMon) (hm : RD w0 m pm) : Calls Tryz.prog 138 [GT.val m pm].toArray w0 (fun e w' => e = .returned (B (f_monOk m)) ∧ Chg NoB w0 w') := by
 refine Calls.run NoB Tryz.func138 ?_
 intro ac β S
 have hlem_outer : m.outer.length ≤ 4194304 := LRd.le (RMon.outer (d := m) hm)
 have hlem_out : m.out.length ≤ 4194304 := LRd.le (RMon.out (d := m) hm)
 have hlem_dirty : m.dirty.length ≤ 4194304 := LRd.le (RMon.dirty (d := m) hm)
 have hlem_guests : m.guests.length ≤ 4194304 := LRd.le (RMon.guests (d := m) hm)
 have hlem_outs : m.outs.length ≤ 4194304 := LRd.le (RMon.outs (d := m) hm)
 have hlem_tables : m.tables.length ≤ 4194304 := LRd.le (RMon.tables (d := m) hm)
 refine S.gb 15 (.cons (Q_call fun w hw => c_impl_within w (m.guests.length : Int) 1 2) .nil) (!(f_within (m.guests.length : Int) 1 2)) (fun ac w β h1 S => ?_) (fun ac w β h1 S => ?_)
 ·have h2 := not_t h1
  have g3 := within_f h2
  exact S.gf 59 .nil [B false] (retB k0_impl_MonOk)
 have h4 := not_f h1
 have g5 := within_t h4
 refine S.gd 9 .nil ((m.tables.length : Int) != (m.guests.length : Int)) (fun ac w β h6 g7 S => ?_) (fun ac w β h6 g7 S => ?_)
 ·exact S.gf 50 .nil [B false] (retB k0_impl_MonOk)
 refine S.gb 6 (.cons (Q_call fun w hw => c_impl_TableOk w m.outer pm.outer (rd_of (RMon.outer (d := m) (S.arg hm)) hw) 8 12 (by omega) (by omega)) .nil) (!(f_tableOk m.outer 8 12)) (fun ac w β h8 S => ?_) (fun ac w β h8 S => ?_)
 ·have h9 := not_t h8
  exact S.gf 44 .nil [B false] (retB k0_impl_MonOk)
 have h10 := not_f h8
 have g11 := tableOk_t h10
 refine S.gd 6 .nil ((m.out.length : Int) != 8) (fun ac w β h12 g13 S => ?_) (fun ac w β h12 g13 S => ?_)
 ·exact S.gf 38 .nil [B false] (retB k0_impl_MonOk)
 refine S.gd 6 .nil ((m.dirty.length : Int) != 8) (fun ac w β h14 g15 S => ?_) (fun ac w β h14 g15 S => ?_)
 ·exact S.gf 32 .nil [B false] (retB k0_impl_MonOk)
 refine S.gd 6 .nil (decide ((m.outs.length : Int) > 40)) (fun ac w β h16 g17 S => ?_) (fun ac w β h16 g17 S => ?_)
 ·exact S.gf 26 .nil [B false] (retB k0_impl_MonOk)
 refine S.gb 6 (.cons (Q_call fun w hw => c_impl_PendOk w m.pend) .nil) (!(f_within m.pend 0 255)) (fun ac w β h18 S => ?_) (fun ac w β h18 S => ?_)
 ·have h19 := not_t h18
  have g20 := within_f h19
  exact S.gf 20 .nil [B false] (retB k0_impl_MonOk)
 have h21 := not_f h18
 have g22 := within_t h21
 refine S.gb 6 (.cons (Q_call fun w hw => c_impl_within w m.traps 0 3) .nil) (!(f_within m.traps 0 3)) (fun ac w β h23 S => ?_) (fun ac w β h23 S => ?_)
 ·have h24 := not_t h23
  have g25 := within_f h24
  exact S.gf 14 .nil [B false] (retB k0_impl_MonOk)
 have h26 := not_f h23
 have g27 := within_t h26
 refine S.gb 7 (.cons (Q_call fun w hw => c_impl_within w m.owned 0 1000000000) .nil) (!(f_within m.owned 0 1000000000)) (fun ac w β h28 S => ?_) (fun ac w β h28 S => ?_)
 ·have h29 := not_t h28
  have g30 := within_f h29
  exact S.gf 7 .nil [B false] (retB k0_impl_MonOk)
 have h31 := not_f h28
 have g32 := within_t h31
 refine S.go 13 .nil fun ac w β S => ?_
 refine lp (fun mm ac w => ∃ (k : Nat)  (u : _) (N : _) (β : _), mm = m.guests.length - k ∧ (k ≤ m.guests.length) ∧ ((m.guests.take k).all f_guestOk = true) ∧ St Tryz.prog Tryz.f138.ntmps w0 NoB u N β ⟨[(1, .p 0 0), (64, .v (slv m.guests.length pm.guests.1)), (65, .v (I (m.guests.length : Int))), (66, .v (I (k : Int)))], [GT.cells m pm]⟩ ac w) _ ⟨0, _, _, _, rfl, o0, (by simp), S.z⟩ ?_
 clear S
 rintro f33 mm hf34 ac w ⟨k, u, N, β, rfl, hk, he, S⟩
 refine S.rs fun S => ?_
 refine S.gd 6 .nil (decide ((k : Int) < (m.guests.length : Int))) (fun ac w β h35 g36 S => ?_) (fun ac w β h35 g36 S => ?_)
 ·refine S.gb 20 (.cons (qn (RMon.guests (d := m) (S.arg hm)) k Tryz.underlying25) (.cons (qs (RMon.guests (d := m) (S.arg hm)) 51 k) (.cons (Q_call fun w hw => c_impl_GuestOk w (el m.guests k) (pm.guests.2 k) (rd_of (LRd.el (RMon.guests (d := m) (S.arg hm)) k (by omega)) hw)) .nil))) (!(f_guestOk (el m.guests k))) (fun ac w β h37 S => ?_) (fun ac w β h37 S => ?_)
  ·have h38 := not_t h37
   exact S.gf 7 .nil [B false] (retB k0_impl_MonOk)
  have h39 := not_f h37
  refine S.ge 8 (.cons (qp (k : Int) 1) .nil) f33 fun ac w β S => hf34.of (m.guests.length - (k + 1)) _ _ (by omega) ⟨k + 1, _, _, _, rfl, ?_, ?_, S.z⟩
  ·exact oz
  ·clear S; exact all_step (by omega) he (by first | assumption | (simp only [f_slotOk, f_within] at *; simp_all; done) | (simp_all; done) | (simp_all; omega))
 refine S.go 16 .nil fun ac w β S => ?_
 refine lp (fun mm ac w => ∃ (j : Nat)  (u : _) (N : _) (β : _), mm = m.outer.length - j ∧ (j ≤ m.outer.length) ∧ ((List.range j).all (f_pageSlot m) = true) ∧ St Tryz.prog Tryz.f138.ntmps w0 NoB u N β ⟨[(1, .p 0 0), (75, .v (slv m.outer.length pm.outer.1)), (76, .v (I (m.outer.length : Int))), (77, .v (I (j : Int)))], [GT.cells m pm]⟩ ac w) _ ⟨0, _, _, _, rfl, o0, (by rfl), S.z⟩ ?_
 clear S
 rintro f40 mm hf41 ac w ⟨j, u, N, β, rfl, hj, hp, S⟩
 refine S.rs fun S => ?_
 have hlo : m.outer.length = 8 := by omega
 have hlu : m.out.length = 8 := by omega
 refine S.gd 6 .nil (decide ((j : Int) < (m.outer.length : Int))) (fun ac w β h42 g43 S => ?_) (fun ac w β h42 g43 S => ?_)
 ·refine S.gb 18 (.cons (qn (RMon.outer (d := m) (S.arg hm)) j Tryz.underlying45) (.cons (qs (RMon.outer (d := m) (S.arg hm)) 44 j) (.cons (Q_call fun w hw => c_impl_NoSlot w ) (.cons (Eq_eq_Slot (t := 44) (el m.outer j) (⟨-1, 0⟩ : TSlot) (by kernel_rfl)) .nil)))) (decide ((el m.outer j) = (⟨-1, 0⟩ : TSlot))) (fun ac w β h44 S => ?_) (fun ac w β h44 S => ?_)
  ·refine S.gb 12 (.cons (qn (RMon.out (d := m) (S.arg hm)) j Tryz.underlying24) (.cons (qx (RMon.out (d := m) (S.arg hm)) 26 j) (.cons (Q_call fun w hw => c_impl_PageOk w (el m.out j) (pm.out.2 j) (rd_of (LRd.el (RMon.out (d := m) (S.arg hm)) j (by omega)) hw)) .nil))) (!(f_pageOk (el m.out j))) (fun ac w β h45 S => ?_) (fun ac w β h45 S => ?_)
   ·have h46 := not_t h45
    exact S.gf 7 .nil [B false] (retB k0_impl_MonOk)
   have h47 := not_f h45
   refine S.ge 8 (.cons (qp (j : Int) 1) .nil) f40 fun ac w β S => hf41.of (m.outer.length - (j + 1)) _ _ (by omega) ⟨j + 1, _, _, _, rfl, ?_, ?_, S.z⟩
   ·exact oz
   ·clear S; (refine rng_step hp ?_; unfold f_pageSlot; (repeat' split) <;> first | (exfalso; simp_all; done) | (simp_all; done) | (simp_all; omega))
  refine S.gb 8 (.cons (Q_call fun w hw => c_impl_Enough w (el m.outer j).rights 1) .nil) (!(f_enough (el m.outer j).rights 1)) (fun ac w β h48 S => ?_) (fun ac w β h48 S => ?_)
  ·have h49 := not_t h48
   exact S.gf 17 .nil [B false] (retB k0_impl_MonOk)
  have h50 := not_f h48
  have g51 := enough_t h50
  have b52 : (el m.out j).length ≤ 4194304 := LRd.le (LRd.el (RMon.out (d := m) (S.arg hm)) j (by omega))
  refine S.gd 10 (.cons (qn (RMon.out (d := m) (S.arg hm)) j Tryz.underlying24) (.cons (qx (RMon.out (d := m) (S.arg hm)) 26 j) .nil)) (decide (((el m.out j).length : Int) > 0)) (fun ac w β h53 g54 S => ?_) (fun ac w β h53 g54 S => ?_)
  ·exact S.gf 7 .nil [B false] (retB k0_impl_MonOk)
  refine S.ge 8 (.cons (qp (j : Int) 1) .nil) f40 fun ac w β S => hf41.of (m.outer.length - (j + 1)) _ _ (by omega) ⟨j + 1, _, _, _, rfl, ?_, ?_, S.z⟩
  ·exact oz
  ·clear S; (refine rng_step hp ?_; unfold f_pageSlot; (repeat' split) <;> first | (exfalso; simp_all; done) | (simp_all; done) | (simp_all; omega))
 exact S.gf 12 .nil [B true] (retB (by clear S; (first | rfl | (symm; simp only [f_monOk, f_monHead, f_monTail, Bool.and_eq_true, decide_eq_true_eq, beq_iff_eq]; (repeat' apply And.intro); all_goals first | assumption | omega | (simp_all; done) | (simp_all; omega) | (exact all_end (by omega) he) | ((have e8 : j = 8 := (by omega)); subst e8; exact hp)))))

theorem k0_impl_HostOk {p : Prop} (h : p := by clear S; (first | (symm; rw [← Bool.not_eq_true]; intro hc; simp only [f_hostOk, f_hostHead, Bool.and_eq_true] at hc; (first | (simp_all; done) | (simp_all; omega))) | (rw [hostOk_dead (fold_dead (k := i) (by omega) stepMon_none hu (stepMon_bad (by assumption)))]) | (rw [hostOk_dead (fold_dead (k := i) (by omega) stepMon_none hu ((stepMon_ok hmok).trans (fold_dead (k := k) (by omega) stepSlot_none hu2 (stepSlot_hit (by omega) (by assumption)))))]) | (unfold f_hostOk f_hostUsed f_hostHead; rw [take_all (by omega)] at hu; rw [hu]; simp_all; done))) : p := h
theorem c_impl_HostOk (w0 : World) (h : THost) (ph : PHost) (hh : RD w0 h ph) : Calls Tryz.prog 75 [GT.val h ph].toArray w0 (fun e w' => e = .returned (B (f_hostOk h)) ∧ Chg NoB w0 w') := by
 refine Calls.run NoB Tryz.func75 ?_
 intro ac β S
 have hleh_mem : h.mem.length ≤ 4194304 := LRd.le (RHost.mem (d := h) hh)
 have hleh_mons : h.mons.length ≤ 4194304 := LRd.le (RHost.mons (d := h) hh)
 have hleh_buf : h.buf.length ≤ 4194304 := LRd.le (RHost.buf (d := h) hh)
 have hleh_iobuf : h.iobuf.length ≤ 4194304 := LRd.le (RHost.iobuf (d := h) hh)
 refine S.gb 14 (.cons (Q_call fun w hw => c_impl_MemOk w h.mem ph.mem (rd_of (RHost.mem (d := h) (S.arg hh)) hw) 12) .nil) (!(f_memOk h.mem 12)) (fun ac w β h1 S => ?_) (fun ac w β h1 S => ?_)
 ·have h2 := not_t h1
  exact S.gf 27 .nil [B false] (retB k0_impl_HostOk)
 have h3 := not_f h1
 refine S.gb 7 (.cons (Q_call fun w hw => c_impl_within w (h.mons.length : Int) 1 3) .nil) (!(f_within (h.mons.length : Int) 1 3)) (fun ac w β h4 S => ?_) (fun ac w β h4 S => ?_)
 ·have h5 := not_t h4
  have g6 := within_f h5
  exact S.gf 20 .nil [B false] (retB k0_impl_HostOk)
 have h7 := not_f h4
 have g8 := within_t h7
 refine S.gb 6 (.cons (Q_call fun w hw => c_impl_BufferOk w h.buf ph.buf (rd_of (RHost.buf (d := h) (S.arg hh)) hw)) .nil) (!(f_bufferOk h.buf)) (fun ac w β h9 S => ?_) (fun ac w β h9 S => ?_)
 ·have h10 := not_t h9
  exact S.gf 14 .nil [B false] (retB k0_impl_HostOk)
 have h11 := not_f h9
 refine S.gb 7 (.cons (Q_call fun w hw => c_impl_BufferOk w h.iobuf ph.iobuf (rd_of (RHost.iobuf (d := h) (S.arg hh)) hw)) .nil) (!(f_bufferOk h.iobuf)) (fun ac w β h12 S => ?_) (fun ac w β h12 S => ?_)
 ·have h13 := not_t h12
  exact S.gf 7 .nil [B false] (retB k0_impl_HostOk)
 have h14 := not_f h12
 refine S.go 5 .nil fun ac w β S => S.Mk (α := Bool) (m := 12) (by' := 1) (d := 31) (by omega) (show 12 ≤ 4194304 by omega) fun ac w N q15 F16 S up o17 d18 => ?_
 clear up d18
 refine S.go 13 .nil fun ac w β S => ?_
 refine lp (fun mm ac w => ∃ (i : Nat) (us : List Bool) (q19 : _) (F20 : _) (u : _) (N : _) (β : _), mm = h.mons.length - i ∧ (i ≤ h.mons.length) ∧ ((h.mons.take i).foldl stepMon (some (List.replicate 12 false)) = some us) ∧ (us.length = 12) ∧ St Tryz.prog Tryz.f75.ntmps w0 NoB u N β ⟨[(3, .v (slv 12 q19.1)), (33, .v (slv h.mons.length ph.mons.1)), (34, .v (I (h.mons.length : Int))), (35, .v (I (i : Int)))], [GT.cells h ph]⟩ ac w ∧ Ow w0 NoB u N F20 us q19) _ ⟨0, (List.replicate 12 (GT.dflt : Bool)), q15, F16, _, _, _, rfl, o0, (by rfl), (by rfl), S.z, o17⟩ ?_
 clear S o17
 rintro f22 mm hf23 ac w ⟨i, us, q19, F20, u, N, β, rfl, hi, hu, hul, S, o21⟩
 refine S.rs fun S => ?_
 refine S.gd 6 .nil (decide ((i : Int) < (h.mons.length : Int))) (fun ac w β h24 g25 S => ?_) (fun ac w β h24 g25 S => ?_)
 ·refine S.gb 21 (.cons (qn (RHost.mons (d := h) (S.arg hh)) i Tryz.underlying57) (.cons (qs (RHost.mons (d := h) (S.arg hh)) 99 i) (.cons (Q_call fun w hw => c_impl_MonOk w (el h.mons i) (ph.mons.2 i) (rd_of (LRd.el (RHost.mons (d := h) (S.arg hh)) i (by omega)) hw)) .nil))) (!(f_monOk (el h.mons i))) (fun ac w β h26 S => ?_) (fun ac w β h26 S => ?_)
  ·have h27 := not_t h26
   exact S.gf 7 .nil [B false] (retB k0_impl_HostOk)
  have h28 := not_f h26
  have g29 := monOk_t h28
  have b30 : (el h.mons i).outer.length ≤ 4194304 := LRd.le (RMon.outer (d := (el h.mons i)) (LRd.el (RHost.mons (d := h) (S.arg hh)) i (by omega)))
  refine S.go 12 .nil fun ac w β S => ?_
  refine lp (fun mm ac w => ∃ (k : Nat) (us2 : List Bool) (q31 : _) (F32 : _) (u : _) (N : _) (β : _), mm = (el h.mons i).outer.length - k ∧ (k ≤ (el h.mons i).outer.length) ∧ (((el h.mons i).outer.take k).foldl stepSlot (some us) = some us2) ∧ (us2.length = 12) ∧ St Tryz.prog Tryz.f75.ntmps w0 NoB u N β ⟨[(3, .v (slv 12 q31.1)), (33, .v (slv h.mons.length ph.mons.1)), (34, .v (I (h.mons.length : Int))), (35, .v (I (i : Int))), (43, .v (slv (el h.mons i).outer.length (ph.mons.2 i).outer.1)), (44, .v (I ((el h.mons i).outer.length : Int))), (45, .v (I (k : Int)))], [GT.cells h ph, GT.cells (el h.mons i) (ph.mons.2 i)]⟩ ac w ∧ Ow w0 NoB u N F32 us2 q31) _ ⟨0, us, q19, F20, _, _, _, rfl, o0, (by rfl), (by omega), S.z, o21⟩ ?_
  clear S o21
  rintro f34 mm hf35 ac w ⟨k, us2, q31, F32, u, N, β, rfl, hk, hu2, hul2, S, o33⟩
  refine S.rs fun S => ?_
  have hmok : f_monOk (el h.mons i) = true := by assumption
  have hpg := page_lt hmok k
  have hol := (monOk_t hmok).1
  refine S.gd 6 .nil (decide ((k : Int) < ((el h.mons i).outer.length : Int))) (fun ac w β h36 g37 S => ?_) (fun ac w β h36 g37 S => ?_)
  ·refine S.gd 21 (.cons (qn (RMon.outer (d := (el h.mons i)) (LRd.el (RHost.mons (d := h) (S.arg hh)) i (by omega))) k Tryz.underlying45) (.cons (qs (RMon.outer (d := (el h.mons i)) (LRd.el (RHost.mons (d := h) (S.arg hh)) i (by omega))) 44 k) .nil)) (decide ((el (el h.mons i).outer k).page < 0)) (fun ac w β h38 g39 S => ?_) (fun ac w β h38 g39 S => ?_)
   ·refine S.ge 9 (.cons (qp (k : Int) 1) .nil) f34 fun ac w β S => hf35.of ((el h.mons i).outer.length - (k + 1)) _ _ (by omega) ⟨k + 1, us2, q31, F32, _, _, _, rfl, ?_, ?_, ?_, S.z, o33⟩
    ·exact oz
    ·clear S; (rw [fold_step (by omega), hu2]; first | exact stepSlot_neg (by omega) | exact stepSlot_new (by omega) (by assumption) | exact stepSlot_new (by omega) (by simp_all))
    ·clear S; (first | omega | (simp; omega))
   refine S.gb 13 (.cons (Q_idx o33.rn (l := 12) (k := (el (el h.mons i).outer k).page.toNat) (i := (el (el h.mons i).outer k).page) (by omega) (by omega) (by omega) Tryz.underlying66 (by kernel_rfl)) (.cons (qx o33.rn 4 ((el (el h.mons i).outer k).page.toNat)) .nil)) (el us2 (el (el h.mons i).outer k).page.toNat) (fun ac w β h40 S => ?_) (fun ac w β h40 S => ?_)
   ·exact S.gf 7 .nil [B false] (retB k0_impl_HostOk)
   refine S.go 8 (.cons (Q_idx o33.rn (l := 12) (k := (el (el h.mons i).outer k).page.toNat) (i := (el (el h.mons i).outer k).page) (by omega) (by omega) (by omega) Tryz.underlying66 (by kernel_rfl)) .nil) fun ac w β S => S.SF (α := Bool) o33 (t := 4) (k := (el (el h.mons i).outer k).page.toNat) (j := 0) (off := q31.1.off + (el (el h.mons i).outer k).page.toNat * 1) (v := B true) (y := true) (q := ()) (fun _ _ _ => ⟨NoB, trivial, fun _ h => False.elim h⟩) fun w N F42 q43 S up o41 d44 s45 n46 => ?_
   clear up d44 o33 n46
   have l47 : (us2.set (el (el h.mons i).outer k).page.toNat true).length = us2.length := List.length_set
   refine S.ge 7 (.cons (qp (k : Int) 1) .nil) f34 fun ac w β S => hf35.of ((el h.mons i).outer.length - (k + 1)) _ _ (by omega) ⟨k + 1, (us2.set (el (el h.mons i).outer k).page.toNat true), (q31.1, q43), F42, _, _, _, rfl, ?_, ?_, ?_, S.z, o41⟩
   ·exact oz
   ·clear S; (rw [fold_step (by omega), hu2]; first | exact stepSlot_neg (by omega) | exact stepSlot_new (by omega) (by assumption) | exact stepSlot_new (by omega) (by simp_all))
   ·clear S; (first | omega | (simp; omega))
  refine S.ge 11 (.cons (qp (i : Int) 1) .nil) f22 fun ac w β S => hf23.of (h.mons.length - (i + 1)) _ _ (by omega) ⟨i + 1, us2, q31, F32, _, _, _, rfl, ?_, ?_, ?_, S.z, o33⟩
  ·exact oz
  ·clear S; (rw [fold_step (by omega), hu, stepMon_ok (by assumption)]; rw [take_all (by omega)] at hu2; exact hu2)
  ·clear S; omega
 exact S.gf 12 .nil [B true] (retB k0_impl_HostOk)

end Go.Proofs.YtgonaioedbphgaaGreat
