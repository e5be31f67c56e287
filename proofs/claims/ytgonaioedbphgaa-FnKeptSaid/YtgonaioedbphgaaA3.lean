/- The walks: what each function that the laws reach computes (part 1). -/
import Derived.Test.YtgonaioedbphgaaA1
import Derived.Test.YtgonaioedbphgaaA2
import Derived.Test.YtgonaioedbphgaaProg
import Derived.KernelRfl
namespace Go.Proofs.Ytgonaioedbphgaa
open Go
set_option linter.unusedVariables false
set_option linter.unusedSimpArgs false
set_option maxRecDepth 100000
set_option maxHeartbeats 2000000

theorem c_laws_big (w0 : World) (code : List TByte) (pcode : LP TByte) (hcode : GT.rd KR (Lt w0.heap.size) w0 code pcode) : Calls Try.prog 6 [slv code.length pcode.1].toArray w0 (fun e w' => e = .returned (B (decide (((code.length : Nat) : Int) > 1048576))) ∧ Chg NoB w0 w') := by
 refine Calls.run NoB Try.func6 ?_
 intro ac β S
 have hlecode : code.length ≤ 9223372036854775807 := LRd.le hcode
 exact S.gf 14 .nil [B (decide ((code.length : Int) > 1048576))] (retB (by clear S; rfl))

theorem c_spec_l01Once (w0 : World) (bs : List TByte) (pbs : LP TByte) (G F : Bl) (q : LP TCur) (hc : Cu bs pbs G F w0 q) (n : Int) (hn : In64 n) : Calls Try.prog 134 [pt q.1.b (q.1.off + 0 * 3), I n].toArray w0 (RetD1 bs pbs G F q w0 (fun (r : Bool) => True)) := by
 refine Calls.run F Try.func134 ?_
 intro ac β S
 have oc := hc.oc
 have hlon := hn.lo; have hhin := hn.hi
 refine S.go 9 .nil fun ac w β S => S.KD1 (d := 7) oc (c_spec_l01Below w bs pbs G F q (S.cu oc) n hn) fun ac w N x1 q2 F3 S h6 up o4 d5 ocn => ?_
 replace oc := ocn
 clear up d5
 have i7 : In64 x1 := o4.own
 have l8 := i7.lo; have l9 := i7.hi
 refine S.gr 5 .nil [B (x1 == 0)] fun ac w β S => ?_
 exact retD1_of (F1 := NoB) (p := ()) S (show True by clear S; trivial) rfl ⟨trivial, fun _ h => False.elim h, fun _ h => False.elim h⟩ (fun b h _ => False.elim h) oc

theorem c_spec_NoSlot (w0 : World)  : Calls Try.prog 58 [].toArray w0 (fun e w' => e = .returned (GT.val (⟨-1, 0⟩ : TSlot) ()) ∧ Chg NoB w0 w') := by
 refine Calls.run NoB Try.func58 ?_
 intro ac β S
 exact S.gf 12 (.cons (Q_sem (s := Instr.build 54 [(0, I (-1))].toArray) (v := .agg [I (-1), I 0].toArray) (fun w => by kernel_rfl)) .nil) [GT.val (⟨(-1), 0⟩ : TSlot) ()] (retV (p := ()) (by clear S; first | rfl | (simp [id, *]; done) | (simp [id, *]; omega) | (simp_all [id]; done) | (simp_all [id]; omega)))

theorem c_spec_l01PickInt (w0 : World) (bs : List TByte) (pbs : LP TByte) (G F : Bl) (q : LP TCur) (hc : Cu bs pbs G F w0 q) (list : List Int) (plist : LP Int) (Glist : Bl) (hlist : GT.rd KK Glist w0 list plist) (glist : ∀ b, Glist b → b < w0.heap.size ∧ ¬ F b) (pre0 : 0 < list.length) : Calls Try.prog 92 [pt q.1.b (q.1.off + 0 * 3), slv list.length plist.1].toArray w0 (RetD1 bs pbs G F q w0 (fun (r : Int) => ∃ k, k < list.length ∧ r = el list k)) := by
 refine Calls.run F Try.func92 ?_
 intro ac β S
 have oc := hc.oc
 have hlelist : list.length ≤ 4194304 := LRd.le hlist
 refine S.go 11 .nil fun ac w β S => S.KD1 (d := 9) oc (c_spec_l01Below w bs pbs G F q (S.cu oc) (list.length : Int) ⟨by omega, by omega⟩) fun ac w N x1 q2 F3 S h6 up o4 d5 ocn => ?_
 replace oc := ocn
 clear up d5
 have i7 : In64 x1 := o4.own
 have l8 := i7.lo; have l9 := i7.hi
 refine S.gr 6 (.cons (qt (S.argG hlist glist) x1 Try.underlying24) (.cons (qx (S.argG hlist glist) 3 x1.toNat) .nil)) [I (el list x1.toNat)] fun ac w β S => ?_
 exact retD1_of (F1 := NoB) (p := ()) S (show ∃ k, k < list.length ∧ (el list x1.toNat) = el list k by clear S; first | exact ⟨_, by omega, rfl⟩ | trivial) rfl ⟨(LRd.el (S.argG hlist glist) x1.toNat (by omega)), fun _ h => False.elim h, fun _ h => False.elim h⟩ (fun b h _ => False.elim h) oc

theorem c_spec_l03Slot (w0 : World) (bs : List TByte) (pbs : LP TByte) (G F : Bl) (q : LP TCur) (hc : Cu bs pbs G F w0 q) (pages : Int) (hpages : In64 pages) : Calls Try.prog 117 [pt q.1.b (q.1.off + 0 * 3), I pages].toArray w0 (RetD1 bs pbs G F q w0 (fun (r : TSlot) => True)) := by
 refine Calls.run F Try.func117 ?_
 intro ac β S
 have oc := hc.oc
 have hlopages := hpages.lo; have hhipages := hpages.hi
 refine S.go 9 .nil fun ac w β S => S.KD1 (d := 6) oc (c_spec_l01Once w bs pbs G F q (S.cu oc) 5 (show In64 5 from ⟨by decide, by decide⟩)) fun ac w N x1 q2 F3 S h6 up o4 d5 ocn => ?_
 replace oc := ocn
 clear up d5
 refine S.gb 2 .nil x1 (fun ac w β h7 S => ?_) (fun ac w β h7 S => ?_)
 ·refine S.gr 8 (.cons (Q_call fun w hw => c_spec_NoSlot w ) .nil) [GT.val (⟨-1, 0⟩ : TSlot) ()] fun ac w β S => ?_
  exact retD1_of (F1 := NoB) (p := ()) S (show True by clear S; trivial) rfl ⟨(show RSlot ⟨-1, 0⟩ from ⟨⟨by decide, by decide⟩, ⟨by decide, by decide⟩⟩), fun _ h => False.elim h, fun _ h => False.elim h⟩ (fun b h _ => False.elim h) oc
 refine S.go 7 .nil fun ac w β S => S.KD1 (d := 10) oc (c_spec_l01Below w bs pbs G F q (S.cu oc) pages hpages) fun ac w N x8 q9 F10 S h13 up o11 d12 ocn => ?_
 replace oc := ocn
 clear up d12
 have i14 : In64 x8 := o11.own
 have l15 := i14.lo; have l16 := i14.hi
 refine S.go 1 .nil fun ac w β S => S.BF ([3, 3, 3, 1, 2] : List Int) () (d := 12) (List.forall_mem_cons.2 ⟨fun _ => (show In64 3 from ⟨by decide, by decide⟩), List.forall_mem_cons.2 ⟨fun _ => (show In64 3 from ⟨by decide, by decide⟩), List.forall_mem_cons.2 ⟨fun _ => (show In64 3 from ⟨by decide, by decide⟩), List.forall_mem_cons.2 ⟨fun _ => (show In64 1 from ⟨by decide, by decide⟩), List.forall_mem_cons.2 ⟨fun _ => (show In64 2 from ⟨by decide, by decide⟩), List.forall_mem_nil _⟩⟩⟩⟩⟩) (show 5 ≤ 4194304 by decide) fun ac w N q17 F18 S up o19 d20 => ?_
 have d21 := Disj.w d20 oc.sub
 replace oc := oc.up up
 clear up d20
 refine S.KD1 (d := 13) oc (c_spec_l01PickInt w bs pbs G F q (S.cu oc) ([3, 3, 3, 1, 2] : List Int) q17 F18 (GT.own_rd (S.ownw o19)) (fun b hb => ⟨(S.sep b (o19.sub b hb)).1, (Disj.symm d21) b hb⟩) (by first | omega | decide | (simp; done))) fun ac w N x22 q23 F24 S h27 up o25 d26 ocn => ?_
 replace oc := ocn
 clear up d26
 have i28 : In64 x22 := o25.own
 have l29 := i28.lo; have l30 := i28.hi
 refine S.gr 5 (.cons (Q_sem (s := Instr.build 54 [(0, I x8), (1, I x22)].toArray) (v := .agg [I x8, I x22].toArray) (fun w => by kernel_rfl)) .nil) [GT.val (⟨x8, x22⟩ : TSlot) ()] fun ac w β S => ?_
 exact retD1_of (F1 := NoB) (p := ()) S (show True by clear S; trivial) rfl ⟨(show RSlot (⟨x8, x22⟩ : TSlot) from ⟨i14, i28⟩), fun _ h => False.elim h, fun _ h => False.elim h⟩ (fun b h _ => False.elim h) oc

theorem c_spec_l03Table (w0 : World) (bs : List TByte) (pbs : LP TByte) (G F : Bl) (q : LP TCur) (hc : Cu bs pbs G F w0 q) (size : Int) (hsize : In64 size) (pages : Int) (hpages : In64 pages) (pre0 : 0 ≤ size ∧ size ≤ 1000) : Calls Try.prog 89 [pt q.1.b (q.1.off + 0 * 3), I size, I pages].toArray w0 (RetD1 bs pbs G F q w0 (fun (r : List TSlot) => r.length = size.toNat)) := by
 refine Calls.run F Try.func89 ?_
 intro ac β S
 have oc := hc.oc
 have hlosize := hsize.lo; have hhisize := hsize.hi
 have hlopages := hpages.lo; have hhipages := hpages.hi
 refine S.go 7 .nil fun ac w β S => S.B0 (α := TSlot) (d := 9) fun ac w N q1 F2 S up o3 d4 => ?_
 have d5 := Disj.w d4 oc.sub
 replace oc := oc.up up
 clear up d4
 refine S.go 10 .nil fun ac w β S => ?_
 refine lp (fun mm ac w => ∃ (k : Nat) (acc : List TSlot) (q6 : _) (F7 : _) (u : _) (N : _) (β : _), mm = size.toNat - k ∧ (k ≤ size.toNat) ∧ (acc.length = k) ∧ St Try.prog Try.f89.ntmps w0 F u N β ⟨[(0, .v (pt q.1.b (q.1.off + 0 * 3))), (1, .v (I size)), (2, .v (I pages)), (7, .v (slv acc.length q6.1)), (8, .v (I (k : Int)))], []⟩ ac w ∧ Ow w0 F u N F7 acc q6 ∧ Oc bs pbs G w0 F u N F q ∧ Disj F7 F) _ ⟨0, ([] : List TSlot), q1, F2, _, _, _, rfl, o0, (by rfl), S.z, o3, oc, (Disj.symm d5)⟩ ?_
 clear S o3 oc
 rintro f10 mm hf11 ac w ⟨k, acc, q6, F7, u, N, β, rfl, hk, hl, S, o8, oc, d9⟩
 refine S.rs fun S => ?_
 refine S.gd 8 .nil (decide ((k : Int) < size)) (fun ac w β h12 g13 S => ?_) (fun ac w β h12 g13 S => ?_)
 ·refine S.go 9 .nil fun ac w β S => S.KD1 (d := 18) oc (c_spec_l03Slot w bs pbs G F q (S.cu oc) pages hpages) fun ac w N x14 q15 F16 S h19 up o17 d18 ocn => ?_
  replace o8 := o8.upF d9 up
  replace oc := ocn
  clear up d18
  have i20 : RSlot x14 := o17.own
  refine S.B1 (α := TSlot) (x := x14) (p := ()) (F := NoB) i20 (fun b h => False.elim h) (fun b h => False.elim h) (d := 19) fun ac w N q21 F22 S up o23 d24 => ?_
  replace o8 := o8.up up
  replace oc := oc.up up
  clear up d24
  refine S.AF (α := TSlot) o8 o23.rn (fun _ _ h => h) (by' := 16) (d := 20) (lx := acc.length) (ly := 1) rfl rfl (show _ ≤ 4194304 by simp only [List.length_append, List.length_cons, List.length_nil]; omega) fun ac w N q27 F28 S up o29 d30 => ?_
  have d31 := d30 _ (Disj.symm d9) oc.sub
  replace oc := oc.upF (Disj.symm d9) up
  clear up d30
  refine S.ge 9 (.cons (qp (k : Int) 1) .nil) f10 fun ac w β S => hf11.of (size.toNat - (k + 1)) _ _ (by omega) ⟨k + 1, (acc ++ [x14]), q27, F28, _, _, _, rfl, ?_, ?_, S.z, o29, oc, (Disj.symm d31)⟩
  ·exact oz
  ·clear S; (simp; omega)
 refine S.gr 13 .nil [slv acc.length q6.1] fun ac w β S => ?_
 exact retD1_of S (show acc.length = size.toNat by clear S; omega) rfl o8 d9 oc

theorem k0_spec_Brought {p : Prop} (h : p := by clear S; (unfold f_brought; (repeat' split) <;> first | rfl | omega | (exfalso; simp_all; omega))) : p := h
theorem c_spec_Brought (w0 : World) (n : Int) (a : Int) (b : Int) : Calls Try.prog 97 [I n, I a, I b].toArray w0 (fun e w' => e = .returned (I (f_brought n a b)) ∧ Chg NoB w0 w') := by
 refine Calls.run NoB Try.func97 ?_
 intro ac β S
 refine S.gd 12 .nil (decide (b < a)) (fun ac w β h1 g2 S => ?_) (fun ac w β h1 g2 S => ?_)
 ·exact S.gf 14 .nil [I a] (retI k0_spec_Brought)
 refine S.gd 6 .nil (decide (n < a)) (fun ac w β h3 g4 S => ?_) (fun ac w β h3 g4 S => ?_)
 ·exact S.gf 8 .nil [I a] (retI k0_spec_Brought)
 refine S.gd 11 .nil (decide (n > b)) (fun ac w β h5 g6 S => ?_) (fun ac w β h5 g6 S => ?_)
 ·exact S.gf 8 .nil [I b] (retI k0_spec_Brought)
 exact S.gf 10 .nil [I n] (retI k0_spec_Brought)

theorem c_spec_TableNew (w0 : World) (n : Int) : Calls Try.prog 64 [I n].toArray w0 (Ret1 NoB w0 ((List.replicate (f_brought n 0 24).toNat (⟨-1, 0⟩ : TSlot)) : List TSlot)) := by
 refine Calls.run NoB Try.func64 ?_
 intro ac β S
 refine S.go 7 .nil fun ac w β S => S.B0 (α := TSlot) (d := 5) fun ac w N q1 F2 S up o3 d4 => ?_
 clear up d4
 refine S.go 12 (.cons (Q_call fun w hw => c_spec_Brought w n 0 24) .nil) fun ac w β S => ?_
 refine lp (fun mm ac w => ∃ (i : Int) (acc : List TSlot) (q5 : _) (F6 : _) (u : _) (N : _) (β : _), mm = i.toNat ∧ (0 ≤ i ∧ i ≤ f_brought n 0 24) ∧ (acc = List.replicate (f_brought n 0 24 - i).toNat (⟨-1, 0⟩ : TSlot)) ∧ St Try.prog Try.f64.ntmps w0 NoB u N β ⟨[(3, .v (slv acc.length q5.1)), (4, .v (I i))], []⟩ ac w ∧ Ow w0 NoB u N F6 acc q5) _ ⟨(f_brought n 0 24), ([] : List TSlot), q1, F2, _, _, _, rfl, (by (have hb := brought_bd n); omega), (by (rw [show (f_brought n 0 24 - f_brought n 0 24).toNat = 0 by omega]; rfl)), S.z, o3⟩ ?_
 clear S o3
 rintro f8 mm hf9 ac w ⟨i, acc, q5, F6, u, N, β, rfl, hi, hacc, S, o7⟩
 refine S.rs fun S => ?_
 have hb := brought_bd n
 have hlacc : acc.length ≤ 24 := by rw [hacc, List.length_replicate]; omega
 refine S.gd 7 .nil (decide (i > 0)) (fun ac w β h10 g11 S => ?_) (fun ac w β h10 g11 S => ?_)
 ·refine S.go 8 (.cons (Q_call fun w hw => c_spec_NoSlot w ) .nil) fun ac w β S => S.B1 (α := TSlot) (x := (⟨-1, 0⟩ : TSlot)) (p := ()) (F := NoB) (show RSlot ⟨-1, 0⟩ from ⟨⟨by decide, by decide⟩, ⟨by decide, by decide⟩⟩) (fun b h => False.elim h) (fun b h => False.elim h) (d := 14) fun ac w N q12 F13 S up o14 d15 => ?_
  replace o7 := o7.up up
  clear up d15
  refine S.AF (α := TSlot) o7 o14.rn (fun _ _ h => h) (by' := 16) (d := 15) (lx := acc.length) (ly := 1) rfl rfl (show _ ≤ 4194304 by simp only [List.length_append, List.length_cons, List.length_nil]; omega) fun ac w N q17 F18 S up o19 d20 => ?_
  clear up d20
  refine S.ge 9 (.cons (qm i 1) .nil) f8 fun ac w β S => hf9.of (i - 1).toNat _ _ (by omega) ⟨(i - 1), (acc ++ [((⟨-1, 0⟩ : TSlot))]), q17, F18, _, _, _, rfl, ?_, ?_, S.z, o19⟩
  ·clear S; omega
  ·clear S; (rw [hacc]; exact (repl_next (by omega)).symm)
 refine S.gr 13 .nil [slv acc.length q5.1] fun ac w β S => ?_
 exact ret1_of S (show (List.replicate (f_brought n 0 24).toNat (⟨-1, 0⟩ : TSlot)) = acc by clear S; (rw [hacc, show i = 0 by omega, Int.sub_zero])) rfl o7

theorem c_spec_KeptNew (w0 : World) (n : Int) : Calls Try.prog 32 [I n].toArray w0 (Ret1 NoB w0 (f_keptNew n : TKept)) := by
 refine Calls.run NoB Try.func32 ?_
 intro ac β S
 have hb := brought_bd n
 have b1 := (List.length_replicate : (List.replicate (f_brought n 0 24).toNat (⟨-1, 0⟩ : TSlot)).length = (f_brought n 0 24).toNat)
 refine S.go 8 .nil fun ac w β S => S.K1 (r := (List.replicate (f_brought n 0 24).toNat (⟨-1, 0⟩ : TSlot))) (d := 5) (c_spec_TableNew w n) fun ac w N q2 F3 S up o4 d5 => ?_
 clear up d5
 refine S.go 7 .nil fun ac w β S => S.Mk (α := Bool) (m := (List.replicate (f_brought n 0 24).toNat (⟨-1, 0⟩ : TSlot)).length) (by' := 1) (d := 8) (by omega) (show (List.replicate (f_brought n 0 24).toNat (⟨-1, 0⟩ : TSlot)).length ≤ 4194304 by omega) fun ac w N q6 F7 S up o8 d9 => ?_
 have d10 := Disj.w d9 o4.sub
 replace o4 := o4.up up
 clear up d9
 replace S := S.z (σ' := ⟨[(2, .p 0 0), (3, .v (slv (List.replicate (f_brought n 0 24).toNat (⟨-1, 0⟩ : TSlot)).length q2.1)), (7, .v (I ((List.replicate (f_brought n 0 24).toNat (⟨-1, 0⟩ : TSlot)).length : Int))), (8, .v (slv (List.replicate (f_brought n 0 24).toNat (⟨-1, 0⟩ : TSlot)).length q6.1))], [Zc TKept]⟩)
 replace S := S.cast (σ' := ⟨[(2, .p 0 0), (3, .v (slv (List.replicate (f_brought n 0 24).toNat (⟨-1, 0⟩ : TSlot)).length q2.1)), (7, .v (I ((List.replicate (f_brought n 0 24).toNat (⟨-1, 0⟩ : TSlot)).length : Int))), (8, .v (slv (List.replicate (List.replicate (f_brought n 0 24).toNat (⟨-1, 0⟩ : TSlot)).length (GT.dflt : Bool)).length q6.1))], [Zc TKept]⟩) (by rw [show (List.replicate (List.replicate (f_brought n 0 24).toNat (⟨-1, 0⟩ : TSlot)).length (GT.dflt : Bool)).length = (List.replicate (f_brought n 0 24).toNat (⟨-1, 0⟩ : TSlot)).length from List.length_replicate])
 refine S.is fun S => ?_
 refine S.gr 6 (.cons (Q_sem (s := Instr.build 45 [(0, slv (List.replicate (List.replicate (f_brought n 0 24).toNat (⟨-1, 0⟩ : TSlot)).length (GT.dflt : Bool)).length q6.1), (1, slv (List.replicate (f_brought n 0 24).toNat (⟨-1, 0⟩ : TSlot)).length q2.1)].toArray) (v := .agg [slv (List.replicate (List.replicate (f_brought n 0 24).toNat (⟨-1, 0⟩ : TSlot)).length (GT.dflt : Bool)).length q6.1, slv (List.replicate (f_brought n 0 24).toNat (⟨-1, 0⟩ : TSlot)).length q2.1].toArray) (fun w => by kernel_rfl)) .nil) [GT.val (⟨(List.replicate (List.replicate (f_brought n 0 24).toNat (⟨-1, 0⟩ : TSlot)).length (GT.dflt : Bool)), (List.replicate (f_brought n 0 24).toNat (⟨-1, 0⟩ : TSlot))⟩ : TKept) (⟨q6, q2⟩ : PKept)] fun ac w β S => ?_
 have o11 := ow_Kept (x := (⟨(List.replicate (List.replicate (f_brought n 0 24).toNat (⟨-1, 0⟩ : TSlot)).length (GT.dflt : Bool)), (List.replicate (f_brought n 0 24).toNat (⟨-1, 0⟩ : TSlot))⟩ : TKept)) (p := (⟨q6, q2⟩ : PKept)) o8 o4 (Disj.symm d10) 
 exact ret1_of S (show f_keptNew n = (⟨(List.replicate (List.replicate (f_brought n 0 24).toNat (⟨-1, 0⟩ : TSlot)).length (GT.dflt : Bool)), (List.replicate (f_brought n 0 24).toNat (⟨-1, 0⟩ : TSlot))⟩ : TKept) by clear S; (first | rfl | (unfold f_keptNew; rw [List.length_replicate]; rfl))) rfl o11

theorem c_spec_l07Copy (w0 : World) (k : TKept) (pk : PKept) (hk : RD w0 k pk) : Calls Try.prog 55 [GT.val k pk].toArray w0 (Ret1 NoB w0 (k : TKept)) := by
 refine Calls.run NoB Try.func55 ?_
 intro ac β S
 have hlek_known : k.known.length ≤ 4194304 := LRd.le (RKept.known (d := k) hk)
 have hlek_slots : k.slots.length ≤ 4194304 := LRd.le (RKept.slots (d := k) hk)
 refine S.go 7 .nil fun ac w β S => ?_
 refine drw ?_
 let σ1 : Sy := ⟨[(1, .p 0 0), (2, .p 1 0)], [GT.cells k pk, Zc TKept]⟩
 obtain ⟨u0, N0, β0, S⟩ : ∃ u0 N0 β0, St Try.prog Try.f55.ntmps w0 NoB u0 N0 β0 σ1 ac w := ⟨_, _, _, S.z⟩
 refine wp_region_cut (fun ac w => ∃ q69 F70 q72 F73 u N β, St Try.prog Try.f55.ntmps w0 NoB u N β (σ1.dl [1] [] 2 [(1, [slv k.known.length q69.1, slv k.slots.length q72.1])]) ac w ∧ Ow w0 NoB u N F70 k.known q69 ∧ Ow w0 NoB u N F73 k.slots q72 ∧ Disj F70 F73) ?_ ?_
 ·refine S.draw0 (f := 10) 9 (by kernel_rfl) (by kernel_rfl) fun w S => ?_
  refine S.hq 1 [1] [] [(4, .p 0 0)] .nil fun ac S => ?_
  refine S.hq 2 [2] [] [(5, .v (slv k.known.length pk.known.1))] .nil fun ac S => ?_
  refine S.hq 5 [5] [] [(8, .p 0 1)] .nil fun ac S => ?_
  refine S.hq 6 [6] [] [(9, .v (slv k.slots.length pk.slots.1))] .nil fun ac S => ?_
  refine WD.nameW fun W hW => ?_
  refine WD.castW (l' := mkL 10 [1, 2, 5, 6]) (by kernel_rfl) ?_
  have hK74 ac w q69 F70 q72 F73 u N β (S : St Try.prog Try.f55.ntmps w0 NoB u N β (σ1.dl [1] [] 2 [(1, [slv k.known.length q69.1, slv k.slots.length q72.1])]) ac w) (o68 : Ow w0 NoB u N F70 k.known q69) (o71 : Ow w0 NoB u N F73 k.slots q72) (d75 : Disj F70 F73) : W 0 (mkL 10 [0, 1, 2, 3, 4, 5, 6, 7, 8, 9]) ac w := by
   exact od hW ⟨rfl, q69, F70, q72, F73, _, _, _, S.z, o68, o71, d75⟩
  have hK76 ac w q63 F64 q66 F67 u N β (S : St Try.prog Try.f55.ntmps w0 NoB u N β (σ1.dl [1] [(11, .v (GT.val (⟨k.known, k.slots⟩ : TKept) (⟨q63, q66⟩ : PKept)))] 2 []) ac w) (o62 : Ow w0 NoB u N F64 k.known q63) (o65 : Ow w0 NoB u N F67 k.slots q66) (d77 : Disj F64 F67) (hNN : NN N0 u0 N u) (hBB : BB σ1.bx.length β0 β) : W 1 (mkL 10 [0, 1, 2, 3, 4, 5, 6, 7, 8]) ac w := by
   exact ox1 hW 9 (S.wl hW [] .nil fun _ _ _ S => hK74 _ _ q63 F64 q66 F67 _ _ _ S o62 o65 d77)
  have hK78 ac w q60 F61 q25 F26 u N β (S : St Try.prog Try.f55.ntmps w0 NoB u N β (σ1.dl [1] [(6, .v (slv k.known.length q25.1)), (10, .v (slv k.slots.length q60.1))] 2 []) ac w) (o59 : Ow w0 NoB u N F61 k.slots q60) (o24 : Ow w0 NoB u N F26 k.known q25) (d79 : Disj F61 F26) (hNN : NN N0 u0 N u) (hBB : BB σ1.bx.length β0 β) : W 2 (mkL 10 [0, 1, 2, 3, 4, 5, 6, 7]) ac w := by
   exact ox1 hW 8 (S.wq hW hNN hBB [] (.cons (Q_sem (s := Instr.build 45 [(0, slv k.known.length q25.1), (1, slv k.slots.length q60.1)].toArray) (v := .agg [slv k.known.length q25.1, slv k.slots.length q60.1].toArray) (fun w => by kernel_rfl)) .nil) fun _ _ _ S hB => hK76 _ _ q25 F26 q60 F61 _ _ _ S o24 o59 (Disj.symm d79) hNN hB)
  have hK80 ac w q25 F26 q16 F17 u N β (S : St Try.prog Try.f55.ntmps w0 NoB u N β (σ1.dl [1] [(6, .v (slv k.known.length q25.1)), (7, .v (slv 0 q16.1)), (9, .v (slv k.slots.length pk.slots.1))] 2 []) ac w) (o24 : Ow w0 NoB u N F26 k.known q25) (o15 : Ow w0 NoB u N F17 ([] : List TSlot) q16) (d81 : Disj F26 F17) (hNN : ∀ b, N0 b → N b ∧ u.heap[b]? = u0.heap[b]? ∧ ¬ F17 b) (hBB : BB σ1.bx.length β0 β) : W 3 (mkL 10 [0, 1, 2, 3, 4, 5, 6]) ac w := by
   refine ox1 hW 7 ?_
   have b86 : k.slots.length ≤ 4194304 := LRd.le (RKept.slots (d := k) (S.arg hk))
   refine id (S.appFlat0 (α := TSlot) o15 (RKept.slots (d := k) (S.arg hk)) (fun _ _ h => h) (by' := 16) (d := 10) (lx := 0) (ly := k.slots.length) rfl fun ac w N q82 F83 S up o84 d85 => ?_)
   have hb87 := fun b h => (⟨(up b (hNN b h).1 (hNN b h).2.2).1, (up b (hNN b h).1 (hNN b h).2.2).2.trans (hNN b h).2.1⟩ : _ ∧ _)
   refine WD.sc S hb87 hBB fun hC => ?_
   have d88 := d85 _ d81 o24.sub
   replace o24 := o24.upF d81 up
   clear up d85
   exact S.wh hW [] hC fun _ S => hK78 _ _ q82 F83 q25 F26 _ _ _ S o84 o24 (Disj.symm d88) hb87 hBB
  have hK89 ac w q25 F26 u N β (S : St Try.prog Try.f55.ntmps w0 NoB u N β (σ1.dl [1] [(6, .v (slv k.known.length q25.1)), (9, .v (slv k.slots.length pk.slots.1))] 2 []) ac w) (o24 : Ow w0 NoB u N F26 k.known q25) (hNN : NN N0 u0 N u) (hBB : BB σ1.bx.length β0 β) : W 4 (mkL 10 [0, 1, 2, 3, 5, 6]) ac w := by
   refine ox1 hW 4 ?_
   refine id (S.bs0 (α := TSlot) (d := 7) (by kernel_rfl) fun ac w N q90 F91 S up o92 d93 => ?_)
   have hb94 := fun b h => (⟨(up b (hNN b h).1).1, (up b (hNN b h).1).2.trans (hNN b h).2, d93 b (hNN b h).1⟩ : _ ∧ _ ∧ _)
   refine WD.sc S (fun b h => ⟨(hb94 b h).1, (hb94 b h).2.1⟩) hBB fun hC => ?_
   have d95 := Disj.w d93 o24.sub
   replace o24 := o24.up up
   clear up d93
   exact S.wh hW [] hC fun _ S => hK80 _ _ q25 F26 q90 F91 _ _ _ S o24 o92 d95 hb94 hBB
  have hK96 ac w q8 F9 q16 F17 u N β (S : St Try.prog Try.f55.ntmps w0 NoB u N β (σ1.dl [1] [(3, .v (slv 0 q8.1)), (5, .v (slv k.known.length pk.known.1)), (7, .v (slv 0 q16.1)), (9, .v (slv k.slots.length pk.slots.1))] 2 []) ac w) (o7 : Ow w0 NoB u N F9 ([] : List Bool) q8) (o15 : Ow w0 NoB u N F17 ([] : List TSlot) q16) (d97 : Disj F9 F17) (hNN : ∀ b, N0 b → N b ∧ u.heap[b]? = u0.heap[b]? ∧ ¬ F9 b ∧ ¬ F17 b) (hBB : BB σ1.bx.length β0 β) : W 4 (mkL 10 [0, 1, 2, 4, 5, 6]) ac w := by
   refine ox1 hW 3 ?_
   have b102 : k.known.length ≤ 4194304 := LRd.le (RKept.known (d := k) (S.arg hk))
   refine id (S.appFlat0 (α := Bool) o7 (RKept.known (d := k) (S.arg hk)) (fun _ _ h => h) (by' := 1) (d := 6) (lx := 0) (ly := k.known.length) rfl fun ac w N q98 F99 S up o100 d101 => ?_)
   have hb103 := fun b h => (⟨(up b (hNN b h).1 (hNN b h).2.2.1).1, (up b (hNN b h).1 (hNN b h).2.2.1).2.trans (hNN b h).2.1, (hNN b h).2.2.2⟩ : _ ∧ _ ∧ _)
   refine WD.sc S (fun b h => ⟨(hb103 b h).1, (hb103 b h).2.1⟩) hBB fun hC => ?_
   have d104 := d101 _ (Disj.symm d97) o15.sub
   replace o15 := o15.upF (Disj.symm d97) up
   clear up d101
   exact S.wh hW [] hC fun _ S => hK80 _ _ q98 F99 q16 F17 _ _ _ S o100 o15 (Disj.symm d104) hb103 hBB
  have hK105 ac w q8 F9 u N β (S : St Try.prog Try.f55.ntmps w0 NoB u N β (σ1.dl [1] [(3, .v (slv 0 q8.1)), (5, .v (slv k.known.length pk.known.1)), (9, .v (slv k.slots.length pk.slots.1))] 2 []) ac w) (o7 : Ow w0 NoB u N F9 ([] : List Bool) q8) (hNN : ∀ b, N0 b → N b ∧ u.heap[b]? = u0.heap[b]? ∧ ¬ F9 b) (hBB : BB σ1.bx.length β0 β) : W 5 (mkL 10 [0, 1, 2, 5, 6]) ac w := by
   refine ox2 hW 3 4 ?_ ?_
   ·have b110 : k.known.length ≤ 4194304 := LRd.le (RKept.known (d := k) (S.arg hk))
    refine id (S.appFlat0 (α := Bool) o7 (RKept.known (d := k) (S.arg hk)) (fun _ _ h => h) (by' := 1) (d := 6) (lx := 0) (ly := k.known.length) rfl fun ac w N q106 F107 S up o108 d109 => ?_)
    have hb111 := fun b h => (⟨(up b (hNN b h).1 (hNN b h).2.2).1, (up b (hNN b h).1 (hNN b h).2.2).2.trans (hNN b h).2.1⟩ : _ ∧ _)
    refine WD.sc S hb111 hBB fun hC => ?_
    clear up d109
    exact S.wh hW [] hC fun _ S => hK89 _ _ q106 F107 _ _ _ S o108 hb111 hBB
   ·refine id (S.bs0 (α := TSlot) (d := 7) (by kernel_rfl) fun ac w N q112 F113 S up o114 d115 => ?_)
    have hb116 := fun b h => (⟨(up b (hNN b h).1).1, (up b (hNN b h).1).2.trans (hNN b h).2.1, (hNN b h).2.2, d115 b (hNN b h).1⟩ : _ ∧ _ ∧ _ ∧ _)
    refine WD.sc S (fun b h => ⟨(hb116 b h).1, (hb116 b h).2.1⟩) hBB fun hC => ?_
    have d117 := Disj.w d115 o7.sub
    replace o7 := o7.up up
    clear up d115
    exact S.wh hW [] hC fun _ S => hK96 _ _ q8 F9 q112 F113 _ _ _ S o7 o114 d117 hb116 hBB
  have hK118 ac w q16 F17 u N β (S : St Try.prog Try.f55.ntmps w0 NoB u N β (σ1.dl [1] [(5, .v (slv k.known.length pk.known.1)), (7, .v (slv 0 q16.1)), (9, .v (slv k.slots.length pk.slots.1))] 2 []) ac w) (o15 : Ow w0 NoB u N F17 ([] : List TSlot) q16) (hNN : ∀ b, N0 b → N b ∧ u.heap[b]? = u0.heap[b]? ∧ ¬ F17 b) (hBB : BB σ1.bx.length β0 β) : W 5 (mkL 10 [1, 2, 4, 5, 6]) ac w := by
   refine ox1 hW 0 ?_
   refine id (S.bs0 (α := Bool) (d := 3) (by kernel_rfl) fun ac w N q119 F120 S up o121 d122 => ?_)
   have hb123 := fun b h => (⟨(up b (hNN b h).1).1, (up b (hNN b h).1).2.trans (hNN b h).2.1, d122 b (hNN b h).1, (hNN b h).2.2⟩ : _ ∧ _ ∧ _ ∧ _)
   refine WD.sc S (fun b h => ⟨(hb123 b h).1, (hb123 b h).2.1⟩) hBB fun hC => ?_
   have d124 := Disj.w d122 o15.sub
   replace o15 := o15.up up
   clear up d122
   exact S.wh hW [] hC fun _ S => hK96 _ _ q119 F120 q16 F17 _ _ _ S o121 o15 (Disj.symm d124) hb123 hBB
  have hNN : NN N0 u0 N0 u0 := fun b h => ⟨h, rfl⟩
  have hBB : BB σ1.bx.length β0 β0 := fun _ _ => rfl
  refine ox2 hW 0 4 ?_ ?_
  ·refine id (S.bs0 (α := Bool) (d := 3) (by kernel_rfl) fun ac w N q125 F126 S up o127 d128 => ?_)
   have hb129 := fun b h => (⟨(up b (hNN b h).1).1, (up b (hNN b h).1).2.trans (hNN b h).2, d128 b (hNN b h).1⟩ : _ ∧ _ ∧ _)
   refine WD.sc S (fun b h => ⟨(hb129 b h).1, (hb129 b h).2.1⟩) hBB fun hC => ?_
   clear up d128
   exact S.wh hW [] hC fun _ S => hK105 _ _ q125 F126 _ _ _ S o127 hb129 hBB
  ·refine id (S.bs0 (α := TSlot) (d := 7) (by kernel_rfl) fun ac w N q130 F131 S up o132 d133 => ?_)
   have hb134 := fun b h => (⟨(up b (hNN b h).1).1, (up b (hNN b h).1).2.trans (hNN b h).2, d133 b (hNN b h).1⟩ : _ ∧ _ ∧ _)
   refine WD.sc S (fun b h => ⟨(hb134 b h).1, (hb134 b h).2.1⟩) hBB fun hC => ?_
   clear up d133
   exact S.wh hW [] hC fun _ S => hK118 _ _ q130 F131 _ _ _ S o132 hb134 hBB
 clear S
 rintro ac w ⟨q69, F70, q72, F73, u, N, β, S, o68, o71, d135⟩
 refine S.ex fun S => ?_
 refine S.gr 2 .nil [GT.val (⟨k.known, k.slots⟩ : TKept) (⟨q69, q72⟩ : PKept)] fun ac w β S => ?_
 have o136 := ow_Kept (x := (⟨k.known, k.slots⟩ : TKept)) (p := (⟨q69, q72⟩ : PKept)) o68 o71 d135 
 exact ret1_of S (show k = (⟨k.known, k.slots⟩ : TKept) by clear S; (first | rfl | simp)) rfl o136

theorem k0_spec_l01In {p : Prop} (h : p := by clear S; first | rfl | (simp [f_within, *]; done) | (simp [f_within, *]; omega) | (simp_all [f_within]; done) | (simp_all [f_within]; omega)) : p := h
theorem c_spec_l01In (w0 : World) (x : Int) (a : Int) (b : Int) : Calls Try.prog 66 [I x, I a, I b].toArray w0 (fun e w' => e = .returned (B (f_within x a b)) ∧ Chg NoB w0 w') := by
 refine Calls.run NoB Try.func66 ?_
 intro ac β S
 refine S.gd 11 .nil (decide (x ≥ a)) (fun ac w β h1 g2 S => ?_) (fun ac w β h1 g2 S => ?_)
 ·exact S.gf 8 .nil [B (decide (x ≤ b))] (retB k0_spec_l01In)
 exact S.gf 8 .nil [B false] (retB k0_spec_l01In)

theorem c_spec_l07Has (w0 : World) (k : TKept) (pk : PKept) (hk : RD w0 k pk) (page : Int) : Calls Try.prog 56 [GT.val k pk, I page].toArray w0 (fun e w' => e = .returned (B (decide ((0 ≤ page ∧ page < k.known.length) ∧ page < k.slots.length))) ∧ Chg NoB w0 w') := by
 refine Calls.run NoB Try.func56 ?_
 intro ac β S
 have hlek_known : k.known.length ≤ 4194304 := LRd.le (RKept.known (d := k) hk)
 have hlek_slots : k.slots.length ≤ 4194304 := LRd.le (RKept.slots (d := k) hk)
 refine S.gb 15 (.cons (qm (k.known.length : Int) 1) (.cons (Q_call fun w hw => c_spec_l01In w page 0 ((k.known.length : Int) - 1)) .nil)) (f_within page 0 ((k.known.length : Int) - 1)) (fun ac w β h1 S => ?_) (fun ac w β h1 S => ?_)
 ·have g2 := within_t h1
  exact S.gf 10 .nil [B (decide (page < (k.slots.length : Int)))] (retB (by clear S; (rw [Bool.eq_iff_iff]; simp; omega)))
 have g3 := within_f h1
 exact S.gf 10 .nil [B false] (retB (by clear S; (rw [Bool.eq_iff_iff]; simp; omega)))

theorem k0_spec_SlotAt {p : Prop} (h : p := by clear S; (first | (unfold f_slotAt; rw [if_pos (by omega)]) | (unfold f_slotAt; rw [if_neg (by omega)]))) : p := h
theorem c_spec_SlotAt (w0 : World) (t : List TSlot) (pt : LP TSlot) (ht : RD w0 t pt) (page : Int) : Calls Try.prog 34 [slv t.length pt.1, I page].toArray w0 (fun e w' => e = .returned (GT.val (f_slotAt t page) ()) ∧ Chg NoB w0 w') := by
 refine Calls.run NoB Try.func34 ?_
 intro ac β S
 have hlet : t.length ≤ 4194304 := LRd.le ht
 refine S.gb 16 (.cons (qm (t.length : Int) 1) (.cons (Q_call fun w hw => c_spec_l01In w page 0 ((t.length : Int) - 1)) .nil)) (!(f_within page 0 ((t.length : Int) - 1))) (fun ac w β h1 S => ?_) (fun ac w β h1 S => ?_)
 ·have h2 := not_t h1
  have g3 := within_f h2
  exact S.gf 8 (.cons (Q_call fun w hw => c_spec_NoSlot w ) .nil) [GT.val (⟨-1, 0⟩ : TSlot) ()] (retV (p := ()) k0_spec_SlotAt)
 have h4 := not_f h1
 have g5 := within_t h4
 exact S.gf 13 (.cons (qt (S.arg ht) page Try.underlying37) (.cons (qs (S.arg ht) 54 page.toNat) .nil)) [GT.val (el t page.toNat) ()] (retV (p := ()) k0_spec_SlotAt)

theorem c_spec_RightsOk (w0 : World) (r : Int) : Calls Try.prog 98 [I r].toArray w0 (fun e w' => e = .returned (B (f_within r 0 3)) ∧ Chg NoB w0 w') := by
 refine Calls.run NoB Try.func98 ?_
 intro ac β S
 exact S.gf 13 (.cons (Q_call fun w hw => c_spec_l01In w r 0 3) .nil) [B (f_within r 0 3)] (retB (by clear S; first | rfl | (simp [f_within, *]; done) | (simp [f_within, *]; omega) | (simp_all [f_within]; done) | (simp_all [f_within]; omega)))

theorem k0_spec_BothRights {p : Prop} (h : p := by clear S; (unfold f_bothRights; (repeat' split) <;> first | rfl | (exfalso; omega) | (exfalso; simp_all; done) | (exfalso; simp_all; omega) | (simp_all; done))) : p := h
theorem c_spec_BothRights (w0 : World) (a : Int) (b : Int) : Calls Try.prog 65 [I a, I b].toArray w0 (fun e w' => e = .returned (I (f_bothRights a b)) ∧ Chg NoB w0 w') := by
 refine Calls.run NoB Try.func65 ?_
 intro ac β S
 refine S.gb 12 (.cons (Q_call fun w hw => c_spec_RightsOk w a) .nil) (!(f_within a 0 3)) (fun ac w β h1 S => ?_) (fun ac w β h1 S => ?_)
 ·have h2 := not_t h1
  have g3 := within_f h2
  exact S.gf 13 .nil [I 0] (retI k0_spec_BothRights)
 have h4 := not_f h1
 have g5 := within_t h4
 refine S.gb 6 (.cons (Q_call fun w hw => c_spec_RightsOk w b) .nil) (!(f_within b 0 3)) (fun ac w β h6 S => ?_) (fun ac w β h6 S => ?_)
 ·have h7 := not_t h6
  have g8 := within_f h7
  exact S.gf 7 .nil [I 0] (retI k0_spec_BothRights)
 have h9 := not_f h6
 have g10 := within_t h9
 exact S.gf 12 (.cons (Q_land64 (x := a) (y := b)) .nil) [I (land64 a b)] (retI k0_spec_BothRights)

theorem k0_spec_ComposeSlot {p : Prop} (h : p := by clear S; (unfold f_composeSlot; (repeat' split) <;> first | rfl | (exfalso; omega) | (exfalso; simp_all; done) | (exfalso; simp_all; omega) | (simp_all; done))) : p := h
theorem c_spec_ComposeSlot (w0 : World) (inner : TSlot) (outer : List TSlot) (pouter : LP TSlot) (houter : RD w0 outer pouter) : Calls Try.prog 33 [GT.val inner (), slv outer.length pouter.1].toArray w0 (fun e w' => e = .returned (GT.val (f_composeSlot inner outer) ()) ∧ Chg NoB w0 w') := by
 refine Calls.run NoB Try.func33 ?_
 intro ac β S
 have hleouter : outer.length ≤ 4194304 := LRd.le houter
 refine S.gd 33 (.cons (Q_call fun w hw => c_spec_SlotAt w outer pouter (rd_of (S.arg houter) hw) inner.page) (.cons (Q_call fun w hw => c_spec_BothRights w inner.rights (f_slotAt outer inner.page).rights) .nil)) (inner.page == (-1)) (fun ac w β h1 g2 S => ?_) (fun ac w β h1 g2 S => ?_)
 ·exact S.gf 18 (.cons (Q_call fun w hw => c_spec_NoSlot w ) .nil) [GT.val (⟨-1, 0⟩ : TSlot) ()] (retV (p := ()) k0_spec_ComposeSlot)
 refine S.gd 5 .nil ((f_slotAt outer inner.page).page == (-1)) (fun ac w β h3 g4 S => ?_) (fun ac w β h3 g4 S => ?_)
 ·exact S.gf 13 (.cons (Q_call fun w hw => c_spec_NoSlot w ) .nil) [GT.val (⟨-1, 0⟩ : TSlot) ()] (retV (p := ()) k0_spec_ComposeSlot)
 refine S.gd 5 .nil ((f_bothRights inner.rights (f_slotAt outer inner.page).rights) == 0) (fun ac w β h5 g6 S => ?_) (fun ac w β h5 g6 S => ?_)
 ·exact S.gf 8 (.cons (Q_call fun w hw => c_spec_NoSlot w ) .nil) [GT.val (⟨-1, 0⟩ : TSlot) ()] (retV (p := ()) k0_spec_ComposeSlot)
 exact S.gf 13 (.cons (Q_sem (s := Instr.build 54 [(0, I (f_slotAt outer inner.page).page), (1, I (f_bothRights inner.rights (f_slotAt outer inner.page).rights))].toArray) (v := .agg [I (f_slotAt outer inner.page).page, I (f_bothRights inner.rights (f_slotAt outer inner.page).rights)].toArray) (fun w => by kernel_rfl)) .nil) [GT.val (⟨(f_slotAt outer inner.page).page, (f_bothRights inner.rights (f_slotAt outer inner.page).rights)⟩ : TSlot) ()] (retV (p := ()) k0_spec_ComposeSlot)

theorem k0_spec_Fill {p : Prop} (h : p := by clear S; (unfold f_fill; (repeat' split) <;> first | rfl | (exfalso; omega) | (exfalso; simp_all; done) | (exfalso; simp_all; omega) | (simp_all; done))) : p := h
theorem c_spec_Fill (w0 : World) (k : TKept) (pk : PKept) (hk : RD w0 k pk) (inner : List TSlot) (pinner : LP TSlot) (hinner : RD w0 inner pinner) (outer : List TSlot) (pouter : LP TSlot) (houter : RD w0 outer pouter) (page : Int) : Calls Try.prog 13 [GT.val k pk, slv inner.length pinner.1, slv outer.length pouter.1, I page].toArray w0 (Ret1 NoB w0 (f_fill k inner outer page : TKept)) := by
 refine Calls.run NoB Try.func13 ?_
 intro ac β S
 have hlek_known : k.known.length ≤ 4194304 := LRd.le (RKept.known (d := k) hk)
 have hlek_slots : k.slots.length ≤ 4194304 := LRd.le (RKept.slots (d := k) hk)
 have hleinner : inner.length ≤ 4194304 := LRd.le hinner
 have hleouter : outer.length ≤ 4194304 := LRd.le houter
 refine S.go 9 .nil fun ac w β S => S.K1 (r := k) (d := 10) (c_spec_l07Copy w k pk (S.rd (S.arg hk))) fun ac w N q1 F2 S up o3 d4 => ?_
 clear up d4
 obtain ⟨F5, F8, o6, o9, _, _, d11⟩ := sp_Kept o3
 refine S.gb 10 (.cons (Q_call fun w hw => c_spec_l07Has w k q1 (rd_of (show GT.rd KK _ _ k q1 from ⟨o6.rn, o9.rn⟩) hw) page) .nil) (decide ((0 ≤ page ∧ page < k.known.length) ∧ page < k.slots.length)) (fun ac w β h12 S => ?_) (fun ac w β h12 S => ?_)
 ·have g13 := of_decide_eq_true h12
  refine S.gd 7 .nil (decide (page < (inner.length : Int))) (fun ac w β h14 g15 S => ?_) (fun ac w β h14 g15 S => ?_)
  ·refine S.go 7 (.cons (qt o6.rn page Try.underlying38) .nil) fun ac w β S => S.SF (α := Bool) o6 (t := 4) (k := page.toNat) (j := 0) (off := q1.known.1.off + page.toNat * 1) (v := B true) (y := true) (q := ()) (fun _ _ _ => ⟨NoB, trivial, fun _ h => False.elim h⟩) fun w N F17 q18 S up o16 d19 s20 n21 => ?_
   have d22 := d19 _ (Disj.symm d11) (fun b _ h => False.elim h) o9.sub
   replace o9 := o9.upF (Disj.symm d11) up
   clear up d19 o6 n21
   have l23 : (k.known.set page.toNat true).length = k.known.length := List.length_set
   replace S := S.z (σ' := ⟨[(1, .v (slv inner.length pinner.1)), (2, .v (slv outer.length pouter.1)), (3, .v (I page)), (4, .p 0 0), (8, .p 1 0), (23, .v (pt q1.known.1.b (q1.known.1.off + page.toNat * 1)))], [[slv k.known.length q1.known.1, slv k.slots.length q1.slots.1], Zc TKept]⟩)
   replace S := S.cast (σ' := ⟨[(1, .v (slv inner.length pinner.1)), (2, .v (slv outer.length pouter.1)), (3, .v (I page)), (4, .p 0 0), (8, .p 1 0), (23, .v (pt q1.known.1.b (q1.known.1.off + page.toNat * 1)))], [[slv (k.known.set page.toNat true).length q1.known.1, slv k.slots.length q1.slots.1], Zc TKept]⟩) (by rw [show (k.known.set page.toNat true).length = k.known.length by omega])
   refine S.is fun S => ?_
   refine S.go 2 .nil fun ac w β S => ?_
   refine drw ?_
   refine S.draw0 (f := 11) 10 (by kernel_rfl) (by kernel_rfl) fun w S => ?_
   refine S.hq 0 [0] [] [(24, .p 0 1)] .nil fun ac S => ?_
   refine S.hq 1 [1] [] [(25, .v (slv k.slots.length q1.slots.1))] .nil fun ac S => ?_
   refine S.hq 2 [2] [] [(26, .v (I page))] .nil fun ac S => ?_
   refine S.hq 3 [3] [] [(27, .v (slv inner.length pinner.1))] .nil fun ac S => ?_
   refine S.hq 4 [4] [] [(28, .v (I page))] .nil fun ac S => ?_
   refine S.hq 5 [5] [] [(29, .v (pt pinner.1.b (pinner.1.off + page.toNat * 2)))] (.cons (qt (S.arg hinner) page Try.underlying37) .nil) fun ac S => ?_
   refine S.hq 6 [6] [] [(30, .v (GT.val (el inner page.toNat) ()))] (.cons (qs (S.arg hinner) 54 page.toNat) .nil) fun ac S => ?_
   refine S.hq 7 [7] [] [(31, .v (slv outer.length pouter.1))] .nil fun ac S => ?_
   refine S.sq 8 [] [(32, .v (GT.val (f_composeSlot (el inner page.toNat) outer) ()))] 2 [] (.cons (Q_call fun w hw => c_spec_ComposeSlot w (el inner page.toNat) outer pouter (rd_of (S.arg houter) hw)) .nil) fun ac w β S => ?_
   refine S.hq 9 [9] [] [(33, .v (pt q1.slots.1.b (q1.slots.1.off + page.toNat * 2)))] (.cons (qt o9.rn page Try.underlying37) .nil) fun ac S => ?_
   refine WD.one (i := 10) (by kernel_rfl) ?_
   have e24 : RSlot (el k.slots page.toNat) := (LRd.el o9.rn page.toNat (by omega))
   refine id (S.sF (α := TSlot) o9 (t := 54) (k := page.toNat) (j := 0) (off := q1.slots.1.off + page.toNat * 2) (v := GT.val (f_composeSlot (el inner page.toNat) outer) ()) (y := (f_composeSlot (el inner page.toNat) outer)) (q := ()) (fun _ _ _ => ⟨NoB, (compose_r (S.arg houter) (el inner page.toNat)), fun _ h => False.elim h⟩) fun w N F26 q27 S up o25 d28 s29 n30 => ?_)
   refine WD.last (by kernel_rfl) ?_
   have d31 := d28 _ (Disj.symm d22) (fun b _ h => False.elim h) o16.sub
   replace o16 := o16.upF (Disj.symm d22) up
   clear up d28 o9 n30
   have l32 : (k.slots.set page.toNat (f_composeSlot (el inner page.toNat) outer)).length = k.slots.length := List.length_set
   replace S := S.z (σ' := ⟨[(4, .p 0 0), (8, .p 1 0), (32, .v (GT.val (f_composeSlot (el inner page.toNat) outer) ())), (33, .v (pt q1.slots.1.b (q1.slots.1.off + page.toNat * 2)))], [[slv (k.known.set page.toNat true).length q1.known.1, slv k.slots.length q1.slots.1], Zc TKept]⟩)
   replace S := S.cast (σ' := ⟨[(4, .p 0 0), (8, .p 1 0), (32, .v (GT.val (f_composeSlot (el inner page.toNat) outer) ())), (33, .v (pt q1.slots.1.b (q1.slots.1.off + page.toNat * 2)))], [[slv (k.known.set page.toNat true).length q1.known.1, slv (k.slots.set page.toNat (f_composeSlot (el inner page.toNat) outer)).length q1.slots.1], Zc TKept]⟩) (by rw [show (k.slots.set page.toNat (f_composeSlot (el inner page.toNat) outer)).length = k.slots.length by omega])
   refine WD.done (by kernel_rfl) ?_ _
   refine S.ex fun S => ?_
   refine S.gr 8 .nil [GT.val (⟨(k.known.set page.toNat true), (k.slots.set page.toNat (f_composeSlot (el inner page.toNat) outer))⟩ : TKept) (⟨(q1.known.1, q18), (q1.slots.1, q27)⟩ : PKept)] fun ac w β S => ?_
   have o33 := ow_Kept (x := (⟨(k.known.set page.toNat true), (k.slots.set page.toNat (f_composeSlot (el inner page.toNat) outer))⟩ : TKept)) (p := (⟨(q1.known.1, q18), (q1.slots.1, q27)⟩ : PKept)) o16 o25 d31 
   exact ret1_of S (show f_fill k inner outer page = (⟨(k.known.set page.toNat true), (k.slots.set page.toNat (f_composeSlot (el inner page.toNat) outer))⟩ : TKept) from k0_spec_Fill) rfl o33
  refine S.gr 10 .nil [GT.val k q1] fun ac w β S => ?_
  have o34 := ow_Kept (x := k) (p := q1) o6 o9 d11 
  exact ret1_of S (show f_fill k inner outer page = k from k0_spec_Fill) rfl o34
 have g35 := of_decide_eq_false h12
 refine S.gr 17 .nil [GT.val k q1] fun ac w β S => ?_
 have o36 := ow_Kept (x := k) (p := q1) o6 o9 d11 
 exact ret1_of S (show f_fill k inner outer page = k from k0_spec_Fill) rfl o36

theorem c_spec_l02Rights (w0 : World) (bs : List TByte) (pbs : LP TByte) (G F : Bl) (q : LP TCur) (hc : Cu bs pbs G F w0 q) : Calls Try.prog 118 [pt q.1.b (q.1.off + 0 * 3)].toArray w0 (RetD1 bs pbs G F q w0 (fun (r : Int) => True)) := by
 refine Calls.run F Try.func118 ?_
 intro ac β S
 have oc := hc.oc
 refine S.go 8 .nil fun ac w β S => S.BF ([3, 3, 1, 2, 0, 3, 1, (-1), 4, 9223372036854775807] : List Int) () (d := 4) (List.forall_mem_cons.2 ⟨fun _ => (show In64 3 from ⟨by decide, by decide⟩), List.forall_mem_cons.2 ⟨fun _ => (show In64 3 from ⟨by decide, by decide⟩), List.forall_mem_cons.2 ⟨fun _ => (show In64 1 from ⟨by decide, by decide⟩), List.forall_mem_cons.2 ⟨fun _ => (show In64 2 from ⟨by decide, by decide⟩), List.forall_mem_cons.2 ⟨fun _ => (show In64 0 from ⟨by decide, by decide⟩), List.forall_mem_cons.2 ⟨fun _ => (show In64 3 from ⟨by decide, by decide⟩), List.forall_mem_cons.2 ⟨fun _ => (show In64 1 from ⟨by decide, by decide⟩), List.forall_mem_cons.2 ⟨fun _ => (show In64 (-1) from ⟨by decide, by decide⟩), List.forall_mem_cons.2 ⟨fun _ => (show In64 4 from ⟨by decide, by decide⟩), List.forall_mem_cons.2 ⟨fun _ => (show In64 9223372036854775807 from ⟨by decide, by decide⟩), List.forall_mem_nil _⟩⟩⟩⟩⟩⟩⟩⟩⟩⟩) (show 10 ≤ 4194304 by decide) fun ac w N q1 F2 S up o3 d4 => ?_
 have d5 := Disj.w d4 oc.sub
 replace oc := oc.up up
 clear up d4
 refine S.KD1 (d := 5) oc (c_spec_l01PickInt w bs pbs G F q (S.cu oc) ([3, 3, 1, 2, 0, 3, 1, (-1), 4, 9223372036854775807] : List Int) q1 F2 (GT.own_rd (S.ownw o3)) (fun b hb => ⟨(S.sep b (o3.sub b hb)).1, (Disj.symm d5) b hb⟩) (by first | omega | decide | (simp; done))) fun ac w N x6 q7 F8 S h11 up o9 d10 ocn => ?_
 replace oc := ocn
 clear up d10
 have i12 : In64 x6 := o9.own
 have l13 := i12.lo; have l14 := i12.hi
 refine S.gr 4 .nil [I x6] fun ac w β S => ?_
 exact retD1_of (F1 := NoB) (p := ()) S (show True by clear S; trivial) rfl ⟨i12, fun _ h => False.elim h, fun _ h => False.elim h⟩ (fun b h _ => False.elim h) oc

theorem c_spec_l03Any (w0 : World) (bs : List TByte) (pbs : LP TByte) (G F : Bl) (q : LP TCur) (hc : Cu bs pbs G F w0 q) (pages : Int) (hpages : In64 pages) : Calls Try.prog 90 [pt q.1.b (q.1.off + 0 * 3), I pages].toArray w0 (RetD1 bs pbs G F q w0 (fun (r : TSlot) => True)) := by
 refine Calls.run F Try.func90 ?_
 intro ac β S
 have oc := hc.oc
 have hlopages := hpages.lo; have hhipages := hpages.hi
 refine S.go 9 .nil fun ac w β S => S.KD1 (d := 8) oc (c_spec_l03Slot w bs pbs G F q (S.cu oc) pages hpages) fun ac w N x1 q2 F3 S h6 up o4 d5 ocn => ?_
 replace oc := ocn
 clear up d5
 have i7 : RSlot x1 := o4.own
 refine S.go 8 .nil fun ac w β S => S.KD1 (d := 10) oc (c_spec_l01Below w bs pbs G F q (S.cu oc) 12 (show In64 12 from ⟨by decide, by decide⟩)) fun ac w N x8 q9 F10 S h13 up o11 d12 ocn => ?_
 replace oc := ocn
 clear up d12
 have i14 : In64 x8 := o11.own
 have l15 := i14.lo; have l16 := i14.hi
 refine S.gd 9 .nil (x8 == 0) (fun ac w β h17 g18 S => ?_) (fun ac w β h17 g18 S => ?_)
 ·refine S.go 4 .nil fun ac w β S => S.BF ([(-1), (-2), pages, 9223372036854775807, (-9223372036854775808)] : List Int) () (d := 15) (List.forall_mem_cons.2 ⟨fun _ => (show In64 (-1) from ⟨by decide, by decide⟩), List.forall_mem_cons.2 ⟨fun _ => (show In64 (-2) from ⟨by decide, by decide⟩), List.forall_mem_cons.2 ⟨fun _ => hpages, List.forall_mem_cons.2 ⟨fun _ => (show In64 9223372036854775807 from ⟨by decide, by decide⟩), List.forall_mem_cons.2 ⟨fun _ => (show In64 (-9223372036854775808) from ⟨by decide, by decide⟩), List.forall_mem_nil _⟩⟩⟩⟩⟩) (show 5 ≤ 4194304 by decide) fun ac w N q19 F20 S up o21 d22 => ?_
  have d23 := Disj.w d22 oc.sub
  replace oc := oc.up up
  clear up d22
  refine S.KD1 (d := 16) oc (c_spec_l01PickInt w bs pbs G F q (S.cu oc) ([(-1), (-2), pages, 9223372036854775807, (-9223372036854775808)] : List Int) q19 F20 (GT.own_rd (S.ownw o21)) (fun b hb => ⟨(S.sep b (o21.sub b hb)).1, (Disj.symm d23) b hb⟩) (by first | omega | decide | (simp; done))) fun ac w N x24 q25 F26 S h29 up o27 d28 ocn => ?_
  replace oc := ocn
  clear up d28
  have i30 : In64 x24 := o27.own
  have l31 := i30.lo; have l32 := i30.hi
  refine S.gr 12 .nil [GT.val (⟨x24, x1.rights⟩ : TSlot) ()] fun ac w β S => ?_
  exact retD1_of (F1 := NoB) (p := ()) S (show True by clear S; trivial) rfl ⟨(show RSlot (⟨x24, x1.rights⟩ : TSlot) from ⟨i30, (RSlot.rights (d := x1) i7)⟩), fun _ h => False.elim h, fun _ h => False.elim h⟩ (fun b h _ => False.elim h) oc
 refine S.gd 7 .nil (x8 == 1) (fun ac w β h33 g34 S => ?_) (fun ac w β h33 g34 S => ?_)
 ·refine S.go 3 .nil fun ac w β S => S.KD1 (d := 21) oc (c_spec_l02Rights w bs pbs G F q (S.cu oc)) fun ac w N x35 q36 F37 S h40 up o38 d39 ocn => ?_
  replace oc := ocn
  clear up d39
  have i41 : In64 x35 := o38.own
  have l42 := i41.lo; have l43 := i41.hi
  refine S.gr 12 .nil [GT.val (⟨x1.page, x35⟩ : TSlot) ()] fun ac w β S => ?_
  exact retD1_of (F1 := NoB) (p := ()) S (show True by clear S; trivial) rfl ⟨(show RSlot (⟨x1.page, x35⟩ : TSlot) from ⟨(RSlot.page (d := x1) i7), i41⟩), fun _ h => False.elim h, fun _ h => False.elim h⟩ (fun b h _ => False.elim h) oc
 refine S.gr 11 .nil [GT.val x1 ()] fun ac w β S => ?_
 exact retD1_of (F1 := NoB) (p := ()) S (show True by clear S; trivial) rfl ⟨i7, fun _ h => False.elim h, fun _ h => False.elim h⟩ (fun b h _ => False.elim h) oc

theorem c_spec_l03AnyTable (w0 : World) (bs : List TByte) (pbs : LP TByte) (G F : Bl) (q : LP TCur) (hc : Cu bs pbs G F w0 q) (size : Int) (hsize : In64 size) (pages : Int) (hpages : In64 pages) (pre0 : 0 < size ∧ size ≤ 1000) : Calls Try.prog 91 [pt q.1.b (q.1.off + 0 * 3), I size, I pages].toArray w0 (RetD1 bs pbs G F q w0 (fun (r : List TSlot) => r.length ≤ size.toNat)) := by
 refine Calls.run F Try.func91 ?_
 intro ac β S
 have oc := hc.oc
 have hlosize := hsize.lo; have hhisize := hsize.hi
 have hlopages := hpages.lo; have hhipages := hpages.hi
 refine S.go 10 .nil fun ac w β S => S.KD1 (d := 11) oc (c_spec_l03Table w bs pbs G F q (S.cu oc) size hsize pages hpages (by omega)) fun ac w N x1 q2 F3 S h6 up o4 d5 ocn => ?_
 have d7 := Disj.w d5 oc.sub
 replace oc := ocn
 clear up d5
 have l8 := LRd.le o4.rn
 refine S.go 7 .nil fun ac w β S => S.KD1 (d := 13) oc (c_spec_l01Below w bs pbs G F q (S.cu oc) 8 (show In64 8 from ⟨by decide, by decide⟩)) fun ac w N x9 q10 F11 S h14 up o12 d13 ocn => ?_
 replace o4 := o4.upF (Disj.symm d7) up
 replace oc := ocn
 clear up d13
 have i15 : In64 x9 := o12.own
 have l16 := i15.lo; have l17 := i15.hi
 refine S.gd 9 .nil (x9 == 0) (fun ac w β h18 g19 S => ?_) (fun ac w β h18 g19 S => ?_)
 ·refine S.go 5 .nil fun ac w β S => S.KD1 (d := 19) oc (c_spec_l01Below w bs pbs G F q (S.cu oc) size hsize) fun ac w N x20 q21 F22 S h25 up o23 d24 ocn => ?_
  replace o4 := o4.upF (Disj.symm d7) up
  replace oc := ocn
  clear up d24
  have i26 : In64 x20 := o23.own
  have l27 := i26.lo; have l28 := i26.hi
  refine S.go 2 .nil fun ac w β S => S.KD1 (d := 22) oc (c_spec_l03Any w bs pbs G F q (S.cu oc) pages hpages) fun ac w N x29 q30 F31 S h34 up o32 d33 ocn => ?_
  replace o4 := o4.upF (Disj.symm d7) up
  replace oc := ocn
  clear up d33
  have i35 : RSlot x29 := o32.own
  have e36 : RSlot (el x1 x20.toNat) := (LRd.el o4.rn x20.toNat (by omega))
  refine S.go 1 (.cons (qt o4.rn x20 Try.underlying37) .nil) fun ac w β S => S.SF (α := TSlot) o4 (t := 54) (k := x20.toNat) (j := 0) (off := q2.1.off + x20.toNat * 2) (v := GT.val x29 ()) (y := x29) (q := ()) (fun _ _ _ => ⟨NoB, i35, fun _ h => False.elim h⟩) fun w N F38 q39 S up o37 d40 s41 n42 => ?_
  have d43 := d40 _ d7 (fun b _ h => False.elim h) oc.sub
  replace oc := oc.upF d7 up
  clear up d40 o4 n42
  have l44 : (x1.set x20.toNat x29).length = x1.length := List.length_set
  refine S.gr 10 .nil [slv x1.length q2.1] fun ac w β S => ?_
  exact retD1_of S (show (x1.set x20.toNat x29).length ≤ size.toNat by clear S; first | omega | (simp; omega)) (by rw [show x1.length = (x1.set x20.toNat x29).length from (by rw [List.length_set])]; rfl) o37 (Disj.symm d43) oc
 refine S.gd 7 .nil (x9 == 1) (fun ac w β h45 g46 S => ?_) (fun ac w β h45 g46 S => ?_)
 ·refine S.go 5 .nil fun ac w β S => S.KD1 (d := 29) oc (c_spec_l01Below w bs pbs G F q (S.cu oc) size hsize) fun ac w N x47 q48 F49 S h52 up o50 d51 ocn => ?_
  replace o4 := o4.upF (Disj.symm d7) up
  replace oc := ocn
  clear up d51
  have i53 : In64 x47 := o50.own
  have l54 := i53.lo; have l55 := i53.hi
  have l56 : (x1.take x47.toNat).length = x47.toNat - 0 := by first | (simp; done) | (simp; omega)
  refine S.gr 12 (.cons (Q_slice (hi := some (I x47)) o4.rn (l := x1.length) (a := 0) (b := x47.toNat) rfl (.inl ⟨rfl, rfl⟩) (.inr (congrArg (fun z => some (I z)) (show x47 = ((x47.toNat : Nat) : Int) by omega))) (by omega) (by omega) Try.underlying37 (by kernel_rfl)) .nil) [slv x47.toNat (q2.1.sl 0 2)] fun ac w β S => ?_
  have o57 : Ow w0 F _ _ F3 (x1.take x47.toNat) (q2.1.sl 0 2, fun i => q2.2 (0 + i)) := Ow.sl o4 (a := 0) (b := x47.toNat) (by omega) (by omega)
  exact retD1_of S (show (x1.take x47.toNat).length ≤ size.toNat by clear S; first | omega | (simp; omega)) (show slv x47.toNat (q2.1.sl 0 2) = GT.val (x1.take x47.toNat) ((q2.1.sl 0 2, fun i => q2.2 (0 + i)) : LP TSlot) from congrArg (fun z => slv z (q2.1.sl 0 2)) (show x47.toNat = (x1.take x47.toNat).length by omega)) o57 (Disj.symm d7) oc
 refine S.gr 11 .nil [slv x1.length q2.1] fun ac w β S => ?_
 exact retD1_of S (show x1.length ≤ size.toNat by clear S; first | omega | (simp; omega)) rfl o4 (Disj.symm d7) oc

theorem c_spec_l07Case (w0 : World) (bs : List TByte) (pbs : LP TByte) (G F : Bl) (q : LP TCur) (hc : Cu bs pbs G F w0 q) : Calls Try.prog 48 [pt q.1.b (q.1.off + 0 * 3)].toArray w0 (RetD3 bs pbs G F q w0 (fun (r1 : TKept) (r2 : List TSlot) (r3 : List TSlot) => True)) := by
 refine Calls.run F Try.func48 ?_
 intro ac β S
 have oc := hc.oc
 refine S.go 10 .nil fun ac w β S => S.KD1 (d := 10) oc (c_spec_l03Table w bs pbs G F q (S.cu oc) 4 (show In64 4 from ⟨by decide, by decide⟩) 8 (show In64 8 from ⟨by decide, by decide⟩) (by omega)) fun ac w N x1 q2 F3 S h6 up o4 d5 ocn => ?_
 have d7 := Disj.w d5 oc.sub
 replace oc := ocn
 clear up d5
 have l8 := LRd.le o4.rn
 refine S.go 6 .nil fun ac w β S => S.KD1 (d := 12) oc (c_spec_l03Table w bs pbs G F q (S.cu oc) 8 (show In64 8 from ⟨by decide, by decide⟩) 24 (show In64 24 from ⟨by decide, by decide⟩) (by omega)) fun ac w N x9 q10 F11 S h14 up o12 d13 ocn => ?_
 have d15 := Disj.w d13 o4.sub
 have d16 := Disj.w d13 oc.sub
 replace o4 := o4.upF (Disj.symm d7) up
 replace oc := ocn
 clear up d13
 have l17 := LRd.le o12.rn
 refine S.go 5 .nil fun ac w β S => S.K1 (r := f_keptNew 4) (d := 13) (c_spec_KeptNew w 4) fun ac w N q18 F19 S up o20 d21 => ?_
 have d22 := Disj.w d21 o4.sub
 have d23 := Disj.w d21 oc.sub
 have d24 := Disj.w d21 o12.sub
 replace o4 := o4.up up
 replace oc := oc.up up
 replace o12 := o12.up up
 clear up d21
 obtain ⟨F25, F28, o26, o29, s27, s30, d31⟩ := sp_Kept o20
 refine S.go 11 .nil fun ac w β S => ?_
 refine lp (fun mm ac w => ∃ (i : Nat) (kn : List Bool) (sl : List TSlot) (q32 : _) (F33 : _) (q35 : _) (F36 : _) (u : _) (N : _) (β : _), mm = 5 - i ∧ (i ≤ 5) ∧ (kn.length = 4) ∧ (sl.length = 4) ∧ St Try.prog Try.f48.ntmps w0 F u N β ⟨[(0, .v (pt q.1.b (q.1.off + 0 * 3))), (2, .p 0 0), (5, .v (slv x1.length q2.1)), (6, .v (slv x9.length q10.1)), (7, .p 1 0), (8, .v (I (i : Int)))], [Zc TKept, [slv kn.length q32.1, slv sl.length q35.1]]⟩ ac w ∧ Ow w0 F u N F33 kn q32 ∧ Ow w0 F u N F36 sl q35 ∧ Ow w0 F u N F3 x1 q2 ∧ Oc bs pbs G w0 F u N F q ∧ Ow w0 F u N F11 x9 q10 ∧ Disj F33 F36 ∧ Disj F33 F3 ∧ Disj F33 F ∧ Disj F33 F11 ∧ Disj F36 F3 ∧ Disj F36 F ∧ Disj F36 F11) _ ⟨0, (f_keptNew 4).known, (f_keptNew 4).slots, q18.known, F25, q18.slots, F28, _, _, _, rfl, o0, (by rfl), (by rfl), S.z, o26, o29, o4, oc, o12, d31, (Disj.part (Disj.symm d22) s27), (Disj.part (Disj.symm d23) s27), (Disj.part (Disj.symm d24) s27), (Disj.part (Disj.symm d22) s30), (Disj.part (Disj.symm d23) s30), (Disj.part (Disj.symm d24) s30)⟩ ?_
 clear S o12 o26 o29 o4 oc
 rintro f45 mm hf46 ac w ⟨i, kn, sl, q32, F33, q35, F36, u, N, β, rfl, hi, hkn, hsl, S, o34, o37, o4, oc, o12, d38, d39, d40, d41, d42, d43, d44⟩
 refine S.rs fun S => ?_
 refine S.go 5 .nil fun ac w β S => S.KD1 (d := 16) oc (c_spec_l01Below w bs pbs G F q (S.cu oc) 5 (show In64 5 from ⟨by decide, by decide⟩)) fun ac w N x47 q48 F49 S h52 up o50 d51 ocn => ?_
 replace o34 := o34.upF d40 up
 replace o37 := o37.upF d43 up
 replace o4 := o4.upF (Disj.symm d7) up
 replace o12 := o12.upF (Disj.symm d16) up
 replace oc := ocn
 clear up d51
 have i53 : In64 x47 := o50.own
 have l54 := i53.lo; have l55 := i53.hi
 refine S.gd 3 .nil (decide ((i : Int) < x47)) (fun ac w β h56 g57 S => ?_) (fun ac w β h56 g57 S => ?_)
 ·refine S.go 5 .nil fun ac w β S => ?_
  refine drw ?_
  let σ58 : Sy := ⟨[(0, .v (pt q.1.b (q.1.off + 0 * 3))), (2, .p 0 0), (5, .v (slv x1.length q2.1)), (6, .v (slv x9.length q10.1)), (7, .p 1 0), (8, .v (I (i : Int))), (17, .v (B true))], [Zc TKept, [slv kn.length q32.1, slv sl.length q35.1]]⟩
  obtain ⟨u0, N0, β0, S, o34, o37, o4, o12, oc⟩ : ∃ u0 N0 β0, St Try.prog Try.f48.ntmps w0 F u0 N0 β0 σ58 ac w ∧ Ow w0 F u0 N0 F33 kn q32 ∧ Ow w0 F u0 N0 F36 sl q35 ∧ Ow w0 F u0 N0 F3 x1 q2 ∧ Ow w0 F u0 N0 F11 x9 q10 ∧ Oc bs pbs G w0 F u0 N0 F q := ⟨_, _, _, S.z, o34, o37, o4, o12, oc⟩
  refine wp_region_cut (fun ac w => ∃ x59 q97 F98 q100 F101 u N β, St Try.prog Try.f48.ntmps w0 F u N β (σ58.dl [17] [] 2 [(1, [slv (f_fill (⟨kn, sl⟩ : TKept) x1 x9 x59).known.length q97.1, slv (f_fill (⟨kn, sl⟩ : TKept) x1 x9 x59).slots.length q100.1])]) ac w ∧ Ow w0 F u N F3 x1 q2 ∧ Ow w0 F u N F11 x9 q10 ∧ Oc bs pbs G w0 F u N F q ∧ Ow w0 F u N F98 (f_fill (⟨kn, sl⟩ : TKept) x1 x9 x59).known q97 ∧ Ow w0 F u N F101 (f_fill (⟨kn, sl⟩ : TKept) x1 x9 x59).slots q100 ∧ Disj F3 F98 ∧ Disj F3 F101 ∧ Disj F11 F98 ∧ Disj F11 F101 ∧ Disj F F98 ∧ Disj F F101 ∧ Disj F98 F101 ∧ (((4 : Int) ≤ 0 → x59 = 0) ∧ ((0 : Int) < 4 → 0 ≤ x59 ∧ x59 < 4)) ∧ (In64 x59)) ?_ ?_
  ·refine S.draw0 (f := 7) 4 (by kernel_rfl) (by kernel_rfl) fun w S => ?_
   refine S.hq 3 [3] [] [(23, .v (pt q.1.b (q.1.off + 0 * 3)))] .nil fun ac S => ?_
   refine WD.nameW fun W hW => ?_
   refine WD.castW (l' := mkL 7 [3]) (by kernel_rfl) ?_
   have hK102 ac w (x59 : Int) q97 F98 q100 F101 u N β (S : St Try.prog Try.f48.ntmps w0 F u N β (σ58.dl [17] [] 2 [(1, [slv (f_fill (⟨kn, sl⟩ : TKept) x1 x9 x59).known.length q97.1, slv (f_fill (⟨kn, sl⟩ : TKept) x1 x9 x59).slots.length q100.1])]) ac w) (o4 : Ow w0 F u N F3 x1 q2) (o12 : Ow w0 F u N F11 x9 q10) (oc : Oc bs pbs G w0 F u N F q) (o96 : Ow w0 F u N F98 (f_fill (⟨kn, sl⟩ : TKept) x1 x9 x59).known q97) (o99 : Ow w0 F u N F101 (f_fill (⟨kn, sl⟩ : TKept) x1 x9 x59).slots q100) (d103 : Disj F3 F98) (d104 : Disj F3 F101) (d105 : Disj F11 F98) (d106 : Disj F11 F101) (d107 : Disj F F98) (d108 : Disj F F101) (d109 : Disj F98 F101) (h64 : (((4 : Int) ≤ 0 → x59 = 0) ∧ ((0 : Int) < 4 → 0 ≤ x59 ∧ x59 < 4))) (i65 : (In64 x59)) : W 0 (mkL 7 [0, 1, 2, 3, 4, 5, 6]) ac w := by
    have l110 := i65.lo; have l111 := i65.hi
    exact od hW ⟨rfl, x59, q97, F98, q100, F101, _, _, _, S.z, o4, o12, oc, o96, o99, d103, d104, d105, d106, d107, d108, d109, h64, i65⟩
   have hK112 ac w (x59 : Int) q91 F92 q94 F95 u N β (S : St Try.prog Try.f48.ntmps w0 F u N β (σ58.dl [17] [(25, .v (GT.val (f_fill (⟨kn, sl⟩ : TKept) x1 x9 x59) (⟨q91, q94⟩ : PKept)))] 2 []) ac w) (o34 : Ow w0 F u N F33 kn q32) (o37 : Ow w0 F u N F36 sl q35) (o4 : Ow w0 F u N F3 x1 q2) (o12 : Ow w0 F u N F11 x9 q10) (oc : Oc bs pbs G w0 F u N F q) (o90 : Ow w0 F u N F92 (f_fill (⟨kn, sl⟩ : TKept) x1 x9 x59).known q91) (o93 : Ow w0 F u N F95 (f_fill (⟨kn, sl⟩ : TKept) x1 x9 x59).slots q94) (d113 : Disj F33 F92) (d114 : Disj F33 F95) (d115 : Disj F36 F92) (d116 : Disj F36 F95) (d117 : Disj F3 F92) (d118 : Disj F3 F95) (d119 : Disj F11 F92) (d120 : Disj F11 F95) (d121 : Disj F F92) (d122 : Disj F F95) (d123 : Disj F92 F95) (h64 : (((4 : Int) ≤ 0 → x59 = 0) ∧ ((0 : Int) < 4 → 0 ≤ x59 ∧ x59 < 4))) (i65 : (In64 x59)) : W 1 (mkL 7 [0, 1, 2, 3, 4, 5]) ac w := by
    have l124 := i65.lo; have l125 := i65.hi
    exact ox1 hW 6 (S.wl hW [] .nil fun _ _ _ S => hK102 _ _ x59 q91 F92 q94 F95 _ _ _ S o4 o12 oc o90 o93 d117 d118 d119 d120 d121 d122 d123 h64 i65)
   have hK126 ac w (x59 : Int) u N β (S : St Try.prog Try.f48.ntmps w0 F u N β (σ58.dl [17] [(20, .v (GT.val (⟨kn, sl⟩ : TKept) (⟨q32, q35⟩ : PKept))), (21, .v (slv x1.length q2.1)), (22, .v (slv x9.length q10.1)), (24, .v (I x59))] 2 []) ac w) (o34 : Ow w0 F u N F33 kn q32) (o37 : Ow w0 F u N F36 sl q35) (o4 : Ow w0 F u N F3 x1 q2) (o12 : Ow w0 F u N F11 x9 q10) (oc : Oc bs pbs G w0 F u N F q) (h64 : (((4 : Int) ≤ 0 → x59 = 0) ∧ ((0 : Int) < 4 → 0 ≤ x59 ∧ x59 < 4))) (i65 : (In64 x59)) : W 2 (mkL 7 [0, 1, 2, 3, 4]) ac w := by
    have l127 := i65.lo; have l128 := i65.hi
    refine ox1 hW 5 ?_
    refine id (S.k1 25 (c_spec_Fill w (⟨kn, sl⟩ : TKept) (⟨q32, q35⟩ : PKept) (S.rd (show GT.rd KK _ _ (⟨kn, sl⟩ : TKept) (⟨q32, q35⟩ : PKept) from ⟨o34.rn, o37.rn⟩)) x1 q2 (S.rd o4.rn) x9 q10 (S.rd o12.rn) x59) fun ac w N q129 F130 S up o131 d132 => ?_)
    refine WD.sl fun hC => ?_
    have d133 := Disj.w d132 o34.sub
    have d134 := Disj.w d132 o37.sub
    have d135 := Disj.w d132 o4.sub
    have d136 := Disj.w d132 o12.sub
    have d137 := Disj.w d132 oc.sub
    replace o34 := o34.up up
    replace o37 := o37.up up
    replace o4 := o4.up up
    replace o12 := o12.up up
    replace oc := oc.up up
    clear up d132
    obtain ⟨F138, F141, o139, o142, s140, s143, d144⟩ := sp_Kept o131
    exact S.wh hW [] hC fun _ S => hK112 _ _ x59 q129.known F138 q129.slots F141 _ _ _ S o34 o37 o4 o12 oc o139 o142 (Disj.symm (Disj.part (Disj.symm d133) s140)) (Disj.symm (Disj.part (Disj.symm d133) s143)) (Disj.symm (Disj.part (Disj.symm d134) s140)) (Disj.symm (Disj.part (Disj.symm d134) s143)) (Disj.symm (Disj.part (Disj.symm d135) s140)) (Disj.symm (Disj.part (Disj.symm d135) s143)) (Disj.symm (Disj.part (Disj.symm d136) s140)) (Disj.symm (Disj.part (Disj.symm d136) s143)) (Disj.symm (Disj.part (Disj.symm d137) s140)) (Disj.symm (Disj.part (Disj.symm d137) s143)) d144 h64 i65
   have hK145 ac w u N β (S : St Try.prog Try.f48.ntmps w0 F u N β (σ58.dl [17] [(20, .v (GT.val (⟨kn, sl⟩ : TKept) (⟨q32, q35⟩ : PKept))), (21, .v (slv x1.length q2.1)), (22, .v (slv x9.length q10.1)), (23, .v (pt q.1.b (q.1.off + 0 * 3)))] 2 []) ac w) (o34 : Ow w0 F u N F33 kn q32) (o37 : Ow w0 F u N F36 sl q35) (o4 : Ow w0 F u N F3 x1 q2) (o12 : Ow w0 F u N F11 x9 q10) (oc : Oc bs pbs G w0 F u N F q) (hNN : NN N0 u0 N u) (hBB : BB σ58.bx.length β0 β) : W 3 (mkL 7 [0, 1, 2, 3]) ac w := by
    refine ox1 hW 4 ?_
    refine id (S.callD1 (d := 24) oc (c_spec_l01Below w bs pbs G F q (S.cu oc) 4 (show In64 4 from ⟨by decide, by decide⟩)) fun ac w N x59 q146 F147 S h64 up o148 d149 ocn => ?_)
    refine WD.sl fun hC => ?_
    replace o34 := o34.upF d40 up
    replace o37 := o37.upF d43 up
    replace o4 := o4.upF (Disj.symm d7) up
    replace o12 := o12.upF (Disj.symm d16) up
    replace oc := ocn
    clear up d149
    have i65 : In64 x59 := o148.own
    have l150 := i65.lo; have l151 := i65.hi
    exact S.wh hW [] hC fun _ S => hK126 _ _ x59 _ _ _ S o34 o37 o4 o12 oc h64 i65
   have hK152 ac w (x59 : Int) u N β (S : St Try.prog Try.f48.ntmps w0 F u N β (σ58.dl [17] [(21, .v (slv x1.length q2.1)), (22, .v (slv x9.length q10.1)), (24, .v (I x59))] 2 []) ac w) (o34 : Ow w0 F u N F33 kn q32) (o37 : Ow w0 F u N F36 sl q35) (o4 : Ow w0 F u N F3 x1 q2) (o12 : Ow w0 F u N F11 x9 q10) (oc : Oc bs pbs G w0 F u N F q) (h64 : (((4 : Int) ≤ 0 → x59 = 0) ∧ ((0 : Int) < 4 → 0 ≤ x59 ∧ x59 < 4))) (i65 : (In64 x59)) : W 3 (mkL 7 [1, 2, 3, 4]) ac w := by
    have l153 := i65.lo; have l154 := i65.hi
    exact ox1 hW 0 (S.wl hW [] .nil fun _ _ _ S => hK126 _ _ x59 _ _ _ S o34 o37 o4 o12 oc h64 i65)
   have hK155 ac w u N β (S : St Try.prog Try.f48.ntmps w0 F u N β (σ58.dl [17] [(21, .v (slv x1.length q2.1)), (22, .v (slv x9.length q10.1)), (23, .v (pt q.1.b (q.1.off + 0 * 3)))] 2 []) ac w) (o34 : Ow w0 F u N F33 kn q32) (o37 : Ow w0 F u N F36 sl q35) (o4 : Ow w0 F u N F3 x1 q2) (o12 : Ow w0 F u N F11 x9 q10) (oc : Oc bs pbs G w0 F u N F q) (hNN : NN N0 u0 N u) (hBB : BB σ58.bx.length β0 β) : W 4 (mkL 7 [1, 2, 3]) ac w := by
    refine ox2 hW 0 4 (S.wq hW hNN hBB [] .nil fun _ _ _ S hB => hK145 _ _ _ _ _ S o34 o37 o4 o12 oc hNN hB) ?_
    refine id (S.callD1 (d := 24) oc (c_spec_l01Below w bs pbs G F q (S.cu oc) 4 (show In64 4 from ⟨by decide, by decide⟩)) fun ac w N x59 q156 F157 S h64 up o158 d159 ocn => ?_)
    refine WD.sl fun hC => ?_
    replace o34 := o34.upF d40 up
    replace o37 := o37.upF d43 up
    replace o4 := o4.upF (Disj.symm d7) up
    replace o12 := o12.upF (Disj.symm d16) up
    replace oc := ocn
    clear up d159
    have i65 : In64 x59 := o158.own
    have l160 := i65.lo; have l161 := i65.hi
    exact S.wh hW [] hC fun _ S => hK152 _ _ x59 _ _ _ S o34 o37 o4 o12 oc h64 i65
   rw [hW]
   exact S.wh hW [1, 2] (fun _ => S.rcx) fun _ S => hK155 _ _ _ _ _ S o34 o37 o4 o12 oc (fun _ h => ⟨h, rfl⟩) (fun _ _ => rfl)
  clear S o34 o37 o4 o12 oc
  rintro ac w ⟨x59, q97, F98, q100, F101, u, N, β, S, o4, o12, oc, o96, o99, d162, d163, d164, d165, d166, d167, d168, h64, i65⟩
  have l169 := i65.lo; have l170 := i65.hi
  refine S.ex fun S => ?_
  refine S.ge 7 (.cons (qp (i : Int) 1) .nil) f45 fun ac w β S => hf46.of (5 - (i + 1)) _ _ (by omega) ⟨i + 1, (f_fill (⟨kn, sl⟩ : TKept) x1 x9 x59).known, (f_fill (⟨kn, sl⟩ : TKept) x1 x9 x59).slots, q97, F98, q100, F101, _, _, _, rfl, ?_, ?_, ?_, S.z, o96, o99, o4, oc, o12, d168, (Disj.symm d162), (Disj.symm d166), (Disj.symm d164), (Disj.symm d163), (Disj.symm d167), (Disj.symm d165)⟩
  ·exact oz
  ·clear S; exact (fill_len _ _ _ _).1.trans hkn
  ·clear S; exact (fill_len _ _ _ _).2.trans hsl
 refine S.go 10 .nil fun ac w β S => S.KD1 (d := 27) oc (c_spec_l01Below w bs pbs G F q (S.cu oc) 10 (show In64 10 from ⟨by decide, by decide⟩)) fun ac w N x171 q172 F173 S h176 up o174 d175 ocn => ?_
 replace o34 := o34.upF d40 up
 replace o37 := o37.upF d43 up
 replace o4 := o4.upF (Disj.symm d7) up
 replace o12 := o12.upF (Disj.symm d16) up
 replace oc := ocn
 clear up d175
 have i177 : In64 x171 := o174.own
 have l178 := i177.lo; have l179 := i177.hi
 refine S.gd 9 .nil (x171 == 0) (fun ac w β h180 g181 S => ?_) (fun ac w β h180 g181 S => ?_)
 ·refine S.go 1 .nil fun ac w β S => ?_
  refine drw ?_
  let σ182 : Sy := ⟨[(0, .v (pt q.1.b (q.1.off + 0 * 3))), (2, .p 0 0), (5, .v (slv x1.length q2.1)), (6, .v (slv x9.length q10.1)), (7, .p 1 0), (27, .v (I x171)), (28, .v (B true))], [Zc TKept, [slv kn.length q32.1, slv sl.length q35.1]]⟩
  obtain ⟨u0, N0, β0, S, o34, o37, o4, o12, oc⟩ : ∃ u0 N0 β0, St Try.prog Try.f48.ntmps w0 F u0 N0 β0 σ182 ac w ∧ Ow w0 F u0 N0 F33 kn q32 ∧ Ow w0 F u0 N0 F36 sl q35 ∧ Ow w0 F u0 N0 F3 x1 q2 ∧ Ow w0 F u0 N0 F11 x9 q10 ∧ Oc bs pbs G w0 F u0 N0 F q := ⟨_, _, _, S.z, o34, o37, o4, o12, oc⟩
  refine wp_region_cut (fun ac w => ∃ x183 x198 q222 F223 u N β, St Try.prog Try.f48.ntmps w0 F u N β (σ182.dl [0, 27, 28] [] 2 [(1, [slv kn.length q32.1, slv (sl.set x183.toNat x198).length q222.1])]) ac w ∧ Ow w0 F u N F33 kn q32 ∧ Ow w0 F u N F3 x1 q2 ∧ Ow w0 F u N F11 x9 q10 ∧ Oc bs pbs G w0 F u N F q ∧ Ow w0 F u N F223 (sl.set x183.toNat x198) q222 ∧ Disj F33 F223 ∧ Disj F3 F223 ∧ Disj F11 F223 ∧ Disj F F223 ∧ (((4 : Int) ≤ 0 → x183 = 0) ∧ ((0 : Int) < 4 → 0 ≤ x183 ∧ x183 < 4)) ∧ (In64 x183) ∧ (RSlot x198)) ?_ ?_
  ·refine S.draw0 (f := 8) 3 (by kernel_rfl) (by kernel_rfl) fun w S => ?_
   refine S.hq 2 [2] [] [(32, .v (pt q.1.b (q.1.off + 0 * 3)))] .nil fun ac S => ?_
   refine WD.nameW fun W hW => ?_
   refine WD.castW (l' := mkL 8 [2]) (by kernel_rfl) ?_
   have hK224 ac w (x183 : Int) (x198 : TSlot) q222 F223 u N β (S : St Try.prog Try.f48.ntmps w0 F u N β (σ182.dl [0, 27, 28] [] 2 [(1, [slv kn.length q32.1, slv (sl.set x183.toNat x198).length q222.1])]) ac w) (o34 : Ow w0 F u N F33 kn q32) (o4 : Ow w0 F u N F3 x1 q2) (o12 : Ow w0 F u N F11 x9 q10) (oc : Oc bs pbs G w0 F u N F q) (o221 : Ow w0 F u N F223 (sl.set x183.toNat x198) q222) (d225 : Disj F33 F223) (d226 : Disj F3 F223) (d227 : Disj F11 F223) (d228 : Disj F F223) (h188 : (((4 : Int) ≤ 0 → x183 = 0) ∧ ((0 : Int) < 4 → 0 ≤ x183 ∧ x183 < 4))) (i189 : (In64 x183)) (i204 : (RSlot x198)) : W 0 (mkL 8 [0, 1, 2, 3, 4, 5, 6, 7]) ac w := by
    have l229 := i189.lo; have l230 := i189.hi
    exact od hW ⟨rfl, x183, x198, q222, F223, _, _, _, S.z, o34, o4, o12, oc, o221, d225, d226, d227, d228, h188, i189, i204⟩
   have hK231 ac w (x183 : Int) (x198 : TSlot) u N β (S : St Try.prog Try.f48.ntmps w0 F u N β (σ182.dl [0, 27, 28] [(35, .v (GT.val x198 ())), (36, .v (pt q35.1.b (q35.1.off + x183.toNat * 2)))] 2 []) ac w) (o34 : Ow w0 F u N F33 kn q32) (o37 : Ow w0 F u N F36 sl q35) (o4 : Ow w0 F u N F3 x1 q2) (o12 : Ow w0 F u N F11 x9 q10) (oc : Oc bs pbs G w0 F u N F q) (h188 : (((4 : Int) ≤ 0 → x183 = 0) ∧ ((0 : Int) < 4 → 0 ≤ x183 ∧ x183 < 4))) (i189 : (In64 x183)) (i204 : (RSlot x198)) : W 1 (mkL 8 [0, 1, 2, 3, 4, 5, 6]) ac w := by
    have l232 := i189.lo; have l233 := i189.hi
    refine ox1 hW 7 ?_
    have e234 : RSlot (el sl x183.toNat) := (LRd.el o37.rn x183.toNat (by omega))
    refine id (S.sF (α := TSlot) o37 (t := 54) (k := x183.toNat) (j := 0) (off := q35.1.off + x183.toNat * 2) (v := GT.val x198 ()) (y := x198) (q := ()) (fun _ _ _ => ⟨NoB, i204, fun _ h => False.elim h⟩) fun w N F236 q237 S up o235 d238 s239 n240 => ?_)
    refine WD.sl fun hC => ?_
    have d241 := d238 _ d38 (fun b _ h => False.elim h) o34.sub
    have d242 := d238 _ (Disj.symm d42) (fun b _ h => False.elim h) o4.sub
    have d243 := d238 _ (Disj.symm d44) (fun b _ h => False.elim h) o12.sub
    have d244 := d238 _ (Disj.symm d43) (fun b _ h => False.elim h) oc.sub
    replace o34 := o34.upF d38 up
    replace o4 := o4.upF (Disj.symm d42) up
    replace o12 := o12.upF (Disj.symm d44) up
    replace oc := oc.upF (Disj.symm d43) up
    clear up d238 o37 n240
    have l245 : (sl.set x183.toNat x198).length = sl.length := List.length_set
    replace S := S.z (σ' := ⟨[(2, .p 0 0), (5, .v (slv x1.length q2.1)), (6, .v (slv x9.length q10.1)), (7, .p 1 0), (35, .v (GT.val x198 ())), (36, .v (pt q35.1.b (q35.1.off + x183.toNat * 2)))], [Zc TKept, [slv kn.length q32.1, slv sl.length q35.1]]⟩)
    replace S := S.cast (σ' := ⟨[(2, .p 0 0), (5, .v (slv x1.length q2.1)), (6, .v (slv x9.length q10.1)), (7, .p 1 0), (35, .v (GT.val x198 ())), (36, .v (pt q35.1.b (q35.1.off + x183.toNat * 2)))], [Zc TKept, [slv kn.length q32.1, slv (sl.set x183.toNat x198).length q35.1]]⟩) (by rw [show (sl.set x183.toNat x198).length = sl.length by omega])
    exact S.wh hW [] hC fun _ S => hK224 _ _ x183 x198 (q35.1, q237) F236 _ _ _ S o34 o4 o12 oc o235 d241 d242 d243 d244 h188 i189 i204
   have hK246 ac w (x183 : Int) (x198 : TSlot) u N β (S : St Try.prog Try.f48.ntmps w0 F u N β (σ182.dl [0, 27, 28] [(31, .v (slv sl.length q35.1)), (33, .v (I x183)), (35, .v (GT.val x198 ()))] 2 []) ac w) (o34 : Ow w0 F u N F33 kn q32) (o37 : Ow w0 F u N F36 sl q35) (o4 : Ow w0 F u N F3 x1 q2) (o12 : Ow w0 F u N F11 x9 q10) (oc : Oc bs pbs G w0 F u N F q) (h188 : (((4 : Int) ≤ 0 → x183 = 0) ∧ ((0 : Int) < 4 → 0 ≤ x183 ∧ x183 < 4))) (i189 : (In64 x183)) (i204 : (RSlot x198)) : W 2 (mkL 8 [0, 1, 2, 3, 4, 5]) ac w := by
    have l247 := i189.lo; have l248 := i189.hi
    exact ox1 hW 6 (S.wl hW [] (.cons (qt o37.rn x183 Try.underlying37) .nil) fun _ _ _ S => hK231 _ _ x183 x198 _ _ _ S o34 o37 o4 o12 oc h188 i189 i204)
   have hK249 ac w (x183 : Int) u N β (S : St Try.prog Try.f48.ntmps w0 F u N β (σ182.dl [0, 27, 28] [(31, .v (slv sl.length q35.1)), (33, .v (I x183)), (34, .v (pt q.1.b (q.1.off + 0 * 3)))] 2 []) ac w) (o34 : Ow w0 F u N F33 kn q32) (o37 : Ow w0 F u N F36 sl q35) (o4 : Ow w0 F u N F3 x1 q2) (o12 : Ow w0 F u N F11 x9 q10) (oc : Oc bs pbs G w0 F u N F q) (h188 : (((4 : Int) ≤ 0 → x183 = 0) ∧ ((0 : Int) < 4 → 0 ≤ x183 ∧ x183 < 4))) (i189 : (In64 x183)) : W 3 (mkL 8 [0, 1, 2, 3, 4]) ac w := by
    have l250 := i189.lo; have l251 := i189.hi
    refine ox1 hW 5 ?_
    refine id (S.callD1 (d := 35) oc (c_spec_l03Any w bs pbs G F q (S.cu oc) 24 (show In64 24 from ⟨by decide, by decide⟩)) fun ac w N x198 q252 F253 S h203 up o254 d255 ocn => ?_)
    refine WD.sl fun hC => ?_
    replace o34 := o34.upF d40 up
    replace o37 := o37.upF d43 up
    replace o4 := o4.upF (Disj.symm d7) up
    replace o12 := o12.upF (Disj.symm d16) up
    replace oc := ocn
    clear up d255
    have i204 : RSlot x198 := o254.own
    exact S.wh hW [] hC fun _ S => hK246 _ _ x183 x198 _ _ _ S o34 o37 o4 o12 oc h188 i189 i204
   have hK256 ac w (x183 : Int) (x198 : TSlot) u N β (S : St Try.prog Try.f48.ntmps w0 F u N β (σ182.dl [0, 27, 28] [(30, .p 1 1), (33, .v (I x183)), (35, .v (GT.val x198 ()))] 2 []) ac w) (o34 : Ow w0 F u N F33 kn q32) (o37 : Ow w0 F u N F36 sl q35) (o4 : Ow w0 F u N F3 x1 q2) (o12 : Ow w0 F u N F11 x9 q10) (oc : Oc bs pbs G w0 F u N F q) (h188 : (((4 : Int) ≤ 0 → x183 = 0) ∧ ((0 : Int) < 4 → 0 ≤ x183 ∧ x183 < 4))) (i189 : (In64 x183)) (i204 : (RSlot x198)) : W 3 (mkL 8 [0, 2, 3, 4, 5]) ac w := by
    have l257 := i189.lo; have l258 := i189.hi
    exact ox1 hW 1 (S.wl hW [] .nil fun _ _ _ S => hK246 _ _ x183 x198 _ _ _ S o34 o37 o4 o12 oc h188 i189 i204)
   have hK259 ac w u N β (S : St Try.prog Try.f48.ntmps w0 F u N β (σ182.dl [0, 27, 28] [(31, .v (slv sl.length q35.1)), (32, .v (pt q.1.b (q.1.off + 0 * 3))), (34, .v (pt q.1.b (q.1.off + 0 * 3)))] 2 []) ac w) (o34 : Ow w0 F u N F33 kn q32) (o37 : Ow w0 F u N F36 sl q35) (o4 : Ow w0 F u N F3 x1 q2) (o12 : Ow w0 F u N F11 x9 q10) (oc : Oc bs pbs G w0 F u N F q) (hNN : NN N0 u0 N u) (hBB : BB σ182.bx.length β0 β) : W 4 (mkL 8 [0, 1, 2, 4]) ac w := by
    refine ox1 hW 3 ?_
    refine id (S.callD1 (d := 33) oc (c_spec_l01Below w bs pbs G F q (S.cu oc) 4 (show In64 4 from ⟨by decide, by decide⟩)) fun ac w N x183 q260 F261 S h188 up o262 d263 ocn => ?_)
    refine WD.sl fun hC => ?_
    replace o34 := o34.upF d40 up
    replace o37 := o37.upF d43 up
    replace o4 := o4.upF (Disj.symm d7) up
    replace o12 := o12.upF (Disj.symm d16) up
    replace oc := ocn
    clear up d263
    have i189 : In64 x183 := o262.own
    have l264 := i189.lo; have l265 := i189.hi
    exact S.wh hW [] hC fun _ S => hK249 _ _ x183 _ _ _ S o34 o37 o4 o12 oc h188 i189
   have hK266 ac w (x183 : Int) u N β (S : St Try.prog Try.f48.ntmps w0 F u N β (σ182.dl [0, 27, 28] [(30, .p 1 1), (33, .v (I x183)), (34, .v (pt q.1.b (q.1.off + 0 * 3)))] 2 []) ac w) (o34 : Ow w0 F u N F33 kn q32) (o37 : Ow w0 F u N F36 sl q35) (o4 : Ow w0 F u N F3 x1 q2) (o12 : Ow w0 F u N F11 x9 q10) (oc : Oc bs pbs G w0 F u N F q) (h188 : (((4 : Int) ≤ 0 → x183 = 0) ∧ ((0 : Int) < 4 → 0 ≤ x183 ∧ x183 < 4))) (i189 : (In64 x183)) : W 4 (mkL 8 [0, 2, 3, 4]) ac w := by
    have l267 := i189.lo; have l268 := i189.hi
    refine ox2 hW 1 5 (S.wl hW [] .nil fun _ _ _ S => hK249 _ _ x183 _ _ _ S o34 o37 o4 o12 oc h188 i189) ?_
    refine id (S.callD1 (d := 35) oc (c_spec_l03Any w bs pbs G F q (S.cu oc) 24 (show In64 24 from ⟨by decide, by decide⟩)) fun ac w N x198 q269 F270 S h203 up o271 d272 ocn => ?_)
    refine WD.sl fun hC => ?_
    replace o34 := o34.upF d40 up
    replace o37 := o37.upF d43 up
    replace o4 := o4.upF (Disj.symm d7) up
    replace o12 := o12.upF (Disj.symm d16) up
    replace oc := ocn
    clear up d272
    have i204 : RSlot x198 := o271.own
    exact S.wh hW [] hC fun _ S => hK256 _ _ x183 x198 _ _ _ S o34 o37 o4 o12 oc h188 i189 i204
   have hK273 ac w u N β (S : St Try.prog Try.f48.ntmps w0 F u N β (σ182.dl [0, 27, 28] [(30, .p 1 1), (32, .v (pt q.1.b (q.1.off + 0 * 3))), (34, .v (pt q.1.b (q.1.off + 0 * 3)))] 2 []) ac w) (o34 : Ow w0 F u N F33 kn q32) (o37 : Ow w0 F u N F36 sl q35) (o4 : Ow w0 F u N F3 x1 q2) (o12 : Ow w0 F u N F11 x9 q10) (oc : Oc bs pbs G w0 F u N F q) (hNN : NN N0 u0 N u) (hBB : BB σ182.bx.length β0 β) : W 5 (mkL 8 [0, 2, 4]) ac w := by
    refine ox2 hW 1 3 (S.wq hW hNN hBB [] .nil fun _ _ _ S hB => hK259 _ _ _ _ _ S o34 o37 o4 o12 oc hNN hB) ?_
    refine id (S.callD1 (d := 33) oc (c_spec_l01Below w bs pbs G F q (S.cu oc) 4 (show In64 4 from ⟨by decide, by decide⟩)) fun ac w N x183 q274 F275 S h188 up o276 d277 ocn => ?_)
    refine WD.sl fun hC => ?_
    replace o34 := o34.upF d40 up
    replace o37 := o37.upF d43 up
    replace o4 := o4.upF (Disj.symm d7) up
    replace o12 := o12.upF (Disj.symm d16) up
    replace oc := ocn
    clear up d277
    have i189 : In64 x183 := o276.own
    have l278 := i189.lo; have l279 := i189.hi
    exact S.wh hW [] hC fun _ S => hK266 _ _ x183 _ _ _ S o34 o37 o4 o12 oc h188 i189
   rw [hW]
   exact S.wh hW [0, 4] (fun _ => S.rcx) fun _ S => hK273 _ _ _ _ _ S o34 o37 o4 o12 oc (fun _ h => ⟨h, rfl⟩) (fun _ _ => rfl)
  clear S o34 o37 o4 o12 oc
  rintro ac w ⟨x183, x198, q222, F223, u, N, β, S, o34, o4, o12, oc, o221, d280, d281, d282, d283, h188, i189, i204⟩
  have l284 := i189.lo; have l285 := i189.hi
  refine S.ex fun S => ?_
  refine S.gr 13 .nil [GT.val (⟨kn, (sl.set x183.toNat x198)⟩ : TKept) (⟨q32, q222⟩ : PKept), slv x1.length q2.1, slv x9.length q10.1] fun ac w β S => ?_
  have o286 := ow_Kept (x := (⟨kn, (sl.set x183.toNat x198)⟩ : TKept)) (p := (⟨q32, q222⟩ : PKept)) o34 o221 d280 
  exact retD3_of S (show True by clear S; trivial) rfl rfl rfl o286 o4 o12 (Disj.or d40 (Disj.or (Disj.symm d283) Disj.nob)) (Disj.symm d7) (Disj.symm d16) (Disj.or d39 (Disj.or (Disj.symm d281) Disj.nob)) (Disj.or d41 (Disj.or (Disj.symm d282) Disj.nob)) d15 oc
 refine S.gd 7 .nil (x171 == 1) (fun ac w β h287 g288 S => ?_) (fun ac w β h287 g288 S => ?_)
 ·refine S.go 1 .nil fun ac w β S => ?_
  refine drw ?_
  let σ289 : Sy := ⟨[(0, .v (pt q.1.b (q.1.off + 0 * 3))), (2, .p 0 0), (5, .v (slv x1.length q2.1)), (6, .v (slv x9.length q10.1)), (7, .p 1 0), (27, .v (I x171)), (37, .v (B true))], [Zc TKept, [slv kn.length q32.1, slv sl.length q35.1]]⟩
  obtain ⟨u0, N0, β0, S, o34, o37, o4, o12, oc⟩ : ∃ u0 N0 β0, St Try.prog Try.f48.ntmps w0 F u0 N0 β0 σ289 ac w ∧ Ow w0 F u0 N0 F33 kn q32 ∧ Ow w0 F u0 N0 F36 sl q35 ∧ Ow w0 F u0 N0 F3 x1 q2 ∧ Ow w0 F u0 N0 F11 x9 q10 ∧ Oc bs pbs G w0 F u0 N0 F q := ⟨_, _, _, S.z, o34, o37, o4, o12, oc⟩
  refine wp_region_cut (fun ac w => ∃ x290  u N β, St Try.prog Try.f48.ntmps w0 F u N β (σ289.dl [0, 27, 37] [] 2 [(1, [slv x290.toNat (q32.1.sl 0 1), slv sl.length q35.1])]) ac w ∧ Ow w0 F u N F33 kn q32 ∧ Ow w0 F u N F36 sl q35 ∧ Ow w0 F u N F3 x1 q2 ∧ Ow w0 F u N F11 x9 q10 ∧ Oc bs pbs G w0 F u N F q ∧ (((4 : Int) ≤ 0 → x290 = 0) ∧ ((0 : Int) < 4 → 0 ≤ x290 ∧ x290 < 4)) ∧ (In64 x290)) ?_ ?_
  ·refine S.draw0 (f := 7) 3 (by kernel_rfl) (by kernel_rfl) fun w S => ?_
   refine S.hq 2 [2] [] [(41, .v (pt q.1.b (q.1.off + 0 * 3)))] .nil fun ac S => ?_
   refine WD.nameW fun W hW => ?_
   refine WD.castW (l' := mkL 7 [2]) (by kernel_rfl) ?_
   have hK306 ac w (x290 : Int) u N β (S : St Try.prog Try.f48.ntmps w0 F u N β (σ289.dl [0, 27, 37] [] 2 [(1, [slv x290.toNat (q32.1.sl 0 1), slv sl.length q35.1])]) ac w) (o34 : Ow w0 F u N F33 kn q32) (o37 : Ow w0 F u N F36 sl q35) (o4 : Ow w0 F u N F3 x1 q2) (o12 : Ow w0 F u N F11 x9 q10) (oc : Oc bs pbs G w0 F u N F q) (h295 : (((4 : Int) ≤ 0 → x290 = 0) ∧ ((0 : Int) < 4 → 0 ≤ x290 ∧ x290 < 4))) (i296 : (In64 x290)) : W 0 (mkL 7 [0, 1, 2, 3, 4, 5, 6]) ac w := by
    have l307 := i296.lo; have l308 := i296.hi
    exact od hW ⟨rfl, x290, _, _, _, S.z, o34, o37, o4, o12, oc, h295, i296⟩
   have hK309 ac w (x290 : Int) u N β (S : St Try.prog Try.f48.ntmps w0 F u N β (σ289.dl [0, 27, 37] [(43, .v (slv x290.toNat (q32.1.sl 0 1))), (44, .p 1 0)] 2 []) ac w) (o34 : Ow w0 F u N F33 kn q32) (o37 : Ow w0 F u N F36 sl q35) (o4 : Ow w0 F u N F3 x1 q2) (o12 : Ow w0 F u N F11 x9 q10) (oc : Oc bs pbs G w0 F u N F q) (h295 : (((4 : Int) ≤ 0 → x290 = 0) ∧ ((0 : Int) < 4 → 0 ≤ x290 ∧ x290 < 4))) (i296 : (In64 x290)) : W 1 (mkL 7 [0, 1, 2, 3, 4, 5]) ac w := by
    have l310 := i296.lo; have l311 := i296.hi
    exact ox1 hW 6 (S.wl hW [] .nil fun _ _ _ S => hK306 _ _ x290 _ _ _ S o34 o37 o4 o12 oc h295 i296)
   have hK312 ac w (x290 : Int) u N β (S : St Try.prog Try.f48.ntmps w0 F u N β (σ289.dl [0, 27, 37] [(40, .v (slv kn.length q32.1)), (42, .v (I x290))] 2 []) ac w) (o34 : Ow w0 F u N F33 kn q32) (o37 : Ow w0 F u N F36 sl q35) (o4 : Ow w0 F u N F3 x1 q2) (o12 : Ow w0 F u N F11 x9 q10) (oc : Oc bs pbs G w0 F u N F q) (h295 : (((4 : Int) ≤ 0 → x290 = 0) ∧ ((0 : Int) < 4 → 0 ≤ x290 ∧ x290 < 4))) (i296 : (In64 x290)) : W 3 (mkL 7 [0, 1, 2, 3]) ac w := by
    have l313 := i296.lo; have l314 := i296.hi
    have l315 : (kn.take x290.toNat).length = x290.toNat - 0 := by first | (simp; done) | (simp; omega)
    exact ox1 hW 4 (S.wl hW [5] (.cons (Q_slice (hi := some (I x290)) o34.rn (l := kn.length) (a := 0) (b := x290.toNat) rfl (.inl ⟨rfl, rfl⟩) (.inr (congrArg (fun z => some (I z)) (show x290 = ((x290.toNat : Nat) : Int) by omega))) (by omega) (by omega) Try.underlying38 (by kernel_rfl)) .nil) fun _ _ _ S => hK309 _ _ x290 _ _ _ S o34 o37 o4 o12 oc h295 i296)
   have hK316 ac w u N β (S : St Try.prog Try.f48.ntmps w0 F u N β (σ289.dl [0, 27, 37] [(40, .v (slv kn.length q32.1)), (41, .v (pt q.1.b (q.1.off + 0 * 3)))] 2 []) ac w) (o34 : Ow w0 F u N F33 kn q32) (o37 : Ow w0 F u N F36 sl q35) (o4 : Ow w0 F u N F3 x1 q2) (o12 : Ow w0 F u N F11 x9 q10) (oc : Oc bs pbs G w0 F u N F q) (hNN : NN N0 u0 N u) (hBB : BB σ289.bx.length β0 β) : W 4 (mkL 7 [0, 1, 2]) ac w := by
    refine ox1 hW 3 ?_
    refine id (S.callD1 (d := 42) oc (c_spec_l01Below w bs pbs G F q (S.cu oc) 4 (show In64 4 from ⟨by decide, by decide⟩)) fun ac w N x290 q317 F318 S h295 up o319 d320 ocn => ?_)
    refine WD.sl fun hC => ?_
    replace o34 := o34.upF d40 up
    replace o37 := o37.upF d43 up
    replace o4 := o4.upF (Disj.symm d7) up
    replace o12 := o12.upF (Disj.symm d16) up
    replace oc := ocn
    clear up d320
    have i296 : In64 x290 := o319.own
    have l321 := i296.lo; have l322 := i296.hi
    exact S.wh hW [] hC fun _ S => hK312 _ _ x290 _ _ _ S o34 o37 o4 o12 oc h295 i296
   have hK323 ac w (x290 : Int) u N β (S : St Try.prog Try.f48.ntmps w0 F u N β (σ289.dl [0, 27, 37] [(39, .p 1 0), (42, .v (I x290))] 2 []) ac w) (o34 : Ow w0 F u N F33 kn q32) (o37 : Ow w0 F u N F36 sl q35) (o4 : Ow w0 F u N F3 x1 q2) (o12 : Ow w0 F u N F11 x9 q10) (oc : Oc bs pbs G w0 F u N F q) (h295 : (((4 : Int) ≤ 0 → x290 = 0) ∧ ((0 : Int) < 4 → 0 ≤ x290 ∧ x290 < 4))) (i296 : (In64 x290)) : W 4 (mkL 7 [0, 2, 3]) ac w := by
    have l324 := i296.lo; have l325 := i296.hi
    exact ox1 hW 1 (S.wl hW [] .nil fun _ _ _ S => hK312 _ _ x290 _ _ _ S o34 o37 o4 o12 oc h295 i296)
   have hK326 ac w u N β (S : St Try.prog Try.f48.ntmps w0 F u N β (σ289.dl [0, 27, 37] [(39, .p 1 0), (41, .v (pt q.1.b (q.1.off + 0 * 3)))] 2 []) ac w) (o34 : Ow w0 F u N F33 kn q32) (o37 : Ow w0 F u N F36 sl q35) (o4 : Ow w0 F u N F3 x1 q2) (o12 : Ow w0 F u N F11 x9 q10) (oc : Oc bs pbs G w0 F u N F q) (hNN : NN N0 u0 N u) (hBB : BB σ289.bx.length β0 β) : W 5 (mkL 7 [0, 2]) ac w := by
    refine ox2 hW 1 3 (S.wq hW hNN hBB [] .nil fun _ _ _ S hB => hK316 _ _ _ _ _ S o34 o37 o4 o12 oc hNN hB) ?_
    refine id (S.callD1 (d := 42) oc (c_spec_l01Below w bs pbs G F q (S.cu oc) 4 (show In64 4 from ⟨by decide, by decide⟩)) fun ac w N x290 q327 F328 S h295 up o329 d330 ocn => ?_)
    refine WD.sl fun hC => ?_
    replace o34 := o34.upF d40 up
    replace o37 := o37.upF d43 up
    replace o4 := o4.upF (Disj.symm d7) up
    replace o12 := o12.upF (Disj.symm d16) up
    replace oc := ocn
    clear up d330
    have i296 : In64 x290 := o329.own
    have l331 := i296.lo; have l332 := i296.hi
    exact S.wh hW [] hC fun _ S => hK323 _ _ x290 _ _ _ S o34 o37 o4 o12 oc h295 i296
   rw [hW]
   exact S.wh hW [0] (fun _ => S.rcx) fun _ S => hK326 _ _ _ _ _ S o34 o37 o4 o12 oc (fun _ h => ⟨h, rfl⟩) (fun _ _ => rfl)
  clear S o34 o37 o4 o12 oc
  rintro ac w ⟨x290, u, N, β, S, o34, o37, o4, o12, oc, h295, i296⟩
  have l333 := i296.lo; have l334 := i296.hi
  refine S.ex fun S => ?_
  replace S := S.z (σ' := ⟨[(2, .p 0 0), (5, .v (slv x1.length q2.1)), (6, .v (slv x9.length q10.1)), (7, .p 1 0)], [Zc TKept, [slv x290.toNat (q32.1.sl 0 1), slv sl.length q35.1]]⟩)
  replace S := S.cast (σ' := ⟨[(2, .p 0 0), (5, .v (slv x1.length q2.1)), (6, .v (slv x9.length q10.1)), (7, .p 1 0)], [Zc TKept, [slv (kn.take x290.toNat).length (q32.1.sl 0 1), slv sl.length q35.1]]⟩) (by rw [show (kn.take x290.toNat).length = x290.toNat by first | omega | (simp; omega)])
  refine S.is fun S => ?_
  refine S.gr 13 .nil [GT.val (⟨(kn.take x290.toNat), sl⟩ : TKept) (⟨(q32.1.sl 0 1, fun i => q32.2 (0 + i)), q35⟩ : PKept), slv x1.length q2.1, slv x9.length q10.1] fun ac w β S => ?_
  have o335 : Ow w0 F _ _ F33 (kn.take x290.toNat) (q32.1.sl 0 1, fun i => q32.2 (0 + i)) := Ow.sl o34 (a := 0) (b := x290.toNat) (by omega) (by omega)
  have o336 := ow_Kept (x := (⟨(kn.take x290.toNat), sl⟩ : TKept)) (p := (⟨(q32.1.sl 0 1, fun i => q32.2 (0 + i)), q35⟩ : PKept)) o335 o37 (Disj.symm (Disj.symm d38)) 
  exact retD3_of S (show True by clear S; trivial) rfl rfl rfl o336 o4 o12 (Disj.or (Disj.symm (Disj.symm d40)) (Disj.or d43 Disj.nob)) (Disj.symm d7) (Disj.symm d16) (Disj.or (Disj.symm (Disj.symm d39)) (Disj.or d42 Disj.nob)) (Disj.or (Disj.symm (Disj.symm d41)) (Disj.or d44 Disj.nob)) d15 oc
 refine S.gd 7 .nil (x171 == 2) (fun ac w β h337 g338 S => ?_) (fun ac w β h337 g338 S => ?_)
 ·refine S.go 4 .nil fun ac w β S => S.KD1 (d := 49) oc (c_spec_l01Below w bs pbs G F q (S.cu oc) 4 (show In64 4 from ⟨by decide, by decide⟩)) fun ac w N x339 q340 F341 S h344 up o342 d343 ocn => ?_
  replace o34 := o34.upF d40 up
  replace o37 := o37.upF d43 up
  replace o4 := o4.upF (Disj.symm d7) up
  replace o12 := o12.upF (Disj.symm d16) up
  replace oc := ocn
  clear up d343
  have i345 : In64 x339 := o342.own
  have l346 := i345.lo; have l347 := i345.hi
  have l348 : (x1.take x339.toNat).length = x339.toNat - 0 := by first | (simp; done) | (simp; omega)
  refine S.gr 16 (.cons (Q_slice (hi := some (I x339)) o4.rn (l := x1.length) (a := 0) (b := x339.toNat) rfl (.inl ⟨rfl, rfl⟩) (.inr (congrArg (fun z => some (I z)) (show x339 = ((x339.toNat : Nat) : Int) by omega))) (by omega) (by omega) Try.underlying37 (by kernel_rfl)) .nil) [GT.val (⟨kn, sl⟩ : TKept) (⟨q32, q35⟩ : PKept), slv x339.toNat (q2.1.sl 0 2), slv x9.length q10.1] fun ac w β S => ?_
  have o349 := ow_Kept (x := (⟨kn, sl⟩ : TKept)) (p := (⟨q32, q35⟩ : PKept)) o34 o37 d38 
  have o350 : Ow w0 F _ _ F3 (x1.take x339.toNat) (q2.1.sl 0 2, fun i => q2.2 (0 + i)) := Ow.sl o4 (a := 0) (b := x339.toNat) (by omega) (by omega)
  exact retD3_of S (show True by clear S; trivial) rfl (show slv x339.toNat (q2.1.sl 0 2) = GT.val (x1.take x339.toNat) ((q2.1.sl 0 2, fun i => q2.2 (0 + i)) : LP TSlot) from congrArg (fun z => slv z (q2.1.sl 0 2)) (show x339.toNat = (x1.take x339.toNat).length by omega)) rfl o349 o350 o12 (Disj.or d40 (Disj.or d43 Disj.nob)) (Disj.symm d7) (Disj.symm d16) (Disj.or d39 (Disj.or d42 Disj.nob)) (Disj.or d41 (Disj.or d44 Disj.nob)) (Disj.symm (Disj.symm d15)) oc
 refine S.gd 7 .nil (x171 == 3) (fun ac w β h351 g352 S => ?_) (fun ac w β h351 g352 S => ?_)
 ·refine S.go 3 .nil fun ac w β S => S.KD1 (d := 54) oc (c_spec_l03AnyTable w bs pbs G F q (S.cu oc) 8 (show In64 8 from ⟨by decide, by decide⟩) 24 (show In64 24 from ⟨by decide, by decide⟩) (by omega)) fun ac w N x353 q354 F355 S h358 up o356 d357 ocn => ?_
  have d359 := Disj.w d357 o34.sub
  have d360 := Disj.w d357 o37.sub
  have d361 := Disj.w d357 o4.sub
  have d362 := Disj.w d357 oc.sub
  replace o34 := o34.upF d40 up
  replace o37 := o37.upF d43 up
  replace o4 := o4.upF (Disj.symm d7) up
  replace oc := ocn
  clear up d357
  have l363 := LRd.le o356.rn
  refine S.gr 15 .nil [GT.val (⟨kn, sl⟩ : TKept) (⟨q32, q35⟩ : PKept), slv x1.length q2.1, slv x353.length q354.1] fun ac w β S => ?_
  have o364 := ow_Kept (x := (⟨kn, sl⟩ : TKept)) (p := (⟨q32, q35⟩ : PKept)) o34 o37 d38 
  exact retD3_of S (show True by clear S; trivial) rfl rfl rfl o364 o4 o356 (Disj.or d40 (Disj.or d43 Disj.nob)) (Disj.symm d7) (Disj.symm d362) (Disj.or d39 (Disj.or d42 Disj.nob)) (Disj.or d359 (Disj.or d360 Disj.nob)) d361 oc
 refine S.gr 15 .nil [GT.val (⟨kn, sl⟩ : TKept) (⟨q32, q35⟩ : PKept), slv x1.length q2.1, slv x9.length q10.1] fun ac w β S => ?_
 have o365 := ow_Kept (x := (⟨kn, sl⟩ : TKept)) (p := (⟨q32, q35⟩ : PKept)) o34 o37 d38 
 exact retD3_of S (show True by clear S; trivial) rfl rfl rfl o365 o4 o12 (Disj.or d40 (Disj.or d43 Disj.nob)) (Disj.symm d7) (Disj.symm d16) (Disj.or d39 (Disj.or d42 Disj.nob)) (Disj.or d41 (Disj.or d44 Disj.nob)) d15 oc

theorem c_spec_l03Page (w0 : World) (bs : List TByte) (pbs : LP TByte) (G F : Bl) (q : LP TCur) (hc : Cu bs pbs G F w0 q) : Calls Try.prog 49 [pt q.1.b (q.1.off + 0 * 3)].toArray w0 (RetD1 bs pbs G F q w0 (fun (r : Int) => True)) := by
 refine Calls.run F Try.func49 ?_
 intro ac β S
 have oc := hc.oc
 refine S.go 8 .nil fun ac w β S => S.BF ([0, 1, 2, 3, 3, 4, 7, 8, (-1), 9223372036854775807, (-9223372036854775808)] : List Int) () (d := 4) (List.forall_mem_cons.2 ⟨fun _ => (show In64 0 from ⟨by decide, by decide⟩), List.forall_mem_cons.2 ⟨fun _ => (show In64 1 from ⟨by decide, by decide⟩), List.forall_mem_cons.2 ⟨fun _ => (show In64 2 from ⟨by decide, by decide⟩), List.forall_mem_cons.2 ⟨fun _ => (show In64 3 from ⟨by decide, by decide⟩), List.forall_mem_cons.2 ⟨fun _ => (show In64 3 from ⟨by decide, by decide⟩), List.forall_mem_cons.2 ⟨fun _ => (show In64 4 from ⟨by decide, by decide⟩), List.forall_mem_cons.2 ⟨fun _ => (show In64 7 from ⟨by decide, by decide⟩), List.forall_mem_cons.2 ⟨fun _ => (show In64 8 from ⟨by decide, by decide⟩), List.forall_mem_cons.2 ⟨fun _ => (show In64 (-1) from ⟨by decide, by decide⟩), List.forall_mem_cons.2 ⟨fun _ => (show In64 9223372036854775807 from ⟨by decide, by decide⟩), List.forall_mem_cons.2 ⟨fun _ => (show In64 (-9223372036854775808) from ⟨by decide, by decide⟩), List.forall_mem_nil _⟩⟩⟩⟩⟩⟩⟩⟩⟩⟩⟩) (show 11 ≤ 4194304 by decide) fun ac w N q1 F2 S up o3 d4 => ?_
 have d5 := Disj.w d4 oc.sub
 replace oc := oc.up up
 clear up d4
 refine S.KD1 (d := 5) oc (c_spec_l01PickInt w bs pbs G F q (S.cu oc) ([0, 1, 2, 3, 3, 4, 7, 8, (-1), 9223372036854775807, (-9223372036854775808)] : List Int) q1 F2 (GT.own_rd (S.ownw o3)) (fun b hb => ⟨(S.sep b (o3.sub b hb)).1, (Disj.symm d5) b hb⟩) (by first | omega | decide | (simp; done))) fun ac w N x6 q7 F8 S h11 up o9 d10 ocn => ?_
 replace oc := ocn
 clear up d10
 have i12 : In64 x6 := o9.own
 have l13 := i12.lo; have l14 := i12.hi
 refine S.gr 4 .nil [I x6] fun ac w β S => ?_
 exact retD1_of (F1 := NoB) (p := ()) S (show True by clear S; trivial) rfl ⟨i12, fun _ h => False.elim h, fun _ h => False.elim h⟩ (fun b h _ => False.elim h) oc

theorem c_spec_DrawFill (w0 : World) (code : List TByte) (pcode : LP TByte) (hcode : RD w0 code pcode) (pre0 : code.length ≤ 1048576) : Calls Try.prog 10 [slv code.length pcode.1].toArray w0 (RetE4 w0 (fun (r1 : TKept) (r2 : List TSlot) (r3 : List TSlot) (r4 : Int) => True)) := by
 refine Calls.run NoB Try.func10 ?_
 intro ac β S
 have hlecode : code.length ≤ 4194304 := LRd.le hcode
 refine S.go 11 .nil fun ac w β S => S.KNw (d := 11) hcode (fun _ h => h) (c_spec_l01New w code pcode (S.rd (S.arg hcode)) (by omega)) fun ac w N b1 F2 S up oc3 d4 => ?_
 clear up d4
 refine S.go 6 .nil fun ac w β S => S.KD3 (d := 14) oc3 (c_spec_l07Case w code pcode (Lt w0.heap.size) F2 (cap1 b1 () : LP TCur) (S.cu oc3)) fun ac w N x5 q8 F11 x6 q9 F12 x7 q10 F13 S h20 up o14 o15 o16 d17 d18 d19 d21 d22 d23 oc3n => ?_
 have d24 := Disj.w d17 oc3.sub
 have d25 := Disj.w d18 oc3.sub
 have d26 := Disj.w d19 oc3.sub
 replace oc3 := oc3n
 clear up d17 d18 d19
 have l27 := LRd.le o15.rn
 have l28 := LRd.le o16.rn
 refine S.go 11 .nil fun ac w β S => ?_
 refine drw ?_
 let σ29 : Sy := ⟨[(2, .p 0 0), (6, .v (pt (cap1 b1 () : LP TCur).1.b ((cap1 b1 () : LP TCur).1.off + 0 * 3))), (7, .p 1 0), (8, .v (slv x6.length q9.1)), (9, .v (slv x7.length q10.1))], [Zc TKept, GT.cells x5 q8]⟩
 obtain ⟨u0, N0, β0, S, oc3, o14, o15, o16⟩ : ∃ u0 N0 β0, St Try.prog Try.f10.ntmps w0 NoB u0 N0 β0 σ29 ac w ∧ Oc code pcode (Lt w0.heap.size) w0 NoB u0 N0 F2 (cap1 b1 () : LP TCur) ∧ Ow w0 NoB u0 N0 F11 x5 q8 ∧ Ow w0 NoB u0 N0 F12 x6 q9 ∧ Ow w0 NoB u0 N0 F13 x7 q10 := ⟨_, _, _, S.z, oc3, o14, o15, o16⟩
 refine wp_region_cut (fun ac w => ∃ x30  u N β, St Try.prog Try.f10.ntmps w0 NoB u N β (σ29.dl [6, 7, 8, 9] [(3, .v (slv x6.length q9.1)), (4, .v (slv x7.length q10.1)), (5, .v (I x30))] 1 [(0, GT.cells x5 q8)]) ac w ∧ Ow w0 NoB u N F11 x5 q8 ∧ Ow w0 NoB u N F12 x6 q9 ∧ Ow w0 NoB u N F13 x7 q10 ∧ (In64 x30)) ?_ ?_
 ·refine S.draw0 (f := 9) 4 (by kernel_rfl) (by kernel_rfl) fun w S => ?_
  refine S.hq 3 [3] [] [(21, .v (pt (cap1 b1 () : LP TCur).1.b ((cap1 b1 () : LP TCur).1.off + 0 * 3)))] .nil fun ac S => ?_
  refine WD.nameW fun W hW => ?_
  refine WD.castW (l' := mkL 9 [3]) (by kernel_rfl) ?_
  have hK45 ac w (x30 : Int) u N β (S : St Try.prog Try.f10.ntmps w0 NoB u N β (σ29.dl [6, 7, 8, 9] [(3, .v (slv x6.length q9.1)), (4, .v (slv x7.length q10.1)), (5, .v (I x30))] 2 [(0, GT.cells x5 q8)]) ac w) (o14 : Ow w0 NoB u N F11 x5 q8) (o15 : Ow w0 NoB u N F12 x6 q9) (o16 : Ow w0 NoB u N F13 x7 q10) (i36 : (In64 x30)) : W 0 (mkL 9 [0, 1, 2, 3, 4, 5, 6, 7, 8]) ac w := by
   have l46 := i36.lo; have l47 := i36.hi
   exact od hW ⟨rfl, x30, _, _, _, S.z, o14, o15, o16, i36⟩
  have hK48 ac w (x30 : Int) u N β (S : St Try.prog Try.f10.ntmps w0 NoB u N β (σ29.dl [6, 7, 8, 9] [(18, .v (GT.val x5 q8)), (19, .v (slv x6.length q9.1)), (20, .v (slv x7.length q10.1)), (22, .v (I x30))] 2 []) ac w) (o14 : Ow w0 NoB u N F11 x5 q8) (o15 : Ow w0 NoB u N F12 x6 q9) (o16 : Ow w0 NoB u N F13 x7 q10) (i36 : (In64 x30)) : W 4 (mkL 9 [0, 1, 2, 3, 4]) ac w := by
   have l49 := i36.lo; have l50 := i36.hi
   exact ox1 hW 5 (S.wl hW [6, 7, 8] .nil fun _ _ _ S => hK45 _ _ x30 _ _ _ S o14 o15 o16 i36)
  have hK51 ac w u N β (S : St Try.prog Try.f10.ntmps w0 NoB u N β (σ29.dl [6, 7, 8, 9] [(18, .v (GT.val x5 q8)), (19, .v (slv x6.length q9.1)), (20, .v (slv x7.length q10.1)), (21, .v (pt (cap1 b1 () : LP TCur).1.b ((cap1 b1 () : LP TCur).1.off + 0 * 3)))] 2 []) ac w) (oc3 : Oc code pcode (Lt w0.heap.size) w0 NoB u N F2 (cap1 b1 () : LP TCur)) (o14 : Ow w0 NoB u N F11 x5 q8) (o15 : Ow w0 NoB u N F12 x6 q9) (o16 : Ow w0 NoB u N F13 x7 q10) (hNN : NN N0 u0 N u) (hBB : BB σ29.bx.length β0 β) : W 5 (mkL 9 [0, 1, 2, 3]) ac w := by
   refine ox1 hW 4 ?_
   refine id (S.callD1 (d := 22) oc3 (c_spec_l03Page w code pcode (Lt w0.heap.size) F2 (cap1 b1 () : LP TCur) (S.cu oc3)) fun ac w N x30 q52 F53 S h35 up o54 d55 oc3n => ?_)
   refine WD.sl fun hC => ?_
   replace o14 := o14.upF (Disj.symm d24) up
   replace o15 := o15.upF (Disj.symm d25) up
   replace o16 := o16.upF (Disj.symm d26) up
   replace oc3 := oc3n
   clear up d55
   have i36 : In64 x30 := o54.own
   have l56 := i36.lo; have l57 := i36.hi
   exact S.wh hW [] hC fun _ S => hK48 _ _ x30 _ _ _ S o14 o15 o16 i36
  have hK58 ac w (x30 : Int) u N β (S : St Try.prog Try.f10.ntmps w0 NoB u N β (σ29.dl [6, 8, 9] [(19, .v (slv x6.length q9.1)), (20, .v (slv x7.length q10.1)), (22, .v (I x30))] 2 []) ac w) (o14 : Ow w0 NoB u N F11 x5 q8) (o15 : Ow w0 NoB u N F12 x6 q9) (o16 : Ow w0 NoB u N F13 x7 q10) (i36 : (In64 x30)) : W 5 (mkL 9 [1, 2, 3, 4]) ac w := by
   have l59 := i36.lo; have l60 := i36.hi
   exact ox1 hW 0 (S.wl hW [] .nil fun _ _ _ S => hK48 _ _ x30 _ _ _ S o14 o15 o16 i36)
  have hK61 ac w u N β (S : St Try.prog Try.f10.ntmps w0 NoB u N β (σ29.dl [6, 8, 9] [(19, .v (slv x6.length q9.1)), (20, .v (slv x7.length q10.1)), (21, .v (pt (cap1 b1 () : LP TCur).1.b ((cap1 b1 () : LP TCur).1.off + 0 * 3)))] 2 []) ac w) (oc3 : Oc code pcode (Lt w0.heap.size) w0 NoB u N F2 (cap1 b1 () : LP TCur)) (o14 : Ow w0 NoB u N F11 x5 q8) (o15 : Ow w0 NoB u N F12 x6 q9) (o16 : Ow w0 NoB u N F13 x7 q10) (hNN : NN N0 u0 N u) (hBB : BB σ29.bx.length β0 β) : W 6 (mkL 9 [1, 2, 3]) ac w := by
   refine ox2 hW 0 4 (S.wq hW hNN hBB [] .nil fun _ _ _ S hB => hK51 _ _ _ _ _ S oc3 o14 o15 o16 hNN hB) ?_
   refine id (S.callD1 (d := 22) oc3 (c_spec_l03Page w code pcode (Lt w0.heap.size) F2 (cap1 b1 () : LP TCur) (S.cu oc3)) fun ac w N x30 q62 F63 S h35 up o64 d65 oc3n => ?_)
   refine WD.sl fun hC => ?_
   replace o14 := o14.upF (Disj.symm d24) up
   replace o15 := o15.upF (Disj.symm d25) up
   replace o16 := o16.upF (Disj.symm d26) up
   replace oc3 := oc3n
   clear up d65
   have i36 : In64 x30 := o64.own
   have l66 := i36.lo; have l67 := i36.hi
   exact S.wh hW [] hC fun _ S => hK58 _ _ x30 _ _ _ S o14 o15 o16 i36
  rw [hW]
  exact S.wh hW [1, 2] (fun _ => S.rcx) fun _ S => hK61 _ _ _ _ _ S oc3 o14 o15 o16 (fun _ h => ⟨h, rfl⟩) (fun _ _ => rfl)
 clear S oc3 o14 o15 o16
 rintro ac w ⟨x30, u, N, β, S, o14, o15, o16, i36⟩
 have l68 := i36.lo; have l69 := i36.hi
 refine S.ex fun S => ?_
 refine S.gr 2 .nil [GT.val x5 q8, slv x6.length q9.1, slv x7.length q10.1, I x30] fun ac w β S => ?_
 exact retE4_of (F4 := NoB) (p4 := ()) S (show True by clear S; trivial) rfl rfl rfl rfl o14 o15 o16 ⟨i36, fun _ h => False.elim h, fun _ h => False.elim h⟩ d21 d22 (fun b _ h => False.elim h) d23 (fun b _ h => False.elim h) (fun b _ h => False.elim h)

theorem c_impl_copyTable (w0 : World) (l : List TSlot) (pl : LP TSlot) (hl : RD w0 l pl) : Calls Try.prog 93 [slv l.length pl.1].toArray w0 (Ret1 NoB w0 (l : List TSlot)) := by
 refine Calls.run NoB Try.func93 ?_
 intro ac β S
 have hlel : l.length ≤ 4194304 := LRd.le hl
 refine S.go 7 .nil fun ac w β S => S.B0 (α := TSlot) (d := 3) fun ac w N q1 F2 S up o3 d4 => ?_
 clear up d4
 have b9 : l.length ≤ 4194304 := LRd.le (S.arg hl)
 refine S.go 1 .nil fun ac w β S => S.AF0 (α := TSlot) o3 (S.arg hl) (fun _ _ h => h) (by' := 16) (d := 5) (lx := 0) (ly := l.length) rfl fun ac w N q5 F6 S up o7 d8 => ?_
 clear up d8
 refine S.gr 4 .nil [slv l.length q5.1] fun ac w β S => ?_
 exact ret1_of S (show l = l by clear S; simp) rfl o7

theorem c_impl_copyKept (w0 : World) (k : TKept) (pk : PKept) (hk : RD w0 k pk) : Calls Try.prog 50 [GT.val k pk].toArray w0 (Ret1 NoB w0 (k : TKept)) := by
 refine Calls.run NoB Try.func50 ?_
 intro ac β S
 have hlek_known : k.known.length ≤ 4194304 := LRd.le (RKept.known (d := k) hk)
 have hlek_slots : k.slots.length ≤ 4194304 := LRd.le (RKept.slots (d := k) hk)
 refine S.go 7 .nil fun ac w β S => ?_
 refine drw ?_
 refine S.draw0 (f := 9) 8 (by kernel_rfl) (by kernel_rfl) fun w S => ?_
 refine S.hq 1 [1] [] [(4, .p 0 0)] .nil fun ac S => ?_
 refine S.hq 2 [2] [] [(5, .v (slv k.known.length pk.known.1))] .nil fun ac S => ?_
 refine S.hq 4 [4] [] [(7, .p 0 1)] .nil fun ac S => ?_
 refine S.hq 5 [5] [] [(8, .v (slv k.slots.length pk.slots.1))] .nil fun ac S => ?_
 refine WD.one (i := 0) (by kernel_rfl) ?_
 refine id (S.bs0 (α := Bool) (d := 3) (by kernel_rfl) fun ac w N q1 F2 S up o3 d4 => ?_)
 have hb5 := fun b h => (⟨(up b h).1, (up b h).2, d4 b h⟩ : _ ∧ _ ∧ _)
 refine WD.keep S up (by kernel_rfl) ?_
 clear up d4
 refine WD.one (i := 3) (by kernel_rfl) ?_
 have b10 : k.known.length ≤ 4194304 := LRd.le (RKept.known (d := k) (S.arg hk))
 refine id (S.appFlat0 (α := Bool) o3 (RKept.known (d := k) (S.arg hk)) (fun _ _ h => h) (by' := 1) (d := 6) (lx := 0) (ly := k.known.length) rfl fun ac w N q6 F7 S up o8 d9 => ?_)
 have hb11 := fun b h => (⟨(up b (hb5 b h).1 (hb5 b h).2.2).1, (up b (hb5 b h).1 (hb5 b h).2.2).2.trans (hb5 b h).2.1⟩ : _ ∧ _)
 refine WD.next S hb11 (by kernel_rfl) ?_
 clear up d9
 refine WD.one (i := 6) (by kernel_rfl) ?_
 refine id (S.k1 9 (c_impl_copyTable w k.slots pk.slots (S.rd (RKept.slots (d := k) (S.arg hk)))) fun ac w N q12 F13 S up o14 d15 => ?_)
 refine WD.next S up (by kernel_rfl) ?_
 have d16 := Disj.w d15 o8.sub
 replace o8 := o8.up up
 clear up d15
 refine S.hq 7 [7] [] [(10, .v (GT.val (⟨k.known, k.slots⟩ : TKept) (⟨q6, q12⟩ : PKept)))] (.cons (Q_sem (s := Instr.build 45 [(0, slv k.known.length q6.1), (1, slv k.slots.length q12.1)].toArray) (v := .agg [slv k.known.length q6.1, slv k.slots.length q12.1].toArray) (fun w => by kernel_rfl)) .nil) fun ac S => ?_
 refine S.sl 8 [] [] 2 [(1, [slv k.known.length q6.1, slv k.slots.length q12.1])] .nil fun ac w β S => ?_
 refine WD.done (by kernel_rfl) ?_ _
 refine S.ex fun S => ?_
 refine S.gr 2 .nil [GT.val (⟨k.known, k.slots⟩ : TKept) (⟨q6, q12⟩ : PKept)] fun ac w β S => ?_
 have o17 := ow_Kept (x := (⟨k.known, k.slots⟩ : TKept)) (p := (⟨q6, q12⟩ : PKept)) o8 o14 d16 
 exact ret1_of S (show k = (⟨k.known, k.slots⟩ : TKept) by clear S; (first | rfl | simp)) rfl o17

theorem c_impl_has (w0 : World) (k : Int) (length : Int) (pre0 : -9223372036854775808 < length) : Calls Try.prog 51 [I k, I length].toArray w0 (fun e w' => e = .returned (B (f_within k 0 (length - 1))) ∧ Chg NoB w0 w') := by
 refine Calls.run NoB Try.func51 ?_
 intro ac β S
 refine S.gd 10 .nil (decide (k ≥ 0)) (fun ac w β h1 g2 S => ?_) (fun ac w β h1 g2 S => ?_)
 ·exact S.gf 8 .nil [B (decide (k < length))] (retB (by clear S; (rw [Bool.eq_iff_iff]; simp [f_within]; omega)))
 exact S.gf 8 .nil [B false] (retB (by clear S; (rw [Bool.eq_iff_iff]; simp [f_within]; omega)))

theorem c_impl_NoSlot (w0 : World)  : Calls Try.prog 57 [].toArray w0 (fun e w' => e = .returned (GT.val (⟨-1, 0⟩ : TSlot) ()) ∧ Chg NoB w0 w') := by
 refine Calls.run NoB Try.func57 ?_
 intro ac β S
 exact S.gf 12 (.cons (Q_sem (s := Instr.build 54 [(0, I (-1))].toArray) (v := .agg [I (-1), I 0].toArray) (fun w => by kernel_rfl)) .nil) [GT.val (⟨(-1), 0⟩ : TSlot) ()] (retV (p := ()) (by clear S; first | rfl | (simp [id, *]; done) | (simp [id, *]; omega) | (simp_all [id]; done) | (simp_all [id]; omega)))

theorem k0_impl_SlotAt {p : Prop} (h : p := by clear S; (first | (unfold f_slotAt; rw [if_pos (by omega)]) | (unfold f_slotAt; rw [if_neg (by omega)]))) : p := h
theorem c_impl_SlotAt (w0 : World) (t : List TSlot) (pt : LP TSlot) (ht : RD w0 t pt) (page : Int) : Calls Try.prog 94 [slv t.length pt.1, I page].toArray w0 (fun e w' => e = .returned (GT.val (f_slotAt t page) ()) ∧ Chg NoB w0 w') := by
 refine Calls.run NoB Try.func94 ?_
 intro ac β S
 have hlet : t.length ≤ 4194304 := LRd.le ht
 refine S.gb 15 (.cons (Q_call fun w hw => c_impl_has w page (t.length : Int) (by omega)) .nil) (!(f_within page 0 ((t.length : Int) - 1))) (fun ac w β h1 S => ?_) (fun ac w β h1 S => ?_)
 ·have h2 := not_t h1
  have g3 := within_f h2
  exact S.gf 8 (.cons (Q_call fun w hw => c_impl_NoSlot w ) .nil) [GT.val (⟨-1, 0⟩ : TSlot) ()] (retV (p := ()) k0_impl_SlotAt)
 have h4 := not_f h1
 have g5 := within_t h4
 exact S.gf 13 (.cons (qt (S.arg ht) page Try.underlying37) (.cons (qs (S.arg ht) 54 page.toNat) .nil)) [GT.val (el t page.toNat) ()] (retV (p := ()) k0_impl_SlotAt)

theorem k0_impl_within {p : Prop} (h : p := by clear S; first | rfl | (simp [f_within, *]; done) | (simp [f_within, *]; omega) | (simp_all [f_within]; done) | (simp_all [f_within]; omega)) : p := h
theorem c_impl_within (w0 : World) (n : Int) (a : Int) (b : Int) : Calls Try.prog 45 [I n, I a, I b].toArray w0 (fun e w' => e = .returned (B (f_within n a b)) ∧ Chg NoB w0 w') := by
 refine Calls.run NoB Try.func45 ?_
 intro ac β S
 refine S.gd 11 .nil (decide (n ≥ a)) (fun ac w β h1 g2 S => ?_) (fun ac w β h1 g2 S => ?_)
 ·exact S.gf 8 .nil [B (decide (n ≤ b))] (retB k0_impl_within)
 exact S.gf 8 .nil [B false] (retB k0_impl_within)

theorem c_impl_RightsOk (w0 : World) (r : Int) : Calls Try.prog 116 [I r].toArray w0 (fun e w' => e = .returned (B (f_within r 0 3)) ∧ Chg NoB w0 w') := by
 refine Calls.run NoB Try.func116 ?_
 intro ac β S
 exact S.gf 13 (.cons (Q_call fun w hw => c_impl_within w r 0 3) .nil) [B (f_within r 0 3)] (retB (by clear S; first | rfl | (simp [f_within, *]; done) | (simp [f_within, *]; omega) | (simp_all [f_within]; done) | (simp_all [f_within]; omega)))

theorem k0_impl_BothRights {p : Prop} (h : p := by clear S; (unfold f_bothRights; (repeat' split) <;> first | rfl | (exfalso; omega) | (exfalso; simp_all; done) | (exfalso; simp_all; omega) | (simp_all; done))) : p := h
theorem c_impl_BothRights (w0 : World) (a : Int) (b : Int) : Calls Try.prog 95 [I a, I b].toArray w0 (fun e w' => e = .returned (I (f_bothRights a b)) ∧ Chg NoB w0 w') := by
 refine Calls.run NoB Try.func95 ?_
 intro ac β S
 refine S.gb 12 (.cons (Q_call fun w hw => c_impl_RightsOk w a) .nil) (!(f_within a 0 3)) (fun ac w β h1 S => ?_) (fun ac w β h1 S => ?_)
 ·have h2 := not_t h1
  have g3 := within_f h2
  exact S.gf 13 .nil [I 0] (retI k0_impl_BothRights)
 have h4 := not_f h1
 have g5 := within_t h4
 refine S.gb 6 (.cons (Q_call fun w hw => c_impl_RightsOk w b) .nil) (!(f_within b 0 3)) (fun ac w β h6 S => ?_) (fun ac w β h6 S => ?_)
 ·have h7 := not_t h6
  have g8 := within_f h7
  exact S.gf 7 .nil [I 0] (retI k0_impl_BothRights)
 have h9 := not_f h6
 have g10 := within_t h9
 exact S.gf 12 (.cons (Q_land64 (x := a) (y := b)) .nil) [I (land64 a b)] (retI k0_impl_BothRights)

theorem k0_impl_ComposeSlot {p : Prop} (h : p := by clear S; (unfold f_composeSlot; (repeat' split) <;> first | rfl | (exfalso; omega) | (exfalso; simp_all; done) | (exfalso; simp_all; omega) | (simp_all; done))) : p := h
theorem c_impl_ComposeSlot (w0 : World) (inner : TSlot) (outer : List TSlot) (pouter : LP TSlot) (houter : RD w0 outer pouter) : Calls Try.prog 52 [GT.val inner (), slv outer.length pouter.1].toArray w0 (fun e w' => e = .returned (GT.val (f_composeSlot inner outer) ()) ∧ Chg NoB w0 w') := by
 refine Calls.run NoB Try.func52 ?_
 intro ac β S
 have hleouter : outer.length ≤ 4194304 := LRd.le houter
 refine S.gd 33 (.cons (Q_call fun w hw => c_impl_SlotAt w outer pouter (rd_of (S.arg houter) hw) inner.page) (.cons (Q_call fun w hw => c_impl_BothRights w inner.rights (f_slotAt outer inner.page).rights) .nil)) (inner.page == (-1)) (fun ac w β h1 g2 S => ?_) (fun ac w β h1 g2 S => ?_)
 ·exact S.gf 18 (.cons (Q_call fun w hw => c_impl_NoSlot w ) .nil) [GT.val (⟨-1, 0⟩ : TSlot) ()] (retV (p := ()) k0_impl_ComposeSlot)
 refine S.gd 5 .nil ((f_slotAt outer inner.page).page == (-1)) (fun ac w β h3 g4 S => ?_) (fun ac w β h3 g4 S => ?_)
 ·exact S.gf 13 (.cons (Q_call fun w hw => c_impl_NoSlot w ) .nil) [GT.val (⟨-1, 0⟩ : TSlot) ()] (retV (p := ()) k0_impl_ComposeSlot)
 refine S.gd 5 .nil ((f_bothRights inner.rights (f_slotAt outer inner.page).rights) == 0) (fun ac w β h5 g6 S => ?_) (fun ac w β h5 g6 S => ?_)
 ·exact S.gf 8 (.cons (Q_call fun w hw => c_impl_NoSlot w ) .nil) [GT.val (⟨-1, 0⟩ : TSlot) ()] (retV (p := ()) k0_impl_ComposeSlot)
 exact S.gf 13 (.cons (Q_sem (s := Instr.build 54 [(0, I (f_slotAt outer inner.page).page), (1, I (f_bothRights inner.rights (f_slotAt outer inner.page).rights))].toArray) (v := .agg [I (f_slotAt outer inner.page).page, I (f_bothRights inner.rights (f_slotAt outer inner.page).rights)].toArray) (fun w => by kernel_rfl)) .nil) [GT.val (⟨(f_slotAt outer inner.page).page, (f_bothRights inner.rights (f_slotAt outer inner.page).rights)⟩ : TSlot) ()] (retV (p := ()) k0_impl_ComposeSlot)

theorem k0_impl_Fill {p : Prop} (h : p := by clear S; (unfold f_fill; (repeat' split) <;> first | rfl | (exfalso; omega) | (exfalso; simp_all; done) | (exfalso; simp_all; omega) | (simp_all; done))) : p := h
theorem c_impl_Fill (w0 : World) (k : TKept) (pk : PKept) (hk : RD w0 k pk) (inner : List TSlot) (pinner : LP TSlot) (hinner : RD w0 inner pinner) (outer : List TSlot) (pouter : LP TSlot) (houter : RD w0 outer pouter) (page : Int) : Calls Try.prog 11 [GT.val k pk, slv inner.length pinner.1, slv outer.length pouter.1, I page].toArray w0 (Ret1 NoB w0 (f_fill k inner outer page : TKept)) := by
 refine Calls.run NoB Try.func11 ?_
 intro ac β S
 have hlek_known : k.known.length ≤ 4194304 := LRd.le (RKept.known (d := k) hk)
 have hlek_slots : k.slots.length ≤ 4194304 := LRd.le (RKept.slots (d := k) hk)
 have hleinner : inner.length ≤ 4194304 := LRd.le hinner
 have hleouter : outer.length ≤ 4194304 := LRd.le houter
 refine S.go 9 .nil fun ac w β S => S.K1 (r := k) (d := 11) (c_impl_copyKept w k pk (S.rd (S.arg hk))) fun ac w N q1 F2 S up o3 d4 => ?_
 clear up d4
 obtain ⟨F5, F8, o6, o9, _, _, d11⟩ := sp_Kept o3
 refine S.gb 13 (.cons (Q_call fun w hw => c_impl_has w page (k.known.length : Int) (by omega)) .nil) (f_within page 0 ((k.known.length : Int) - 1)) (fun ac w β h12 S => ?_) (fun ac w β h12 S => ?_)
 ·have g13 := within_t h12
  refine S.gb 7 (.cons (Q_call fun w hw => c_impl_has w page (k.slots.length : Int) (by omega)) .nil) (f_within page 0 ((k.slots.length : Int) - 1)) (fun ac w β h14 S => ?_) (fun ac w β h14 S => ?_)
  ·have g15 := within_t h14
   refine S.gb 7 (.cons (Q_call fun w hw => c_impl_has w page (inner.length : Int) (by omega)) .nil) (f_within page 0 ((inner.length : Int) - 1)) (fun ac w β h16 S => ?_) (fun ac w β h16 S => ?_)
   ·have g17 := within_t h16
    refine S.go 7 (.cons (qt o6.rn page Try.underlying38) .nil) fun ac w β S => S.SF (α := Bool) o6 (t := 4) (k := page.toNat) (j := 0) (off := q1.known.1.off + page.toNat * 1) (v := B true) (y := true) (q := ()) (fun _ _ _ => ⟨NoB, trivial, fun _ h => False.elim h⟩) fun w N F19 q20 S up o18 d21 s22 n23 => ?_
    have d24 := d21 _ (Disj.symm d11) (fun b _ h => False.elim h) o9.sub
    replace o9 := o9.upF (Disj.symm d11) up
    clear up d21 o6 n23
    have l25 : (k.known.set page.toNat true).length = k.known.length := List.length_set
    replace S := S.z (σ' := ⟨[(1, .v (slv inner.length pinner.1)), (2, .v (slv outer.length pouter.1)), (3, .v (I page)), (8, .p 1 0), (9, .p 2 0), (33, .v (pt q1.known.1.b (q1.known.1.off + page.toNat * 1)))], [GT.cells k pk, Zc TKept, [slv k.known.length q1.known.1, slv k.slots.length q1.slots.1]]⟩)
    replace S := S.cast (σ' := ⟨[(1, .v (slv inner.length pinner.1)), (2, .v (slv outer.length pouter.1)), (3, .v (I page)), (8, .p 1 0), (9, .p 2 0), (33, .v (pt q1.known.1.b (q1.known.1.off + page.toNat * 1)))], [GT.cells k pk, Zc TKept, [slv (k.known.set page.toNat true).length q1.known.1, slv k.slots.length q1.slots.1]]⟩) (by rw [show (k.known.set page.toNat true).length = k.known.length by omega])
    refine S.is fun S => ?_
    refine S.go 2 .nil fun ac w β S => ?_
    refine drw ?_
    refine S.draw0 (f := 11) 10 (by kernel_rfl) (by kernel_rfl) fun w S => ?_
    refine S.hq 0 [0] [] [(34, .p 2 1)] .nil fun ac S => ?_
    refine S.hq 1 [1] [] [(35, .v (slv k.slots.length q1.slots.1))] .nil fun ac S => ?_
    refine S.hq 2 [2] [] [(36, .v (I page))] .nil fun ac S => ?_
    refine S.hq 3 [3] [] [(37, .v (slv inner.length pinner.1))] .nil fun ac S => ?_
    refine S.hq 4 [4] [] [(38, .v (I page))] .nil fun ac S => ?_
    refine S.hq 5 [5] [] [(39, .v (pt pinner.1.b (pinner.1.off + page.toNat * 2)))] (.cons (qt (S.arg hinner) page Try.underlying37) .nil) fun ac S => ?_
    refine S.hq 6 [6] [] [(40, .v (GT.val (el inner page.toNat) ()))] (.cons (qs (S.arg hinner) 54 page.toNat) .nil) fun ac S => ?_
    refine S.hq 7 [7] [] [(41, .v (slv outer.length pouter.1))] .nil fun ac S => ?_
    refine S.sq 8 [] [(42, .v (GT.val (f_composeSlot (el inner page.toNat) outer) ()))] 3 [] (.cons (Q_call fun w hw => c_impl_ComposeSlot w (el inner page.toNat) outer pouter (rd_of (S.arg houter) hw)) .nil) fun ac w β S => ?_
    refine S.hq 9 [9] [] [(43, .v (pt q1.slots.1.b (q1.slots.1.off + page.toNat * 2)))] (.cons (qt o9.rn page Try.underlying37) .nil) fun ac S => ?_
    refine WD.one (i := 10) (by kernel_rfl) ?_
    have e26 : RSlot (el k.slots page.toNat) := (LRd.el o9.rn page.toNat (by omega))
    refine id (S.sF (α := TSlot) o9 (t := 54) (k := page.toNat) (j := 0) (off := q1.slots.1.off + page.toNat * 2) (v := GT.val (f_composeSlot (el inner page.toNat) outer) ()) (y := (f_composeSlot (el inner page.toNat) outer)) (q := ()) (fun _ _ _ => ⟨NoB, (compose_r (S.arg houter) (el inner page.toNat)), fun _ h => False.elim h⟩) fun w N F28 q29 S up o27 d30 s31 n32 => ?_)
    refine WD.last (by kernel_rfl) ?_
    have d33 := d30 _ (Disj.symm d24) (fun b _ h => False.elim h) o18.sub
    replace o18 := o18.upF (Disj.symm d24) up
    clear up d30 o9 n32
    have l34 : (k.slots.set page.toNat (f_composeSlot (el inner page.toNat) outer)).length = k.slots.length := List.length_set
    replace S := S.z (σ' := ⟨[(8, .p 1 0), (9, .p 2 0), (42, .v (GT.val (f_composeSlot (el inner page.toNat) outer) ())), (43, .v (pt q1.slots.1.b (q1.slots.1.off + page.toNat * 2)))], [GT.cells k pk, Zc TKept, [slv (k.known.set page.toNat true).length q1.known.1, slv k.slots.length q1.slots.1]]⟩)
    replace S := S.cast (σ' := ⟨[(8, .p 1 0), (9, .p 2 0), (42, .v (GT.val (f_composeSlot (el inner page.toNat) outer) ())), (43, .v (pt q1.slots.1.b (q1.slots.1.off + page.toNat * 2)))], [GT.cells k pk, Zc TKept, [slv (k.known.set page.toNat true).length q1.known.1, slv (k.slots.set page.toNat (f_composeSlot (el inner page.toNat) outer)).length q1.slots.1]]⟩) (by rw [show (k.slots.set page.toNat (f_composeSlot (el inner page.toNat) outer)).length = k.slots.length by omega])
    refine WD.done (by kernel_rfl) ?_ _
    refine S.ex fun S => ?_
    refine S.gr 8 .nil [GT.val (⟨(k.known.set page.toNat true), (k.slots.set page.toNat (f_composeSlot (el inner page.toNat) outer))⟩ : TKept) (⟨(q1.known.1, q20), (q1.slots.1, q29)⟩ : PKept)] fun ac w β S => ?_
    have o35 := ow_Kept (x := (⟨(k.known.set page.toNat true), (k.slots.set page.toNat (f_composeSlot (el inner page.toNat) outer))⟩ : TKept)) (p := (⟨(q1.known.1, q20), (q1.slots.1, q29)⟩ : PKept)) o18 o27 d33 
    exact ret1_of S (show f_fill k inner outer page = (⟨(k.known.set page.toNat true), (k.slots.set page.toNat (f_composeSlot (el inner page.toNat) outer))⟩ : TKept) from k0_impl_Fill) rfl o35
   have g36 := within_f h16
   refine S.gr 10 .nil [GT.val k q1] fun ac w β S => ?_
   have o37 := ow_Kept (x := k) (p := q1) o6 o9 d11 
   exact ret1_of S (show f_fill k inner outer page = k from k0_impl_Fill) rfl o37
  have g38 := within_f h14
  refine S.gr 17 .nil [GT.val k q1] fun ac w β S => ?_
  have o39 := ow_Kept (x := k) (p := q1) o6 o9 d11 
  exact ret1_of S (show f_fill k inner outer page = k from k0_impl_Fill) rfl o39
 have g40 := within_f h12
 refine S.gr 24 .nil [GT.val k q1] fun ac w β S => ?_
 have o41 := ow_Kept (x := k) (p := q1) o6 o9 d11 
 exact ret1_of S (show f_fill k inner outer page = k from k0_impl_Fill) rfl o41

theorem k0_laws_sameBools {p : Prop} (h : p := by clear S; (first | (rw [same_len (by omega)]; done) | (rw [same_ne (k := k) (by first | assumption | omega | simp_all)]; done) | (rw [same_end (k := k) (by omega) (by omega) hf]; done))) : p := h
theorem c_laws_sameBools (w0 : World) (a : List Bool) (pa : LP Bool) (ha : RD w0 a pa) (b : List Bool) (pb : LP Bool) (hb : RD w0 b pb) : Calls Try.prog 53 [slv a.length pa.1, slv b.length pb.1].toArray w0 (fun e w' => e = .returned (B (f_same a b)) ∧ Chg NoB w0 w') := by
 refine Calls.run NoB Try.func53 ?_
 intro ac β S
 have hlea : a.length ≤ 4194304 := LRd.le ha
 have hleb : b.length ≤ 4194304 := LRd.le hb
 refine S.gd 15 .nil ((a.length : Int) != (b.length : Int)) (fun ac w β h1 g2 S => ?_) (fun ac w β h1 g2 S => ?_)
 ·exact S.gf 7 .nil [B false] (retB k0_laws_sameBools)
 refine S.go 10 .nil fun ac w β S => ?_
 refine lp (fun mm ac w => ∃ (k : Nat)  (u : _) (N : _) (β : _), mm = a.length - k ∧ (k ≤ a.length) ∧ (a.take k = b.take k) ∧ St Try.prog Try.f53.ntmps w0 NoB u N β ⟨[(0, .v (slv a.length pa.1)), (1, .v (slv b.length pb.1)), (5, .v (I (k : Int)))], []⟩ ac w) _ ⟨0, _, _, _, rfl, o0, (by rfl), S.z⟩ ?_
 clear S
 rintro f3 mm hf4 ac w ⟨k, u, N, β, rfl, hk, hf, S⟩
 refine S.rs fun S => ?_
 refine S.gd 9 .nil (decide ((k : Int) < (a.length : Int))) (fun ac w β h5 g6 S => ?_) (fun ac w β h5 g6 S => ?_)
 ·refine S.gb 8 (.cons (qn (S.arg ha) k Try.underlying38) (.cons (qx (S.arg ha) 4 k) (.cons (qn (S.arg hb) k Try.underlying38) (.cons (qx (S.arg hb) 4 k) .nil)))) (!((el a k) == (el b k))) (fun ac w β h7 S => ?_) (fun ac w β h7 S => ?_)
  ·have h8 := not_t h7
   have g9 : ¬ ((el a k) = (el b k)) := ne_of_beq_false h8
   exact S.gf 7 .nil [B false] (retB k0_laws_sameBools)
  have h10 := not_f h7
  have g11 : (el a k) = (el b k) := eq_of_beq h10
  refine S.ge 9 (.cons (qp (k : Int) 1) .nil) f3 fun ac w β S => hf4.of (a.length - (k + 1)) _ _ (by omega) ⟨k + 1, _, _, _, rfl, ?_, ?_, S.z⟩
  ·exact oz
  ·clear S; (exact same_step (by omega) (by omega) hf (by first | assumption | omega | simp_all))
 exact S.gf 12 .nil [B true] (retB k0_laws_sameBools)

theorem k0_laws_sameSlots {p : Prop} (h : p := by clear S; (first | (rw [same_len (by omega)]; done) | (rw [same_ne (k := k) (by first | assumption | omega | simp_all)]; done) | (rw [same_end (k := k) (by omega) (by omega) hf]; done))) : p := h
theorem c_laws_sameSlots (w0 : World) (a : List TSlot) (pa : LP TSlot) (ha : RD w0 a pa) (b : List TSlot) (pb : LP TSlot) (hb : RD w0 b pb) : Calls Try.prog 54 [slv a.length pa.1, slv b.length pb.1].toArray w0 (fun e w' => e = .returned (B (f_same a b)) ∧ Chg NoB w0 w') := by
 refine Calls.run NoB Try.func54 ?_
 intro ac β S
 have hlea : a.length ≤ 4194304 := LRd.le ha
 have hleb : b.length ≤ 4194304 := LRd.le hb
 refine S.gd 15 .nil ((a.length : Int) != (b.length : Int)) (fun ac w β h1 g2 S => ?_) (fun ac w β h1 g2 S => ?_)
 ·exact S.gf 7 .nil [B false] (retB k0_laws_sameSlots)
 refine S.go 10 .nil fun ac w β S => ?_
 refine lp (fun mm ac w => ∃ (k : Nat)  (u : _) (N : _) (β : _), mm = a.length - k ∧ (k ≤ a.length) ∧ (a.take k = b.take k) ∧ St Try.prog Try.f54.ntmps w0 NoB u N β ⟨[(0, .v (slv a.length pa.1)), (1, .v (slv b.length pb.1)), (5, .v (I (k : Int)))], []⟩ ac w) _ ⟨0, _, _, _, rfl, o0, (by rfl), S.z⟩ ?_
 clear S
 rintro f3 mm hf4 ac w ⟨k, u, N, β, rfl, hk, hf, S⟩
 refine S.rs fun S => ?_
 refine S.gd 9 .nil (decide ((k : Int) < (a.length : Int))) (fun ac w β h5 g6 S => ?_) (fun ac w β h5 g6 S => ?_)
 ·refine S.gb 8 (.cons (qn (S.arg ha) k Try.underlying37) (.cons (qs (S.arg ha) 54 k) (.cons (qn (S.arg hb) k Try.underlying37) (.cons (qs (S.arg hb) 54 k) (.cons (Eq_ne_Slot (t := 54) (el a k) (el b k) (by kernel_rfl)) .nil))))) (!decide ((el a k) = (el b k))) (fun ac w β h7 S => ?_) (fun ac w β h7 S => ?_)
  ·exact S.gf 7 .nil [B false] (retB k0_laws_sameSlots)
  refine S.ge 9 (.cons (qp (k : Int) 1) .nil) f3 fun ac w β S => hf4.of (a.length - (k + 1)) _ _ (by omega) ⟨k + 1, _, _, _, rfl, ?_, ?_, S.z⟩
  ·exact oz
  ·clear S; (exact same_step (by omega) (by omega) hf (by first | assumption | omega | simp_all))
 exact S.gf 12 .nil [B true] (retB k0_laws_sameSlots)

theorem c_laws_sameKept (w0 : World) (a : TKept) (pa : PKept) (ha : RD w0 a pa) (b : TKept) (pb : PKept) (hb : RD w0 b pb) (pre0 : a = b) : Calls Try.prog 12 [GT.val a pa, GT.val b pb].toArray w0 (fun e w' => e = .returned (B true) ∧ Chg NoB w0 w') := by
 refine Calls.run NoB Try.func12 ?_
 intro ac β S
 have hlea_known : a.known.length ≤ 4194304 := LRd.le (RKept.known (d := a) ha)
 have hlea_slots : a.slots.length ≤ 4194304 := LRd.le (RKept.slots (d := a) ha)
 have hleb_known : b.known.length ≤ 4194304 := LRd.le (RKept.known (d := b) hb)
 have hleb_slots : b.slots.length ≤ 4194304 := LRd.le (RKept.slots (d := b) hb)
 refine S.gb 15 (.cons (Q_call fun w hw => c_laws_sameBools w a.known pa.known (rd_of (RKept.known (d := a) (S.arg ha)) hw) b.known pb.known (rd_of (RKept.known (d := b) (S.arg hb)) hw)) .nil) (f_same a.known b.known) (fun ac w β h1 S => ?_) (fun ac w β h1 S => ?_)
 ·exact S.gf 10 (.cons (Q_call fun w hw => c_laws_sameSlots w a.slots pa.slots (rd_of (RKept.slots (d := a) (S.arg ha)) hw) b.slots pb.slots (rd_of (RKept.slots (d := b) (S.arg hb)) hw)) .nil) [B (f_same a.slots b.slots)] (retB (by clear S; (subst pre0; simp_all [same_self])))
 exact S.gf 10 .nil [B false] (retB (by clear S; (subst pre0; simp_all [same_self])))

theorem k0_impl_KeptOk {p : Prop} (h : p := by clear S; (first | (rw [keptOk_no1 (by assumption)]; done) | (rw [keptOk_no2 (by assumption)]; done) | (rw [keptOk_no1 (by omega)]; done) | (rw [keptOk_no2 (by omega)]; done) | (rw [keptOk_end (by omega) (by omega) (i := i) (by omega) hok]; done) | (rw [keptOk_ne (i := i) (by omega) (by first | (rw [want_t (by assumption)]; assumption) | (rw [want_f (by assumption)]; assumption))]; done) | (rw [keptOk_ne (i := i) (by omega) (by first | (rw [want_t (by assumption)]; simp_all; done) | (rw [want_f (by assumption)]; simp_all; done))]; done))) : p := h
theorem c_impl_KeptOk (w0 : World) (k : TKept) (pk : PKept) (hk : RD w0 k pk) (inner : List TSlot) (pinner : LP TSlot) (hinner : RD w0 inner pinner) (outer : List TSlot) (pouter : LP TSlot) (houter : RD w0 outer pouter) : Calls Try.prog 14 [GT.val k pk, slv inner.length pinner.1, slv outer.length pouter.1].toArray w0 (fun e w' => e = .returned (B (f_keptOk k inner outer)) ∧ Chg NoB w0 w') := by
 refine Calls.run NoB Try.func14 ?_
 intro ac β S
 have hlek_known : k.known.length ≤ 4194304 := LRd.le (RKept.known (d := k) hk)
 have hlek_slots : k.slots.length ≤ 4194304 := LRd.le (RKept.slots (d := k) hk)
 have hleinner : inner.length ≤ 4194304 := LRd.le hinner
 have hleouter : outer.length ≤ 4194304 := LRd.le houter
 refine S.gd 16 .nil ((k.known.length : Int) != (inner.length : Int)) (fun ac w β h1 g2 S => ?_) (fun ac w β h1 g2 S => ?_)
 ·exact S.gf 16 .nil [B false] (retB k0_impl_KeptOk)
 refine S.gd 9 .nil ((k.slots.length : Int) != (inner.length : Int)) (fun ac w β h3 g4 S => ?_) (fun ac w β h3 g4 S => ?_)
 ·exact S.gf 7 .nil [B false] (retB k0_impl_KeptOk)
 refine S.go 13 .nil fun ac w β S => ?_
 refine lp (fun mm ac w => ∃ (i : Nat)  (u : _) (N : _) (β : _), mm = inner.length - i ∧ (i ≤ inner.length) ∧ (∀ j, j < i → el k.slots j = f_want k inner outer j) ∧ St Try.prog Try.f14.ntmps w0 NoB u N β ⟨[(1, .v (slv inner.length pinner.1)), (2, .v (slv outer.length pouter.1)), (3, .p 0 0), (25, .v (slv k.slots.length pk.slots.1)), (26, .v (I (k.slots.length : Int))), (27, .v (I (i : Int)))], [GT.cells k pk]⟩ ac w) _ ⟨0, _, _, _, rfl, o0, (by (intro j hj; omega)), S.z⟩ ?_
 clear S
 rintro f5 mm hf6 ac w ⟨i, u, N, β, rfl, hi, hok, S⟩
 refine S.rs fun S => ?_
 refine S.gd 6 .nil (decide ((i : Int) < (k.slots.length : Int))) (fun ac w β h7 g8 S => ?_) (fun ac w β h7 g8 S => ?_)
 ·refine S.gb 32 (.cons (qn (RKept.slots (d := k) (S.arg hk)) i Try.underlying37) (.cons (qs (RKept.slots (d := k) (S.arg hk)) 54 i) (.cons (Q_call fun w hw => c_impl_NoSlot w ) (.cons (qn (RKept.known (d := k) (S.arg hk)) i Try.underlying38) (.cons (qx (RKept.known (d := k) (S.arg hk)) 4 i) .nil))))) (el k.known i) (fun ac w β h9 S => ?_) (fun ac w β h9 S => ?_)
  ·refine S.gb 18 (.cons (qn (S.arg hinner) i Try.underlying37) (.cons (qs (S.arg hinner) 54 i) (.cons (Q_call fun w hw => c_impl_ComposeSlot w (el inner i) outer pouter (rd_of (S.arg houter) hw)) (.cons (Eq_ne_Slot (t := 54) (el k.slots i) (f_composeSlot (el inner i) outer) (by kernel_rfl)) .nil)))) (!decide ((el k.slots i) = (f_composeSlot (el inner i) outer))) (fun ac w β h10 S => ?_) (fun ac w β h10 S => ?_)
   ·exact S.gf 7 .nil [B false] (retB k0_impl_KeptOk)
   refine S.ge 8 (.cons (qp (i : Int) 1) .nil) f5 fun ac w β S => hf6.of (inner.length - (i + 1)) _ _ (by omega) ⟨i + 1, _, _, _, rfl, ?_, ?_, S.z⟩
   ·exact oz
   ·clear S; (refine upto_step hok ?_; first | (rw [want_t (by assumption)]; assumption) | (rw [want_f (by assumption)]; assumption) | (rw [want_t (by assumption)]; simp_all; done) | (rw [want_f (by assumption)]; simp_all; done))
  refine S.gb 10 (.cons (Eq_ne_Slot (t := 54) (el k.slots i) (⟨-1, 0⟩ : TSlot) (by kernel_rfl)) .nil) (!decide ((el k.slots i) = (⟨-1, 0⟩ : TSlot))) (fun ac w β h11 S => ?_) (fun ac w β h11 S => ?_)
  ·exact S.gf 7 .nil [B false] (retB k0_impl_KeptOk)
  refine S.ge 8 (.cons (qp (i : Int) 1) .nil) f5 fun ac w β S => hf6.of (inner.length - (i + 1)) _ _ (by omega) ⟨i + 1, _, _, _, rfl, ?_, ?_, S.z⟩
  ·exact oz
  ·clear S; (refine upto_step hok ?_; first | (rw [want_t (by assumption)]; assumption) | (rw [want_f (by assumption)]; assumption) | (rw [want_t (by assumption)]; simp_all; done) | (rw [want_f (by assumption)]; simp_all; done))
 exact S.gf 12 .nil [B true] (retB k0_impl_KeptOk)

theorem k0_spec_KeptOk {p : Prop} (h : p := by clear S; (first | (rw [keptOk_no1 (by assumption)]; done) | (rw [keptOk_no2 (by assumption)]; done) | (rw [keptOk_no1 (by omega)]; done) | (rw [keptOk_no2 (by omega)]; done) | (rw [keptOk_end (by omega) (by omega) (i := i) (by omega) hok]; done) | (rw [keptOk_ne (i := i) (by omega) (by first | (rw [want_t (by assumption)]; assumption) | (rw [want_f (by assumption)]; assumption))]; done) | (rw [keptOk_ne (i := i) (by omega) (by first | (rw [want_t (by assumption)]; simp_all; done) | (rw [want_f (by assumption)]; simp_all; done))]; done))) : p := h
theorem c_spec_KeptOk (w0 : World) (k : TKept) (pk : PKept) (hk : RD w0 k pk) (inner : List TSlot) (pinner : LP TSlot) (hinner : RD w0 inner pinner) (outer : List TSlot) (pouter : LP TSlot) (houter : RD w0 outer pouter) : Calls Try.prog 15 [GT.val k pk, slv inner.length pinner.1, slv outer.length pouter.1].toArray w0 (fun e w' => e = .returned (B (f_keptOk k inner outer)) ∧ Chg NoB w0 w') := by
 refine Calls.run NoB Try.func15 ?_
 intro ac β S
 have hlek_known : k.known.length ≤ 4194304 := LRd.le (RKept.known (d := k) hk)
 have hlek_slots : k.slots.length ≤ 4194304 := LRd.le (RKept.slots (d := k) hk)
 have hleinner : inner.length ≤ 4194304 := LRd.le hinner
 have hleouter : outer.length ≤ 4194304 := LRd.le houter
 refine S.gd 16 .nil ((k.known.length : Int) != (inner.length : Int)) (fun ac w β h1 g2 S => ?_) (fun ac w β h1 g2 S => ?_)
 ·exact S.gf 16 .nil [B false] (retB k0_spec_KeptOk)
 refine S.gd 9 .nil ((k.slots.length : Int) != (inner.length : Int)) (fun ac w β h3 g4 S => ?_) (fun ac w β h3 g4 S => ?_)
 ·exact S.gf 7 .nil [B false] (retB k0_spec_KeptOk)
 refine S.go 10 .nil fun ac w β S => ?_
 refine lp (fun mm ac w => ∃ (i : Nat)  (u : _) (N : _) (β : _), mm = inner.length - i ∧ (i ≤ inner.length) ∧ (∀ j, j < i → el k.slots j = f_want k inner outer j) ∧ St Try.prog Try.f15.ntmps w0 NoB u N β ⟨[(1, .v (slv inner.length pinner.1)), (2, .v (slv outer.length pouter.1)), (3, .p 0 0), (7, .v (I (i : Int)))], [GT.cells k pk]⟩ ac w) _ ⟨0, _, _, _, rfl, o0, (by (intro j hj; omega)), S.z⟩ ?_
 clear S
 rintro f5 mm hf6 ac w ⟨i, u, N, β, rfl, hi, hok, S⟩
 refine S.rs fun S => ?_
 refine S.gd 9 .nil (decide ((i : Int) < (inner.length : Int))) (fun ac w β h7 g8 S => ?_) (fun ac w β h7 g8 S => ?_)
 ·refine S.gb 22 (.cons (Q_call fun w hw => c_spec_NoSlot w ) (.cons (qn (RKept.known (d := k) (S.arg hk)) i Try.underlying38) (.cons (qx (RKept.known (d := k) (S.arg hk)) 4 i) .nil))) (el k.known i) (fun ac w β h9 S => ?_) (fun ac w β h9 S => ?_)
  ·refine S.gb 14 (.cons (qn (S.arg hinner) i Try.underlying37) (.cons (qs (S.arg hinner) 54 i) (.cons (Q_call fun w hw => c_spec_ComposeSlot w (el inner i) outer pouter (rd_of (S.arg houter) hw)) (.cons (qn (RKept.slots (d := k) (S.arg hk)) i Try.underlying37) (.cons (qs (RKept.slots (d := k) (S.arg hk)) 54 i) (.cons (Eq_ne_Slot (t := 54) (el k.slots i) (f_composeSlot (el inner i) outer) (by kernel_rfl)) .nil)))))) (!decide ((el k.slots i) = (f_composeSlot (el inner i) outer))) (fun ac w β h10 S => ?_) (fun ac w β h10 S => ?_)
   ·exact S.gf 7 .nil [B false] (retB k0_spec_KeptOk)
   refine S.ge 9 (.cons (qp (i : Int) 1) .nil) f5 fun ac w β S => hf6.of (inner.length - (i + 1)) _ _ (by omega) ⟨i + 1, _, _, _, rfl, ?_, ?_, S.z⟩
   ·exact oz
   ·clear S; (refine upto_step hok ?_; first | (rw [want_t (by assumption)]; assumption) | (rw [want_f (by assumption)]; assumption) | (rw [want_t (by assumption)]; simp_all; done) | (rw [want_f (by assumption)]; simp_all; done))
  refine S.gb 6 (.cons (qn (RKept.slots (d := k) (S.arg hk)) i Try.underlying37) (.cons (qs (RKept.slots (d := k) (S.arg hk)) 54 i) (.cons (Eq_ne_Slot (t := 54) (el k.slots i) (⟨-1, 0⟩ : TSlot) (by kernel_rfl)) .nil))) (!decide ((el k.slots i) = (⟨-1, 0⟩ : TSlot))) (fun ac w β h11 S => ?_) (fun ac w β h11 S => ?_)
  ·exact S.gf 7 .nil [B false] (retB k0_spec_KeptOk)
  refine S.ge 9 (.cons (qp (i : Int) 1) .nil) f5 fun ac w β S => hf6.of (inner.length - (i + 1)) _ _ (by omega) ⟨i + 1, _, _, _, rfl, ?_, ?_, S.z⟩
  ·exact oz
  ·clear S; (refine upto_step hok ?_; first | (rw [want_t (by assumption)]; assumption) | (rw [want_f (by assumption)]; assumption) | (rw [want_t (by assumption)]; simp_all; done) | (rw [want_f (by assumption)]; simp_all; done))
 exact S.gf 12 .nil [B true] (retB k0_spec_KeptOk)

theorem c_spec_DrawAsk (w0 : World) (code : List TByte) (pcode : LP TByte) (hcode : RD w0 code pcode) (pre0 : code.length ≤ 1048576) : Calls Try.prog 16 [slv code.length pcode.1].toArray w0 (RetE2 w0 (fun (r1 : TKept) (r2 : Int) => True)) := by
 refine Calls.run NoB Try.func16 ?_
 intro ac β S
 have hlecode : code.length ≤ 4194304 := LRd.le hcode
 refine S.go 9 .nil fun ac w β S => S.KE4 (d := 10) (c_spec_DrawFill w code pcode (S.rd (S.arg hcode)) (by omega)) fun ac w N x1 q5 F9 x2 q6 F10 x3 q7 F11 x4 q8 F12 S h21 up o13 o14 o15 o16 d17 d18 d19 d20 d22 d23 d24 d25 d26 d27 => ?_
 clear up d17 d18 d19 d20
 have l28 := LRd.le o14.rn
 have l29 := LRd.le o15.rn
 have i30 : In64 x4 := o16.own
 have l31 := i30.lo; have l32 := i30.hi
 refine S.gr 21 .nil [GT.val x1 q5, I x4] fun ac w β S => ?_
 exact retE2_of (F2 := NoB) (p2 := ()) S (show True by clear S; trivial) rfl rfl o13 ⟨i30, fun _ h => False.elim h, fun _ h => False.elim h⟩ (fun b _ h => False.elim h)

theorem k0_impl_Ask {p : Prop} (h : p := by clear S; (unfold f_ask; (repeat' split) <;> first | rfl | (exfalso; omega) | (exfalso; simp_all; done) | (exfalso; simp_all; omega) | (simp_all; done))) : p := h
theorem c_impl_Ask (w0 : World) (k : TKept) (pk : PKept) (hk : RD w0 k pk) (page : Int) : Calls Try.prog 17 [GT.val k pk, I page].toArray w0 (fun e w' => e = .returned (.tuple #[GT.val (f_ask k page).1 (), B (f_ask k page).2]) ∧ Chg NoB w0 w') := by
 refine Calls.run NoB Try.func17 ?_
 intro ac β S
 have hlek_known : k.known.length ≤ 4194304 := LRd.le (RKept.known (d := k) hk)
 have hlek_slots : k.slots.length ≤ 4194304 := LRd.le (RKept.slots (d := k) hk)
 refine S.gb 17 (.cons (Q_call fun w hw => c_impl_has w page (k.known.length : Int) (by omega)) .nil) (!(f_within page 0 ((k.known.length : Int) - 1))) (fun ac w β h1 S => ?_) (fun ac w β h1 S => ?_)
 ·have h2 := not_t h1
  have g3 := within_f h2
  exact S.gf 26 (.cons (Q_call fun w hw => c_impl_NoSlot w ) .nil) [GT.val (⟨-1, 0⟩ : TSlot) (), B false] (ret2v (congrArg (fun z => GT.val z ()) (show (⟨-1, 0⟩ : TSlot) = (f_ask k page).1 from k0_impl_Ask)) (eqB (show false = (f_ask k page).2 from k0_impl_Ask)))
 have h4 := not_f h1
 have g5 := within_t h4
 refine S.gb 8 (.cons (Q_call fun w hw => c_impl_has w page (k.slots.length : Int) (by omega)) .nil) (!(f_within page 0 ((k.slots.length : Int) - 1))) (fun ac w β h6 S => ?_) (fun ac w β h6 S => ?_)
 ·have h7 := not_t h6
  have g8 := within_f h7
  exact S.gf 18 (.cons (Q_call fun w hw => c_impl_NoSlot w ) .nil) [GT.val (⟨-1, 0⟩ : TSlot) (), B false] (ret2v (congrArg (fun z => GT.val z ()) (show (⟨-1, 0⟩ : TSlot) = (f_ask k page).1 from k0_impl_Ask)) (eqB (show false = (f_ask k page).2 from k0_impl_Ask)))
 have h9 := not_f h6
 have g10 := within_t h9
 refine S.gb 9 (.cons (qt (RKept.known (d := k) (S.arg hk)) page Try.underlying38) (.cons (qx (RKept.known (d := k) (S.arg hk)) 4 page.toNat) .nil)) (!(el k.known page.toNat)) (fun ac w β h11 S => ?_) (fun ac w β h11 S => ?_)
 ·have h12 := not_t h11
  exact S.gf 9 (.cons (Q_call fun w hw => c_impl_NoSlot w ) .nil) [GT.val (⟨-1, 0⟩ : TSlot) (), B false] (ret2v (congrArg (fun z => GT.val z ()) (show (⟨-1, 0⟩ : TSlot) = (f_ask k page).1 from k0_impl_Ask)) (eqB (show false = (f_ask k page).2 from k0_impl_Ask)))
 have h13 := not_f h11
 exact S.gf 15 (.cons (qt (RKept.slots (d := k) (S.arg hk)) page Try.underlying37) (.cons (qs (RKept.slots (d := k) (S.arg hk)) 54 page.toNat) .nil)) [GT.val (el k.slots page.toNat) (), B true] (ret2v (congrArg (fun z => GT.val z ()) (show (el k.slots page.toNat) = (f_ask k page).1 from k0_impl_Ask)) (eqB (show true = (f_ask k page).2 from k0_impl_Ask)))

theorem k0_spec_Ask {p : Prop} (h : p := by clear S; (unfold f_ask; (repeat' split) <;> first | rfl | (exfalso; omega) | (exfalso; simp_all; done) | (exfalso; simp_all; omega) | (simp_all; done))) : p := h
theorem c_spec_Ask (w0 : World) (k : TKept) (pk : PKept) (hk : RD w0 k pk) (page : Int) : Calls Try.prog 18 [GT.val k pk, I page].toArray w0 (fun e w' => e = .returned (.tuple #[GT.val (f_ask k page).1 (), B (f_ask k page).2]) ∧ Chg NoB w0 w') := by
 refine Calls.run NoB Try.func18 ?_
 intro ac β S
 have hlek_known : k.known.length ≤ 4194304 := LRd.le (RKept.known (d := k) hk)
 have hlek_slots : k.slots.length ≤ 4194304 := LRd.le (RKept.slots (d := k) hk)
 refine S.gb 15 (.cons (Q_call fun w hw => c_spec_l07Has w k pk (rd_of (S.arg hk) hw) page) .nil) (!(decide ((0 ≤ page ∧ page < k.known.length) ∧ page < k.slots.length))) (fun ac w β h1 S => ?_) (fun ac w β h1 S => ?_)
 ·have h2 := not_t h1
  have g3 := of_decide_eq_false h2
  exact S.gf 18 (.cons (Q_call fun w hw => c_spec_NoSlot w ) .nil) [GT.val (⟨-1, 0⟩ : TSlot) (), B false] (ret2v (congrArg (fun z => GT.val z ()) (show (⟨-1, 0⟩ : TSlot) = (f_ask k page).1 from k0_spec_Ask)) (eqB (show false = (f_ask k page).2 from k0_spec_Ask)))
 have h4 := not_f h1
 have g5 := of_decide_eq_true h4
 refine S.gb 9 (.cons (qt (RKept.known (d := k) (S.arg hk)) page Try.underlying38) (.cons (qx (RKept.known (d := k) (S.arg hk)) 4 page.toNat) .nil)) (!(el k.known page.toNat)) (fun ac w β h6 S => ?_) (fun ac w β h6 S => ?_)
 ·have h7 := not_t h6
  exact S.gf 9 (.cons (Q_call fun w hw => c_spec_NoSlot w ) .nil) [GT.val (⟨-1, 0⟩ : TSlot) (), B false] (ret2v (congrArg (fun z => GT.val z ()) (show (⟨-1, 0⟩ : TSlot) = (f_ask k page).1 from k0_spec_Ask)) (eqB (show false = (f_ask k page).2 from k0_spec_Ask)))
 have h8 := not_f h6
 exact S.gf 15 (.cons (qt (RKept.slots (d := k) (S.arg hk)) page Try.underlying37) (.cons (qs (RKept.slots (d := k) (S.arg hk)) 54 page.toNat) .nil)) [GT.val (el k.slots page.toNat) (), B true] (ret2v (congrArg (fun z => GT.val z ()) (show (el k.slots page.toNat) = (f_ask k page).1 from k0_spec_Ask)) (eqB (show true = (f_ask k page).2 from k0_spec_Ask)))

theorem c_spec_DrawForget (w0 : World) (code : List TByte) (pcode : LP TByte) (hcode : RD w0 code pcode) (pre0 : code.length ≤ 1048576) : Calls Try.prog 19 [slv code.length pcode.1].toArray w0 (RetE2 w0 (fun (r1 : TKept) (r2 : Int) => True)) := by
 refine Calls.run NoB Try.func19 ?_
 intro ac β S
 have hlecode : code.length ≤ 4194304 := LRd.le hcode
 refine S.go 9 .nil fun ac w β S => S.KE2 (d := 5) (c_spec_DrawAsk w code pcode (S.rd (S.arg hcode)) (by omega)) fun ac w N x1 q3 F5 x2 q4 F6 S h11 up o7 o8 d9 d10 d12 => ?_
 clear up d9 d10
 have i13 : In64 x2 := o8.own
 have l14 := i13.lo; have l15 := i13.hi
 refine S.gr 7 .nil [GT.val x1 q3, I x2] fun ac w β S => ?_
 exact retE2_of (F2 := NoB) (p2 := ()) S (show True by clear S; trivial) rfl rfl o7 ⟨i13, fun _ h => False.elim h, fun _ h => False.elim h⟩ (fun b _ h => False.elim h)

theorem c_spec_DrawForgetUses (w0 : World) (code : List TByte) (pcode : LP TByte) (hcode : RD w0 code pcode) (pre0 : code.length ≤ 1048576) : Calls Try.prog 20 [slv code.length pcode.1].toArray w0 (RetE3 w0 (fun (r1 : TKept) (r2 : List TSlot) (r3 : Int) => True)) := by
 refine Calls.run NoB Try.func20 ?_
 intro ac β S
 have hlecode : code.length ≤ 4194304 := LRd.le hcode
 refine S.go 10 .nil fun ac w β S => S.KE4 (d := 11) (c_spec_DrawFill w code pcode (S.rd (S.arg hcode)) (by omega)) fun ac w N x1 q5 F9 x2 q6 F10 x3 q7 F11 x4 q8 F12 S h21 up o13 o14 o15 o16 d17 d18 d19 d20 d22 d23 d24 d25 d26 d27 => ?_
 clear up d17 d18 d19 d20
 have l28 := LRd.le o14.rn
 have l29 := LRd.le o15.rn
 have i30 : In64 x4 := o16.own
 have l31 := i30.lo; have l32 := i30.hi
 refine S.gr 23 .nil [GT.val x1 q5, slv x2.length q6.1, I x4] fun ac w β S => ?_
 exact retE3_of (F3 := NoB) (p3 := ()) S (show True by clear S; trivial) rfl rfl rfl o13 o14 ⟨i30, fun _ h => False.elim h, fun _ h => False.elim h⟩ d22 (fun b _ h => False.elim h) (fun b _ h => False.elim h)

theorem c_spec_DrawForgetAll (w0 : World) (code : List TByte) (pcode : LP TByte) (hcode : RD w0 code pcode) (pre0 : code.length ≤ 1048576) : Calls Try.prog 21 [slv code.length pcode.1].toArray w0 (RetE1 w0 (fun (r : TKept) => True)) := by
 refine Calls.run NoB Try.func21 ?_
 intro ac β S
 have hlecode : code.length ≤ 4194304 := LRd.le hcode
 refine S.go 8 .nil fun ac w β S => S.KE2 (d := 7) (c_spec_DrawAsk w code pcode (S.rd (S.arg hcode)) (by omega)) fun ac w N x1 q3 F5 x2 q4 F6 S h11 up o7 o8 d9 d10 d12 => ?_
 clear up d9 d10
 have i13 : In64 x2 := o8.own
 have l14 := i13.lo; have l15 := i13.hi
 refine S.gr 15 .nil [GT.val x1 q3] fun ac w β S => ?_
 exact retE1_of S (show True by clear S; trivial) rfl o7

theorem c_spec_DrawTableNew (w0 : World) (code : List TByte) (pcode : LP TByte) (hcode : RD w0 code pcode) (pre0 : code.length ≤ 1048576) : Calls Try.prog 59 [slv code.length pcode.1].toArray w0 (RetE1 w0 (fun (r : Int) => True)) := by
 refine Calls.run NoB Try.func59 ?_
 intro ac β S
 have hlecode : code.length ≤ 4194304 := LRd.le hcode
 refine S.go 8 .nil fun ac w β S => S.KNw (d := 4) hcode (fun _ h => h) (c_spec_l01New w code pcode (S.rd (S.arg hcode)) (by omega)) fun ac w N b1 F2 S up oc3 d4 => ?_
 clear up d4
 refine S.BF ([0, 1, 4, 8, 24, 25, (-1), 9223372036854775807] : List Int) () (d := 5) (List.forall_mem_cons.2 ⟨fun _ => (show In64 0 from ⟨by decide, by decide⟩), List.forall_mem_cons.2 ⟨fun _ => (show In64 1 from ⟨by decide, by decide⟩), List.forall_mem_cons.2 ⟨fun _ => (show In64 4 from ⟨by decide, by decide⟩), List.forall_mem_cons.2 ⟨fun _ => (show In64 8 from ⟨by decide, by decide⟩), List.forall_mem_cons.2 ⟨fun _ => (show In64 24 from ⟨by decide, by decide⟩), List.forall_mem_cons.2 ⟨fun _ => (show In64 25 from ⟨by decide, by decide⟩), List.forall_mem_cons.2 ⟨fun _ => (show In64 (-1) from ⟨by decide, by decide⟩), List.forall_mem_cons.2 ⟨fun _ => (show In64 9223372036854775807 from ⟨by decide, by decide⟩), List.forall_mem_nil _⟩⟩⟩⟩⟩⟩⟩⟩) (show 8 ≤ 4194304 by decide) fun ac w N q5 F6 S up o7 d8 => ?_
 have d9 := Disj.w d8 oc3.sub
 replace oc3 := oc3.up up
 clear up d8
 refine S.KD1 (d := 6) oc3 (c_spec_l01PickInt w code pcode (Lt w0.heap.size) F2 (cap1 b1 () : LP TCur) (S.cu oc3) ([0, 1, 4, 8, 24, 25, (-1), 9223372036854775807] : List Int) q5 F6 (GT.own_rd (S.ownw o7)) (fun b hb => ⟨(S.sep b (o7.sub b hb)).1, (Disj.symm d9) b hb⟩) (by first | omega | decide | (simp; done))) fun ac w N x10 q11 F12 S h15 up o13 d14 oc3n => ?_
 replace oc3 := oc3n
 clear up d14
 have i16 : In64 x10 := o13.own
 have l17 := i16.lo; have l18 := i16.hi
 refine S.gr 4 .nil [I x10] fun ac w β S => ?_
 exact retE1_of (F1 := NoB) (p := ()) S (show True by clear S; trivial) rfl ⟨i16, fun _ h => False.elim h, fun _ h => False.elim h⟩

theorem c_spec_DrawKeptNew (w0 : World) (code : List TByte) (pcode : LP TByte) (hcode : RD w0 code pcode) (pre0 : code.length ≤ 1048576) : Calls Try.prog 22 [slv code.length pcode.1].toArray w0 (RetE1 w0 (fun (r : Int) => True)) := by
 refine Calls.run NoB Try.func22 ?_
 intro ac β S
 have hlecode : code.length ≤ 4194304 := LRd.le hcode
 refine S.go 8 .nil fun ac w β S => S.KE1 (d := 4) (c_spec_DrawTableNew w code pcode (S.rd (S.arg hcode)) (by omega)) fun ac w N x1 q2 F3 S h6 up o4 d5 => ?_
 clear up d5
 have i7 : In64 x1 := o4.own
 have l8 := i7.lo; have l9 := i7.hi
 refine S.gr 4 .nil [I x1] fun ac w β S => ?_
 exact retE1_of (F1 := NoB) (p := ()) S (show True by clear S; trivial) rfl ⟨i7, fun _ h => False.elim h, fun _ h => False.elim h⟩

theorem k0_impl_Forget {p : Prop} (h : p := by clear S; (unfold f_forget; (repeat' split) <;> first | rfl | (exfalso; omega) | (exfalso; simp_all; done))) : p := h
theorem c_impl_Forget (w0 : World) (k : TKept) (pk : PKept) (hk : RD w0 k pk) (page : Int) : Calls Try.prog 23 [GT.val k pk, I page].toArray w0 (Ret1 NoB w0 (f_forget k page : TKept)) := by
 refine Calls.run NoB Try.func23 ?_
 intro ac β S
 have hlek_known : k.known.length ≤ 4194304 := LRd.le (RKept.known (d := k) hk)
 have hlek_slots : k.slots.length ≤ 4194304 := LRd.le (RKept.slots (d := k) hk)
 refine S.go 9 .nil fun ac w β S => S.K1 (r := k) (d := 7) (c_impl_copyKept w k pk (S.rd (S.arg hk))) fun ac w N q1 F2 S up o3 d4 => ?_
 clear up d4
 obtain ⟨F5, F8, o6, o9, _, _, d11⟩ := sp_Kept o3
 refine S.gb 13 (.cons (Q_call fun w hw => c_impl_has w page (k.known.length : Int) (by omega)) .nil) (f_within page 0 ((k.known.length : Int) - 1)) (fun ac w β h12 S => ?_) (fun ac w β h12 S => ?_)
 ·have g13 := within_t h12
  refine S.gb 8 (.cons (Q_call fun w hw => c_impl_has w page (k.slots.length : Int) (by omega)) .nil) (f_within page 0 ((k.slots.length : Int) - 1)) (fun ac w β h14 S => ?_) (fun ac w β h14 S => ?_)
  ·have g15 := within_t h14
   refine S.go 7 (.cons (qt o6.rn page Try.underlying38) .nil) fun ac w β S => S.SF (α := Bool) o6 (t := 4) (k := page.toNat) (j := 0) (off := q1.known.1.off + page.toNat * 1) (v := B false) (y := false) (q := ()) (fun _ _ _ => ⟨NoB, trivial, fun _ h => False.elim h⟩) fun w N F17 q18 S up o16 d19 s20 n21 => ?_
   have d22 := d19 _ (Disj.symm d11) (fun b _ h => False.elim h) o9.sub
   replace o9 := o9.upF (Disj.symm d11) up
   clear up d19 o6 n21
   have l23 : (k.known.set page.toNat false).length = k.known.length := List.length_set
   replace S := S.z (σ' := ⟨[(1, .v (I page)), (4, .p 1 0), (5, .p 2 0), (23, .v (pt q1.known.1.b (q1.known.1.off + page.toNat * 1)))], [GT.cells k pk, Zc TKept, [slv k.known.length q1.known.1, slv k.slots.length q1.slots.1]]⟩)
   replace S := S.cast (σ' := ⟨[(1, .v (I page)), (4, .p 1 0), (5, .p 2 0), (23, .v (pt q1.known.1.b (q1.known.1.off + page.toNat * 1)))], [GT.cells k pk, Zc TKept, [slv (k.known.set page.toNat false).length q1.known.1, slv k.slots.length q1.slots.1]]⟩) (by rw [show (k.known.set page.toNat false).length = k.known.length by omega])
   refine S.is fun S => ?_
   refine S.go 2 .nil fun ac w β S => ?_
   refine drw ?_
   refine S.draw0 (f := 6) 5 (by kernel_rfl) (by kernel_rfl) fun w S => ?_
   refine S.hq 0 [0] [] [(24, .p 2 1)] .nil fun ac S => ?_
   refine S.hq 1 [1] [] [(25, .v (slv k.slots.length q1.slots.1))] .nil fun ac S => ?_
   refine S.hq 2 [2] [] [(26, .v (I page))] .nil fun ac S => ?_
   refine S.sq 3 [] [(27, .v (GT.val (⟨-1, 0⟩ : TSlot) ()))] 3 [] (.cons (Q_call fun w hw => c_impl_NoSlot w ) .nil) fun ac w β S => ?_
   refine S.hq 4 [4] [] [(28, .v (pt q1.slots.1.b (q1.slots.1.off + page.toNat * 2)))] (.cons (qt o9.rn page Try.underlying37) .nil) fun ac S => ?_
   refine WD.one (i := 5) (by kernel_rfl) ?_
   have e24 : RSlot (el k.slots page.toNat) := (LRd.el o9.rn page.toNat (by omega))
   refine id (S.sF (α := TSlot) o9 (t := 54) (k := page.toNat) (j := 0) (off := q1.slots.1.off + page.toNat * 2) (v := GT.val (⟨-1, 0⟩ : TSlot) ()) (y := (⟨-1, 0⟩ : TSlot)) (q := ()) (fun _ _ _ => ⟨NoB, (show RSlot ⟨-1, 0⟩ from ⟨⟨by decide, by decide⟩, ⟨by decide, by decide⟩⟩), fun _ h => False.elim h⟩) fun w N F26 q27 S up o25 d28 s29 n30 => ?_)
   refine WD.last (by kernel_rfl) ?_
   have d31 := d28 _ (Disj.symm d22) (fun b _ h => False.elim h) o16.sub
   replace o16 := o16.upF (Disj.symm d22) up
   clear up d28 o9 n30
   have l32 : (k.slots.set page.toNat (⟨-1, 0⟩ : TSlot)).length = k.slots.length := List.length_set
   replace S := S.z (σ' := ⟨[(4, .p 1 0), (5, .p 2 0), (27, .v (GT.val (⟨-1, 0⟩ : TSlot) ())), (28, .v (pt q1.slots.1.b (q1.slots.1.off + page.toNat * 2)))], [GT.cells k pk, Zc TKept, [slv (k.known.set page.toNat false).length q1.known.1, slv k.slots.length q1.slots.1]]⟩)
   replace S := S.cast (σ' := ⟨[(4, .p 1 0), (5, .p 2 0), (27, .v (GT.val (⟨-1, 0⟩ : TSlot) ())), (28, .v (pt q1.slots.1.b (q1.slots.1.off + page.toNat * 2)))], [GT.cells k pk, Zc TKept, [slv (k.known.set page.toNat false).length q1.known.1, slv (k.slots.set page.toNat (⟨-1, 0⟩ : TSlot)).length q1.slots.1]]⟩) (by rw [show (k.slots.set page.toNat (⟨-1, 0⟩ : TSlot)).length = k.slots.length by omega])
   refine WD.done (by kernel_rfl) ?_ _
   refine S.ex fun S => ?_
   refine S.gr 8 .nil [GT.val (⟨(k.known.set page.toNat false), (k.slots.set page.toNat (⟨-1, 0⟩ : TSlot))⟩ : TKept) (⟨(q1.known.1, q18), (q1.slots.1, q27)⟩ : PKept)] fun ac w β S => ?_
   have o33 := ow_Kept (x := (⟨(k.known.set page.toNat false), (k.slots.set page.toNat (⟨-1, 0⟩ : TSlot))⟩ : TKept)) (p := (⟨(q1.known.1, q18), (q1.slots.1, q27)⟩ : PKept)) o16 o25 d31 
   exact ret1_of S (show f_forget k page = (⟨(k.known.set page.toNat false), (k.slots.set page.toNat (⟨-1, 0⟩ : TSlot))⟩ : TKept) from k0_impl_Forget) rfl o33
  have g34 := within_f h14
  refine S.gr 10 .nil [GT.val k q1] fun ac w β S => ?_
  have o35 := ow_Kept (x := k) (p := q1) o6 o9 d11 
  exact ret1_of S (show f_forget k page = k from k0_impl_Forget) rfl o35
 have g36 := within_f h12
 refine S.gr 18 .nil [GT.val k q1] fun ac w β S => ?_
 have o37 := ow_Kept (x := k) (p := q1) o6 o9 d11 
 exact ret1_of S (show f_forget k page = k from k0_impl_Forget) rfl o37

theorem k0_spec_Forget {p : Prop} (h : p := by clear S; (unfold f_forget; (repeat' split) <;> first | rfl | (exfalso; omega) | (exfalso; simp_all; done))) : p := h
theorem c_spec_Forget (w0 : World) (k : TKept) (pk : PKept) (hk : RD w0 k pk) (page : Int) : Calls Try.prog 24 [GT.val k pk, I page].toArray w0 (Ret1 NoB w0 (f_forget k page : TKept)) := by
 refine Calls.run NoB Try.func24 ?_
 intro ac β S
 have hlek_known : k.known.length ≤ 4194304 := LRd.le (RKept.known (d := k) hk)
 have hlek_slots : k.slots.length ≤ 4194304 := LRd.le (RKept.slots (d := k) hk)
 refine S.go 9 .nil fun ac w β S => S.K1 (r := k) (d := 6) (c_spec_l07Copy w k pk (S.rd (S.arg hk))) fun ac w N q1 F2 S up o3 d4 => ?_
 clear up d4
 obtain ⟨F5, F8, o6, o9, _, _, d11⟩ := sp_Kept o3
 refine S.gb 11 (.cons (Q_call fun w hw => c_spec_l07Has w k q1 (rd_of (show GT.rd KK _ _ k q1 from ⟨o6.rn, o9.rn⟩) hw) page) .nil) (decide ((0 ≤ page ∧ page < k.known.length) ∧ page < k.slots.length)) (fun ac w β h12 S => ?_) (fun ac w β h12 S => ?_)
 ·have g13 := of_decide_eq_true h12
  refine S.go 7 (.cons (qt o6.rn page Try.underlying38) .nil) fun ac w β S => S.SF (α := Bool) o6 (t := 4) (k := page.toNat) (j := 0) (off := q1.known.1.off + page.toNat * 1) (v := B false) (y := false) (q := ()) (fun _ _ _ => ⟨NoB, trivial, fun _ h => False.elim h⟩) fun w N F15 q16 S up o14 d17 s18 n19 => ?_
  have d20 := d17 _ (Disj.symm d11) (fun b _ h => False.elim h) o9.sub
  replace o9 := o9.upF (Disj.symm d11) up
  clear up d17 o6 n19
  have l21 : (k.known.set page.toNat false).length = k.known.length := List.length_set
  replace S := S.z (σ' := ⟨[(1, .v (I page)), (2, .p 0 0), (4, .p 1 0), (13, .v (pt q1.known.1.b (q1.known.1.off + page.toNat * 1)))], [[slv k.known.length q1.known.1, slv k.slots.length q1.slots.1], Zc TKept]⟩)
  replace S := S.cast (σ' := ⟨[(1, .v (I page)), (2, .p 0 0), (4, .p 1 0), (13, .v (pt q1.known.1.b (q1.known.1.off + page.toNat * 1)))], [[slv (k.known.set page.toNat false).length q1.known.1, slv k.slots.length q1.slots.1], Zc TKept]⟩) (by rw [show (k.known.set page.toNat false).length = k.known.length by omega])
  refine S.is fun S => ?_
  refine S.go 2 .nil fun ac w β S => ?_
  refine drw ?_
  refine S.draw0 (f := 6) 5 (by kernel_rfl) (by kernel_rfl) fun w S => ?_
  refine S.hq 0 [0] [] [(14, .p 0 1)] .nil fun ac S => ?_
  refine S.hq 1 [1] [] [(15, .v (slv k.slots.length q1.slots.1))] .nil fun ac S => ?_
  refine S.hq 2 [2] [] [(16, .v (I page))] .nil fun ac S => ?_
  refine S.sq 3 [] [(17, .v (GT.val (⟨-1, 0⟩ : TSlot) ()))] 2 [] (.cons (Q_call fun w hw => c_spec_NoSlot w ) .nil) fun ac w β S => ?_
  refine S.hq 4 [4] [] [(18, .v (pt q1.slots.1.b (q1.slots.1.off + page.toNat * 2)))] (.cons (qt o9.rn page Try.underlying37) .nil) fun ac S => ?_
  refine WD.one (i := 5) (by kernel_rfl) ?_
  have e22 : RSlot (el k.slots page.toNat) := (LRd.el o9.rn page.toNat (by omega))
  refine id (S.sF (α := TSlot) o9 (t := 54) (k := page.toNat) (j := 0) (off := q1.slots.1.off + page.toNat * 2) (v := GT.val (⟨-1, 0⟩ : TSlot) ()) (y := (⟨-1, 0⟩ : TSlot)) (q := ()) (fun _ _ _ => ⟨NoB, (show RSlot ⟨-1, 0⟩ from ⟨⟨by decide, by decide⟩, ⟨by decide, by decide⟩⟩), fun _ h => False.elim h⟩) fun w N F24 q25 S up o23 d26 s27 n28 => ?_)
  refine WD.last (by kernel_rfl) ?_
  have d29 := d26 _ (Disj.symm d20) (fun b _ h => False.elim h) o14.sub
  replace o14 := o14.upF (Disj.symm d20) up
  clear up d26 o9 n28
  have l30 : (k.slots.set page.toNat (⟨-1, 0⟩ : TSlot)).length = k.slots.length := List.length_set
  replace S := S.z (σ' := ⟨[(2, .p 0 0), (4, .p 1 0), (17, .v (GT.val (⟨-1, 0⟩ : TSlot) ())), (18, .v (pt q1.slots.1.b (q1.slots.1.off + page.toNat * 2)))], [[slv (k.known.set page.toNat false).length q1.known.1, slv k.slots.length q1.slots.1], Zc TKept]⟩)
  replace S := S.cast (σ' := ⟨[(2, .p 0 0), (4, .p 1 0), (17, .v (GT.val (⟨-1, 0⟩ : TSlot) ())), (18, .v (pt q1.slots.1.b (q1.slots.1.off + page.toNat * 2)))], [[slv (k.known.set page.toNat false).length q1.known.1, slv (k.slots.set page.toNat (⟨-1, 0⟩ : TSlot)).length q1.slots.1], Zc TKept]⟩) (by rw [show (k.slots.set page.toNat (⟨-1, 0⟩ : TSlot)).length = k.slots.length by omega])
  refine WD.done (by kernel_rfl) ?_ _
  refine S.ex fun S => ?_
  refine S.gr 8 .nil [GT.val (⟨(k.known.set page.toNat false), (k.slots.set page.toNat (⟨-1, 0⟩ : TSlot))⟩ : TKept) (⟨(q1.known.1, q16), (q1.slots.1, q25)⟩ : PKept)] fun ac w β S => ?_
  have o31 := ow_Kept (x := (⟨(k.known.set page.toNat false), (k.slots.set page.toNat (⟨-1, 0⟩ : TSlot))⟩ : TKept)) (p := (⟨(q1.known.1, q16), (q1.slots.1, q25)⟩ : PKept)) o14 o23 d29 
  exact ret1_of S (show f_forget k page = (⟨(k.known.set page.toNat false), (k.slots.set page.toNat (⟨-1, 0⟩ : TSlot))⟩ : TKept) from k0_spec_Forget) rfl o31
 have g32 := of_decide_eq_false h12
 refine S.gr 10 .nil [GT.val k q1] fun ac w β S => ?_
 have o33 := ow_Kept (x := k) (p := q1) o6 o9 d11 
 exact ret1_of S (show f_forget k page = k from k0_spec_Forget) rfl o33

theorem c_impl_UsesOf (w0 : World) (t : List TSlot) (pt : LP TSlot) (ht : RD w0 t pt) (page : Int) : Calls Try.prog 60 [slv t.length pt.1, I page].toArray w0 (Ret1 NoB w0 (f_usesOf t page : List Int)) := by
 refine Calls.run NoB Try.func60 ?_
 intro ac β S
 have hlet : t.length ≤ 4194304 := LRd.le ht
 refine S.go 7 .nil fun ac w β S => S.B0 (α := Int) (d := 8) fun ac w N q1 F2 S up o3 d4 => ?_
 clear up d4
 refine S.go 12 .nil fun ac w β S => ?_
 refine lp (fun mm ac w => ∃ (k : Nat) (acc : List Int) (q5 : _) (F6 : _) (u : _) (N : _) (β : _), mm = t.length - k ∧ (k ≤ t.length) ∧ (acc = f_idx k (fun i => decide ((el t i).page = page))) ∧ St Try.prog Try.f60.ntmps w0 NoB u N β ⟨[(1, .v (I page)), (5, .v (slv acc.length q5.1)), (9, .v (slv t.length pt.1)), (10, .v (I (t.length : Int))), (11, .v (I (k : Int)))], []⟩ ac w ∧ Ow w0 NoB u N F6 acc q5) _ ⟨0, ([] : List Int), q1, F2, _, _, _, rfl, o0, (by rfl), S.z, o3⟩ ?_
 clear S o3
 rintro f8 mm hf9 ac w ⟨k, acc, q5, F6, u, N, β, rfl, hk, hacc, S, o7⟩
 refine S.rs fun S => ?_
 have hlacc : acc.length ≤ k := by rw [hacc]; exact idx_len _ _
 refine S.gd 6 .nil (decide ((k : Int) < (t.length : Int))) (fun ac w β h10 g11 S => ?_) (fun ac w β h10 g11 S => ?_)
 ·refine S.gd 23 (.cons (qn (S.arg ht) k Try.underlying37) (.cons (qs (S.arg ht) 54 k) .nil)) ((el t k).page == page) (fun ac w β h12 g13 S => ?_) (fun ac w β h12 g13 S => ?_)
  ·refine S.go 4 .nil fun ac w β S => S.B1 (α := Int) (x := (k : Int)) (p := ()) (F := NoB) ⟨by omega, by omega⟩ (fun b h => False.elim h) (fun b h => False.elim h) (d := 22) fun ac w N q14 F15 S up o16 d17 => ?_
   replace o7 := o7.up up
   clear up d17
   refine S.AF (α := Int) o7 o16.rn (fun _ _ h => h) (by' := 8) (d := 23) (lx := acc.length) (ly := 1) rfl rfl (show _ ≤ 4194304 by simp only [List.length_append, List.length_cons, List.length_nil]; omega) fun ac w N q19 F20 S up o21 d22 => ?_
   clear up d22
   refine S.ge 8 (.cons (qp (k : Int) 1) .nil) f8 fun ac w β S => hf9.of (t.length - (k + 1)) _ _ (by omega) ⟨k + 1, (acc ++ [(k : Int)]), q19, F20, _, _, _, rfl, ?_, ?_, S.z, o21⟩
   ·exact oz
   ·clear S; (first | (rw [idx_step_t (by first | assumption | (simp [*]; done) | (simp; omega)), hacc]; done) | (rw [idx_step_f (by first | assumption | (simp [*]; done) | (simp; omega)), hacc]; done) | (rw [idx_step_t (by simp_all <;> fail), hacc]; done) | (rw [idx_step_f (by simp_all <;> fail), hacc]; done))
  refine S.ge 8 (.cons (qp (k : Int) 1) .nil) f8 fun ac w β S => hf9.of (t.length - (k + 1)) _ _ (by omega) ⟨k + 1, acc, q5, F6, _, _, _, rfl, ?_, ?_, S.z, o7⟩
  ·exact oz
  ·clear S; (first | (rw [idx_step_t (by first | assumption | (simp [*]; done) | (simp; omega)), hacc]; done) | (rw [idx_step_f (by first | assumption | (simp [*]; done) | (simp; omega)), hacc]; done) | (rw [idx_step_t (by simp_all <;> fail), hacc]; done) | (rw [idx_step_f (by simp_all <;> fail), hacc]; done))
 refine S.gr 13 .nil [slv acc.length q5.1] fun ac w β S => ?_
 exact ret1_of S (show f_usesOf t page = acc by clear S; (unfold f_usesOf; rw [hacc, show t.length = k by omega])) rfl o7

theorem c_impl_ForgetUses (w0 : World) (k : TKept) (pk : PKept) (hk : RD w0 k pk) (inner : List TSlot) (pinner : LP TSlot) (hinner : RD w0 inner pinner) (page : Int) : Calls Try.prog 25 [GT.val k pk, slv inner.length pinner.1, I page].toArray w0 (Ret1 NoB w0 (f_forgetUses k inner page : TKept)) := by
 refine Calls.run NoB Try.func25 ?_
 intro ac β S
 have hlek_known : k.known.length ≤ 4194304 := LRd.le (RKept.known (d := k) hk)
 have hlek_slots : k.slots.length ≤ 4194304 := LRd.le (RKept.slots (d := k) hk)
 have hleinner : inner.length ≤ 4194304 := LRd.le hinner
 refine S.go 9 .nil fun ac w β S => S.K1 (r := k) (d := 11) (c_impl_copyKept w k pk (S.rd (S.arg hk))) fun ac w N q1 F2 S up o3 d4 => ?_
 clear up d4
 obtain ⟨F5, F8, o6, o9, _, _, d11⟩ := sp_Kept o3
 refine S.go 9 .nil fun ac w β S => S.K1 (r := f_usesOf inner page) (d := 14) (c_impl_UsesOf w inner pinner (S.rd (S.arg hinner)) page) fun ac w N q12 F13 S up o14 d15 => ?_
 have d16 := Disj.w d15 o6.sub
 have d17 := Disj.w d15 o9.sub
 replace o6 := o6.up up
 replace o9 := o9.up up
 clear up d15
 refine S.go 5 .nil fun ac w β S => ?_
 refine lp (fun mm ac w => ∃ (i : Nat) (kn : List Bool) (sl : List TSlot) (q18 : _) (F19 : _) (q21 : _) (F22 : _) (u : _) (N : _) (β : _), mm = (f_usesOf inner page).length - i ∧ (i ≤ (f_usesOf inner page).length) ∧ ((⟨kn, sl⟩ : TKept) = ((f_usesOf inner page).take i).foldl f_forget k) ∧ St Try.prog Try.f25.ntmps w0 NoB u N β ⟨[(6, .p 1 0), (7, .p 2 0), (14, .v (slv (f_usesOf inner page).length q12.1)), (15, .v (I ((f_usesOf inner page).length : Int))), (16, .v (I (i : Int)))], [GT.cells k pk, Zc TKept, [slv kn.length q18.1, slv sl.length q21.1]]⟩ ac w ∧ Ow w0 NoB u N F19 kn q18 ∧ Ow w0 NoB u N F22 sl q21 ∧ Ow w0 NoB u N F13 (f_usesOf inner page) q12 ∧ Disj F19 F22 ∧ Disj F19 F13 ∧ Disj F22 F13) _ ⟨0, k.known, k.slots, q1.known, F5, q1.slots, F8, _, _, _, rfl, o0, (by rfl), S.z, o6, o9, o14, d11, d16, d17⟩ ?_
 clear S o14 o6 o9
 rintro f27 mm hf28 ac w ⟨i, kn, sl, q18, F19, q21, F22, u, N, β, rfl, hi, hf, S, o20, o23, o14, d24, d25, d26⟩
 refine S.rs fun S => ?_
 have hub : (f_usesOf inner page).length ≤ inner.length := idx_len _ _
 refine S.gd 6 .nil (decide ((i : Int) < ((f_usesOf inner page).length : Int))) (fun ac w β h29 g30 S => ?_) (fun ac w β h29 g30 S => ?_)
 ·refine S.go 15 (.cons (qn o14.rn i Try.underlying24) (.cons (qx o14.rn 3 i) .nil)) fun ac w β S => S.K1 (r := f_forget (⟨kn, sl⟩ : TKept) (el (f_usesOf inner page) i)) (d := 22) (c_impl_Forget w (⟨kn, sl⟩ : TKept) (⟨q18, q21⟩ : PKept) (S.rd (show GT.rd KK _ _ (⟨kn, sl⟩ : TKept) (⟨q18, q21⟩ : PKept) from ⟨o20.rn, o23.rn⟩)) (el (f_usesOf inner page) i)) fun ac w N q31 F32 S up o33 d34 => ?_
  have d37 := Disj.w d34 o14.sub
  replace o20 := o20.up up
  replace o23 := o23.up up
  replace o14 := o14.up up
  clear up d34
  obtain ⟨F38, F41, o39, o42, s40, s43, d44⟩ := sp_Kept o33
  refine S.ge 8 (.cons (qp (i : Int) 1) .nil) f27 fun ac w β S => hf28.of ((f_usesOf inner page).length - (i + 1)) _ _ (by omega) ⟨i + 1, (f_forget (⟨kn, sl⟩ : TKept) (el (f_usesOf inner page) i)).known, (f_forget (⟨kn, sl⟩ : TKept) (el (f_usesOf inner page) i)).slots, q31.known, F38, q31.slots, F41, _, _, _, rfl, ?_, ?_, S.z, o39, o42, o14, d44, (Disj.part (Disj.symm d37) s40), (Disj.part (Disj.symm d37) s43)⟩
  ·exact oz
  ·clear S; (rw [fold_step (by omega), ← hf])
 refine S.gr 13 .nil [GT.val (⟨kn, sl⟩ : TKept) (⟨q18, q21⟩ : PKept)] fun ac w β S => ?_
 have o45 := ow_Kept (x := (⟨kn, sl⟩ : TKept)) (p := (⟨q18, q21⟩ : PKept)) o20 o23 d24 
 exact ret1_of S (show f_forgetUses k inner page = (⟨kn, sl⟩ : TKept) by clear S; (unfold f_forgetUses; rw [fold_end (by omega)] at hf; exact hf.symm)) rfl o45

theorem c_spec_UsesOf (w0 : World) (t : List TSlot) (pt : LP TSlot) (ht : RD w0 t pt) (page : Int) : Calls Try.prog 61 [slv t.length pt.1, I page].toArray w0 (Ret1 NoB w0 (f_usesOf t page : List Int)) := by
 refine Calls.run NoB Try.func61 ?_
 intro ac β S
 have hlet : t.length ≤ 4194304 := LRd.le ht
 refine S.go 7 .nil fun ac w β S => S.B0 (α := Int) (d := 7) fun ac w N q1 F2 S up o3 d4 => ?_
 clear up d4
 refine S.go 10 .nil fun ac w β S => ?_
 refine lp (fun mm ac w => ∃ (k : Nat) (acc : List Int) (q5 : _) (F6 : _) (u : _) (N : _) (β : _), mm = t.length - k ∧ (k ≤ t.length) ∧ (acc = f_idx k (fun i => decide ((el t i).page = page))) ∧ St Try.prog Try.f61.ntmps w0 NoB u N β ⟨[(0, .v (slv t.length pt.1)), (1, .v (I page)), (5, .v (slv acc.length q5.1)), (6, .v (I (k : Int)))], []⟩ ac w ∧ Ow w0 NoB u N F6 acc q5) _ ⟨0, ([] : List Int), q1, F2, _, _, _, rfl, o0, (by rfl), S.z, o3⟩ ?_
 clear S o3
 rintro f8 mm hf9 ac w ⟨k, acc, q5, F6, u, N, β, rfl, hk, hacc, S, o7⟩
 refine S.rs fun S => ?_
 have hlacc : acc.length ≤ k := by rw [hacc]; exact idx_len _ _
 refine S.gd 9 .nil (decide ((k : Int) < (t.length : Int))) (fun ac w β h10 g11 S => ?_) (fun ac w β h10 g11 S => ?_)
 ·refine S.gd 16 (.cons (qn (S.arg ht) k Try.underlying37) (.cons (qc (S.arg ht) 3 k 0 (I (el t k).page)) .nil)) ((el t k).page == page) (fun ac w β h12 g13 S => ?_) (fun ac w β h12 g13 S => ?_)
  ·refine S.go 4 .nil fun ac w β S => S.B1 (α := Int) (x := (k : Int)) (p := ()) (F := NoB) ⟨by omega, by omega⟩ (fun b h => False.elim h) (fun b h => False.elim h) (d := 23) fun ac w N q14 F15 S up o16 d17 => ?_
   replace o7 := o7.up up
   clear up d17
   refine S.AF (α := Int) o7 o16.rn (fun _ _ h => h) (by' := 8) (d := 24) (lx := acc.length) (ly := 1) rfl rfl (show _ ≤ 4194304 by simp only [List.length_append, List.length_cons, List.length_nil]; omega) fun ac w N q19 F20 S up o21 d22 => ?_
   clear up d22
   refine S.ge 9 (.cons (qp (k : Int) 1) .nil) f8 fun ac w β S => hf9.of (t.length - (k + 1)) _ _ (by omega) ⟨k + 1, (acc ++ [(k : Int)]), q19, F20, _, _, _, rfl, ?_, ?_, S.z, o21⟩
   ·exact oz
   ·clear S; (first | (rw [idx_step_t (by first | assumption | (simp [*]; done) | (simp; omega)), hacc]; done) | (rw [idx_step_f (by first | assumption | (simp [*]; done) | (simp; omega)), hacc]; done) | (rw [idx_step_t (by simp_all <;> fail), hacc]; done) | (rw [idx_step_f (by simp_all <;> fail), hacc]; done))
  refine S.ge 9 (.cons (qp (k : Int) 1) .nil) f8 fun ac w β S => hf9.of (t.length - (k + 1)) _ _ (by omega) ⟨k + 1, acc, q5, F6, _, _, _, rfl, ?_, ?_, S.z, o7⟩
  ·exact oz
  ·clear S; (first | (rw [idx_step_t (by first | assumption | (simp [*]; done) | (simp; omega)), hacc]; done) | (rw [idx_step_f (by first | assumption | (simp [*]; done) | (simp; omega)), hacc]; done) | (rw [idx_step_t (by simp_all <;> fail), hacc]; done) | (rw [idx_step_f (by simp_all <;> fail), hacc]; done))
 refine S.gr 13 .nil [slv acc.length q5.1] fun ac w β S => ?_
 exact ret1_of S (show f_usesOf t page = acc by clear S; (unfold f_usesOf; rw [hacc, show t.length = k by omega])) rfl o7

theorem c_spec_ForgetUses (w0 : World) (k : TKept) (pk : PKept) (hk : RD w0 k pk) (inner : List TSlot) (pinner : LP TSlot) (hinner : RD w0 inner pinner) (page : Int) : Calls Try.prog 26 [GT.val k pk, slv inner.length pinner.1, I page].toArray w0 (Ret1 NoB w0 (f_forgetUses k inner page : TKept)) := by
 refine Calls.run NoB Try.func26 ?_
 intro ac β S
 have hlek_known : k.known.length ≤ 4194304 := LRd.le (RKept.known (d := k) hk)
 have hlek_slots : k.slots.length ≤ 4194304 := LRd.le (RKept.slots (d := k) hk)
 have hleinner : inner.length ≤ 4194304 := LRd.le hinner
 refine S.go 9 .nil fun ac w β S => S.K1 (r := k) (d := 10) (c_spec_l07Copy w k pk (S.rd (S.arg hk))) fun ac w N q1 F2 S up o3 d4 => ?_
 clear up d4
 obtain ⟨F5, F8, o6, o9, _, _, d11⟩ := sp_Kept o3
 refine S.go 7 .nil fun ac w β S => S.K1 (r := f_usesOf inner page) (d := 13) (c_spec_UsesOf w inner pinner (S.rd (S.arg hinner)) page) fun ac w N q12 F13 S up o14 d15 => ?_
 have d16 := Disj.w d15 o6.sub
 have d17 := Disj.w d15 o9.sub
 replace o6 := o6.up up
 replace o9 := o9.up up
 clear up d15
 refine S.go 10 .nil fun ac w β S => ?_
 refine lp (fun mm ac w => ∃ (i : Nat) (kn : List Bool) (sl : List TSlot) (q18 : _) (F19 : _) (q21 : _) (F22 : _) (u : _) (N : _) (β : _), mm = (f_usesOf inner page).length - i ∧ (i ≤ (f_usesOf inner page).length) ∧ ((⟨kn, sl⟩ : TKept) = ((f_usesOf inner page).take i).foldl f_forget k) ∧ St Try.prog Try.f26.ntmps w0 NoB u N β ⟨[(3, .p 0 0), (6, .p 1 0), (7, .v (slv (f_usesOf inner page).length q12.1)), (8, .v (I (i : Int)))], [[slv kn.length q18.1, slv sl.length q21.1], Zc TKept]⟩ ac w ∧ Ow w0 NoB u N F19 kn q18 ∧ Ow w0 NoB u N F22 sl q21 ∧ Ow w0 NoB u N F13 (f_usesOf inner page) q12 ∧ Disj F19 F22 ∧ Disj F19 F13 ∧ Disj F22 F13) _ ⟨0, k.known, k.slots, q1.known, F5, q1.slots, F8, _, _, _, rfl, o0, (by rfl), S.z, o6, o9, o14, d11, d16, d17⟩ ?_
 clear S o14 o6 o9
 rintro f27 mm hf28 ac w ⟨i, kn, sl, q18, F19, q21, F22, u, N, β, rfl, hi, hf, S, o20, o23, o14, d24, d25, d26⟩
 refine S.rs fun S => ?_
 have hub : (f_usesOf inner page).length ≤ inner.length := idx_len _ _
 refine S.gd 9 .nil (decide ((i : Int) < ((f_usesOf inner page).length : Int))) (fun ac w β h29 g30 S => ?_) (fun ac w β h29 g30 S => ?_)
 ·refine S.go 5 .nil fun ac w β S => ?_
  refine drw ?_
  refine S.draw0 (f := 7) 6 (by kernel_rfl) (by kernel_rfl) fun w S => ?_
  refine S.hq 0 [0] [] [(20, .v (GT.val (⟨kn, sl⟩ : TKept) (⟨q18, q21⟩ : PKept)))] .nil fun ac S => ?_
  refine S.hq 1 [1] [] [(21, .v (slv (f_usesOf inner page).length q12.1))] .nil fun ac S => ?_
  refine S.hq 2 [2] [] [(22, .v (I (i : Int)))] .nil fun ac S => ?_
  refine S.hq 3 [3] [] [(23, .v (pt q12.1.b (q12.1.off + i * 1)))] (.cons (qn o14.rn i Try.underlying24) .nil) fun ac S => ?_
  refine S.hq 4 [4] [] [(24, .v (I (el (f_usesOf inner page) i)))] (.cons (qx o14.rn 3 i) .nil) fun ac S => ?_
  refine WD.one (i := 5) (by kernel_rfl) ?_
  refine id (S.k1 25 (c_spec_Forget w (⟨kn, sl⟩ : TKept) (⟨q18, q21⟩ : PKept) (S.rd (show GT.rd KK _ _ (⟨kn, sl⟩ : TKept) (⟨q18, q21⟩ : PKept) from ⟨o20.rn, o23.rn⟩)) (el (f_usesOf inner page) i)) fun ac w N q31 F32 S up o33 d34 => ?_)
  refine WD.next S up (by kernel_rfl) ?_
  have d37 := Disj.w d34 o14.sub
  replace o20 := o20.up up
  replace o23 := o23.up up
  replace o14 := o14.up up
  clear up d34
  obtain ⟨F38, F41, o39, o42, s40, s43, d44⟩ := sp_Kept o33
  refine S.sl 6 [] [] 2 [(0, [slv (f_forget (⟨kn, sl⟩ : TKept) (el (f_usesOf inner page) i)).known.length q31.known.1, slv (f_forget (⟨kn, sl⟩ : TKept) (el (f_usesOf inner page) i)).slots.length q31.slots.1])] .nil fun ac w β S => ?_
  refine WD.done (by kernel_rfl) ?_ _
  refine S.ex fun S => ?_
  refine S.ge 7 (.cons (qp (i : Int) 1) .nil) f27 fun ac w β S => hf28.of ((f_usesOf inner page).length - (i + 1)) _ _ (by omega) ⟨i + 1, (f_forget (⟨kn, sl⟩ : TKept) (el (f_usesOf inner page) i)).known, (f_forget (⟨kn, sl⟩ : TKept) (el (f_usesOf inner page) i)).slots, q31.known, F38, q31.slots, F41, _, _, _, rfl, ?_, ?_, S.z, o39, o42, o14, d44, (Disj.part (Disj.symm d37) s40), (Disj.part (Disj.symm d37) s43)⟩
  ·exact oz
  ·clear S; (rw [fold_step (by omega), ← hf])
 refine S.gr 13 .nil [GT.val (⟨kn, sl⟩ : TKept) (⟨q18, q21⟩ : PKept)] fun ac w β S => ?_
 have o45 := ow_Kept (x := (⟨kn, sl⟩ : TKept)) (p := (⟨q18, q21⟩ : PKept)) o20 o23 d24 
 exact ret1_of S (show f_forgetUses k inner page = (⟨kn, sl⟩ : TKept) by clear S; (unfold f_forgetUses; rw [fold_end (by omega)] at hf; exact hf.symm)) rfl o45

theorem c_impl_ForgetAll (w0 : World) (k : TKept) (pk : PKept) (hk : RD w0 k pk) : Calls Try.prog 27 [GT.val k pk].toArray w0 (Ret1 NoB w0 (f_forgetAll k : TKept)) := by
 refine Calls.run NoB Try.func27 ?_
 intro ac β S
 have hlek_known : k.known.length ≤ 4194304 := LRd.le (RKept.known (d := k) hk)
 have hlek_slots : k.slots.length ≤ 4194304 := LRd.le (RKept.slots (d := k) hk)
 refine S.go 9 .nil fun ac w β S => S.K1 (r := k) (d := 6) (c_impl_copyKept w k pk (S.rd (S.arg hk))) fun ac w N q1 F2 S up o3 d4 => ?_
 clear up d4
 obtain ⟨F5, F8, o6, o9, _, _, d11⟩ := sp_Kept o3
 refine S.go 14 .nil fun ac w β S => ?_
 refine lp (fun mm ac w => ∃ (i : Nat) (kn : List Bool) (sl : List TSlot) (q12 : _) (F13 : _) (q15 : _) (F16 : _) (u : _) (N : _) (β : _), mm = k.known.length - i ∧ (i ≤ k.known.length) ∧ ((⟨kn, sl⟩ : TKept) = f_forgetUpto k i) ∧ St Try.prog Try.f27.ntmps w0 NoB u N β ⟨[(2, .p 1 0), (3, .p 2 0), (9, .v (I (k.known.length : Int))), (10, .v (I (i : Int)))], [GT.cells k pk, Zc TKept, [slv kn.length q12.1, slv sl.length q15.1]]⟩ ac w ∧ Ow w0 NoB u N F13 kn q12 ∧ Ow w0 NoB u N F16 sl q15 ∧ Disj F13 F16) _ ⟨0, k.known, k.slots, q1.known, F5, q1.slots, F8, _, _, _, rfl, o0, (by rfl), S.z, o6, o9, d11⟩ ?_
 clear S o6 o9
 rintro f19 mm hf20 ac w ⟨i, kn, sl, q12, F13, q15, F16, u, N, β, rfl, hi, hf, S, o14, o17, d18⟩
 refine S.rs fun S => ?_
 have hfl := forgetUpto_len k i; rw [← hf] at hfl; simp only at hfl
 refine S.gd 6 .nil (decide ((i : Int) < (k.known.length : Int))) (fun ac w β h21 g22 S => ?_) (fun ac w β h21 g22 S => ?_)
 ·refine S.go 14 .nil fun ac w β S => S.K1 (r := f_forget (⟨kn, sl⟩ : TKept) (i : Int)) (d := 15) (c_impl_Forget w (⟨kn, sl⟩ : TKept) (⟨q12, q15⟩ : PKept) (S.rd (show GT.rd KK _ _ (⟨kn, sl⟩ : TKept) (⟨q12, q15⟩ : PKept) from ⟨o14.rn, o17.rn⟩)) (i : Int)) fun ac w N q23 F24 S up o25 d26 => ?_
  replace o14 := o14.up up
  replace o17 := o17.up up
  clear up d26
  obtain ⟨F29, F32, o30, o33, _, _, d35⟩ := sp_Kept o25
  refine S.ge 8 (.cons (qp (i : Int) 1) .nil) f19 fun ac w β S => hf20.of (k.known.length - (i + 1)) _ _ (by omega) ⟨i + 1, (f_forget (⟨kn, sl⟩ : TKept) (i : Int)).known, (f_forget (⟨kn, sl⟩ : TKept) (i : Int)).slots, q23.known, F29, q23.slots, F32, _, _, _, rfl, ?_, ?_, S.z, o30, o33, d35⟩
  ·exact oz
  ·clear S; (rw [forgetUpto_step, ← hf])
 refine S.gr 13 .nil [GT.val (⟨kn, sl⟩ : TKept) (⟨q12, q15⟩ : PKept)] fun ac w β S => ?_
 have o36 := ow_Kept (x := (⟨kn, sl⟩ : TKept)) (p := (⟨q12, q15⟩ : PKept)) o14 o17 d18 
 exact ret1_of S (show f_forgetAll k = (⟨kn, sl⟩ : TKept) by clear S; (unfold f_forgetAll; rw [show k.known.length = i by omega, ← hf])) rfl o36

theorem c_spec_ForgetAll (w0 : World) (k : TKept) (pk : PKept) (hk : RD w0 k pk) : Calls Try.prog 28 [GT.val k pk].toArray w0 (Ret1 NoB w0 (f_forgetAll k : TKept)) := by
 refine Calls.run NoB Try.func28 ?_
 intro ac β S
 have hlek_known : k.known.length ≤ 4194304 := LRd.le (RKept.known (d := k) hk)
 have hlek_slots : k.slots.length ≤ 4194304 := LRd.le (RKept.slots (d := k) hk)
 refine S.go 9 .nil fun ac w β S => S.K1 (r := k) (d := 5) (c_spec_l07Copy w k pk (S.rd (S.arg hk))) fun ac w N q1 F2 S up o3 d4 => ?_
 clear up d4
 obtain ⟨F5, F8, o6, o9, _, _, d11⟩ := sp_Kept o3
 refine S.go 10 .nil fun ac w β S => ?_
 refine lp (fun mm ac w => ∃ (i : Nat) (kn : List Bool) (sl : List TSlot) (q12 : _) (F13 : _) (q15 : _) (F16 : _) (u : _) (N : _) (β : _), mm = k.known.length - i ∧ (i ≤ k.known.length) ∧ ((⟨kn, sl⟩ : TKept) = f_forgetUpto k i) ∧ St Try.prog Try.f28.ntmps w0 NoB u N β ⟨[(1, .p 0 0), (2, .p 1 0), (3, .v (I (i : Int)))], [[slv kn.length q12.1, slv sl.length q15.1], Zc TKept]⟩ ac w ∧ Ow w0 NoB u N F13 kn q12 ∧ Ow w0 NoB u N F16 sl q15 ∧ Disj F13 F16) _ ⟨0, k.known, k.slots, q1.known, F5, q1.slots, F8, _, _, _, rfl, o0, (by rfl), S.z, o6, o9, d11⟩ ?_
 clear S o6 o9
 rintro f19 mm hf20 ac w ⟨i, kn, sl, q12, F13, q15, F16, u, N, β, rfl, hi, hf, S, o14, o17, d18⟩
 refine S.rs fun S => ?_
 have hfl := forgetUpto_len k i; rw [← hf] at hfl; simp only at hfl
 refine S.gd 10 .nil (decide ((i : Int) < (kn.length : Int))) (fun ac w β h21 g22 S => ?_) (fun ac w β h21 g22 S => ?_)
 ·refine S.go 8 .nil fun ac w β S => S.K1 (r := f_forget (⟨kn, sl⟩ : TKept) (i : Int)) (d := 15) (c_spec_Forget w (⟨kn, sl⟩ : TKept) (⟨q12, q15⟩ : PKept) (S.rd (show GT.rd KK _ _ (⟨kn, sl⟩ : TKept) (⟨q12, q15⟩ : PKept) from ⟨o14.rn, o17.rn⟩)) (i : Int)) fun ac w N q23 F24 S up o25 d26 => ?_
  replace o14 := o14.up up
  replace o17 := o17.up up
  clear up d26
  obtain ⟨F29, F32, o30, o33, _, _, d35⟩ := sp_Kept o25
  refine S.ge 9 (.cons (qp (i : Int) 1) .nil) f19 fun ac w β S => hf20.of (k.known.length - (i + 1)) _ _ (by omega) ⟨i + 1, (f_forget (⟨kn, sl⟩ : TKept) (i : Int)).known, (f_forget (⟨kn, sl⟩ : TKept) (i : Int)).slots, q23.known, F29, q23.slots, F32, _, _, _, rfl, ?_, ?_, S.z, o30, o33, d35⟩
  ·exact oz
  ·clear S; (rw [forgetUpto_step, ← hf])
 refine S.gr 13 .nil [GT.val (⟨kn, sl⟩ : TKept) (⟨q12, q15⟩ : PKept)] fun ac w β S => ?_
 have o36 := ow_Kept (x := (⟨kn, sl⟩ : TKept)) (p := (⟨q12, q15⟩ : PKept)) o14 o17 d18 
 exact ret1_of S (show f_forgetAll k = (⟨kn, sl⟩ : TKept) by clear S; (unfold f_forgetAll; rw [show k.known.length = i by omega, ← hf])) rfl o36

theorem c_impl_KnownIn (w0 : World) (k : TKept) (pk : PKept) (hk : RD w0 k pk) : Calls Try.prog 29 [GT.val k pk].toArray w0 (fun e w' => e = .returned (I (f_knownIn k)) ∧ Chg NoB w0 w') := by
 refine Calls.run NoB Try.func29 ?_
 intro ac β S
 have hlek_known : k.known.length ≤ 4194304 := LRd.le (RKept.known (d := k) hk)
 have hlek_slots : k.slots.length ≤ 4194304 := LRd.le (RKept.slots (d := k) hk)
 refine S.go 21 .nil fun ac w β S => ?_
 refine lp (fun mm ac w => ∃ (i : Nat) (n : Int)  (u : _) (N : _) (β : _), mm = k.known.length - i ∧ (i ≤ k.known.length) ∧ (n = (((k.known.take i).filter fun b => b).length : Int)) ∧ St Try.prog Try.f29.ntmps w0 NoB u N β ⟨[(3, .v (I n)), (7, .v (slv k.known.length pk.known.1)), (8, .v (I (k.known.length : Int))), (9, .v (I (i : Int)))], [GT.cells k pk]⟩ ac w) _ ⟨0, 0, _, _, _, rfl, o0, (by simp), S.z⟩ ?_
 clear S
 rintro f1 mm hf2 ac w ⟨i, n, u, N, β, rfl, hi, hn, S⟩
 refine S.rs fun S => ?_
 have hnl := known_len k.known i
 refine S.gd 6 .nil (decide ((i : Int) < (k.known.length : Int))) (fun ac w β h3 g4 S => ?_) (fun ac w β h3 g4 S => ?_)
 ·refine S.gb 17 (.cons (qn (RKept.known (d := k) (S.arg hk)) i Try.underlying38) (.cons (qx (RKept.known (d := k) (S.arg hk)) 4 i) .nil)) (el k.known i) (fun ac w β h5 S => ?_) (fun ac w β h5 S => ?_)
  ·refine S.ge 12 (.cons (qp n 1) (.cons (qp (i : Int) 1) .nil)) f1 fun ac w β S => hf2.of (k.known.length - (i + 1)) _ _ (by omega) ⟨i + 1, (n + 1), _, _, _, rfl, ?_, ?_, S.z⟩
   ·exact oz
   ·clear S; (rw [known_step (by omega), hn]; simp [*])
  refine S.ge 8 (.cons (qp (i : Int) 1) .nil) f1 fun ac w β S => hf2.of (k.known.length - (i + 1)) _ _ (by omega) ⟨i + 1, n, _, _, _, rfl, ?_, ?_, S.z⟩
  ·exact oz
  ·clear S; (rw [known_step (by omega), hn]; simp [*])
 exact S.gf 13 .nil [I n] (retI (by clear S; (rw [known_end (k := i) (by omega), hn])))

theorem c_spec_KnownIn (w0 : World) (k : TKept) (pk : PKept) (hk : RD w0 k pk) : Calls Try.prog 30 [GT.val k pk].toArray w0 (fun e w' => e = .returned (I (f_knownIn k)) ∧ Chg NoB w0 w') := by
 refine Calls.run NoB Try.func30 ?_
 intro ac β S
 have hlek_known : k.known.length ≤ 4194304 := LRd.le (RKept.known (d := k) hk)
 have hlek_slots : k.slots.length ≤ 4194304 := LRd.le (RKept.slots (d := k) hk)
 refine S.go 18 .nil fun ac w β S => ?_
 refine lp (fun mm ac w => ∃ (i : Nat) (n : Int)  (u : _) (N : _) (β : _), mm = k.known.length - i ∧ (i ≤ k.known.length) ∧ (n = (((k.known.take i).filter fun b => b).length : Int)) ∧ St Try.prog Try.f30.ntmps w0 NoB u N β ⟨[(1, .p 0 0), (3, .v (I n)), (4, .v (I (i : Int)))], [GT.cells k pk]⟩ ac w) _ ⟨0, 0, _, _, _, rfl, o0, (by simp), S.z⟩ ?_
 clear S
 rintro f1 mm hf2 ac w ⟨i, n, u, N, β, rfl, hi, hn, S⟩
 refine S.rs fun S => ?_
 have hnl := known_len k.known i
 refine S.gd 10 .nil (decide ((i : Int) < (k.known.length : Int))) (fun ac w β h3 g4 S => ?_) (fun ac w β h3 g4 S => ?_)
 ·refine S.gb 14 (.cons (qn (RKept.known (d := k) (S.arg hk)) i Try.underlying38) (.cons (qx (RKept.known (d := k) (S.arg hk)) 4 i) .nil)) (el k.known i) (fun ac w β h5 S => ?_) (fun ac w β h5 S => ?_)
  ·refine S.ge 13 (.cons (qp n 1) (.cons (qp (i : Int) 1) .nil)) f1 fun ac w β S => hf2.of (k.known.length - (i + 1)) _ _ (by omega) ⟨i + 1, (n + 1), _, _, _, rfl, ?_, ?_, S.z⟩
   ·exact oz
   ·clear S; (rw [known_step (by omega), hn]; simp [*])
  refine S.ge 9 (.cons (qp (i : Int) 1) .nil) f1 fun ac w β S => hf2.of (k.known.length - (i + 1)) _ _ (by omega) ⟨i + 1, n, _, _, _, rfl, ?_, ?_, S.z⟩
  ·exact oz
  ·clear S; (rw [known_step (by omega), hn]; simp [*])
 exact S.gf 13 .nil [I n] (retI (by clear S; (rw [known_end (k := i) (by omega), hn])))

theorem k0_impl_Brought {p : Prop} (h : p := by clear S; ((have hb := brought_bd n); subst pre0 pre1; unfold f_brought at *; (repeat' split at *) <;> omega)) : p := h
theorem c_impl_Brought (w0 : World) (n : Int) (a : Int) (b : Int) (pre0 : a = 0) (pre1 : b = 24) : Calls Try.prog 62 [I n, I a, I b].toArray w0 (fun e w' => e = .returned (I ((f_brought n 0 24).toNat : Int)) ∧ Chg NoB w0 w') := by
 refine Calls.run NoB Try.func62 ?_
 intro ac β S
 refine S.gd 12 .nil (decide (n < a)) (fun ac w β h1 g2 S => ?_) (fun ac w β h1 g2 S => ?_)
 ·exact S.gf 14 .nil [I a] (retI k0_impl_Brought)
 refine S.gd 6 .nil (decide (b < a)) (fun ac w β h3 g4 S => ?_) (fun ac w β h3 g4 S => ?_)
 ·exact S.gf 8 .nil [I a] (retI k0_impl_Brought)
 exact S.gf 12 .nil [I (if b < n then b else n)] (retI k0_impl_Brought)

theorem c_math_bits_Mul64 (w0 : World) (x : Int) (y : Int) (pre0 : x = 1) (pre1 : 0 ≤ y) (pre2 : y ≤ 24) : Calls Try.prog 136 [.int .u64 x, .int .u64 y].toArray w0 (fun e w' => e = .returned (.tuple #[.int .u64 0, .int .u64 y]) ∧ Chg NoB w0 w') := by
 refine Calls.run NoB Try.func136 ?_
 intro ac β S
 exact S.gf 99 (.cons (Q_uand (x := x) (y := 4294967295)) (.cons (Q_ushr (yk := .u64) (x := x) (y := 32) (by omega)) (.cons (Q_uand (x := y) (y := 4294967295)) (.cons (Q_ushr (yk := .u64) (x := y) (y := 32) (by omega)) (.cons (Q_umul (x := (uand x 4294967295)) (y := (uand y 4294967295))) (.cons (Q_umul (x := (ushr x 32)) (y := (uand y 4294967295))) (.cons (Q_ushr (yk := .u64) (x := (umul (uand x 4294967295) (uand y 4294967295))) (y := 32) (by omega)) (.cons (Q_uadd (x := (umul (ushr x 32) (uand y 4294967295))) (y := (ushr (umul (uand x 4294967295) (uand y 4294967295)) 32))) (.cons (Q_uand (x := (uadd (umul (ushr x 32) (uand y 4294967295)) (ushr (umul (uand x 4294967295) (uand y 4294967295)) 32))) (y := 4294967295)) (.cons (Q_ushr (yk := .u64) (x := (uadd (umul (ushr x 32) (uand y 4294967295)) (ushr (umul (uand x 4294967295) (uand y 4294967295)) 32))) (y := 32) (by omega)) (.cons (Q_umul (x := (uand x 4294967295)) (y := (ushr y 32))) (.cons (Q_uadd (x := (uand (uadd (umul (ushr x 32) (uand y 4294967295)) (ushr (umul (uand x 4294967295) (uand y 4294967295)) 32)) 4294967295)) (y := (umul (uand x 4294967295) (ushr y 32)))) (.cons (Q_umul (x := (ushr x 32)) (y := (ushr y 32))) (.cons (Q_uadd (x := (umul (ushr x 32) (ushr y 32))) (y := (ushr (uadd (umul (ushr x 32) (uand y 4294967295)) (ushr (umul (uand x 4294967295) (uand y 4294967295)) 32)) 32))) (.cons (Q_ushr (yk := .u64) (x := (uadd (uand (uadd (umul (ushr x 32) (uand y 4294967295)) (ushr (umul (uand x 4294967295) (uand y 4294967295)) 32)) 4294967295) (umul (uand x 4294967295) (ushr y 32)))) (y := 32) (by omega)) (.cons (Q_uadd (x := (uadd (umul (ushr x 32) (ushr y 32)) (ushr (uadd (umul (ushr x 32) (uand y 4294967295)) (ushr (umul (uand x 4294967295) (uand y 4294967295)) 32)) 32))) (y := (ushr (uadd (uand (uadd (umul (ushr x 32) (uand y 4294967295)) (ushr (umul (uand x 4294967295) (uand y 4294967295)) 32)) 4294967295) (umul (uand x 4294967295) (ushr y 32))) 32))) (.cons (Q_umul (x := x) (y := y)) .nil))))))))))))))))) [.int .u64 (uadd (uadd (umul (ushr x 32) (ushr y 32)) (ushr (uadd (umul (ushr x 32) (uand y 4294967295)) (ushr (umul (uand x 4294967295) (uand y 4294967295)) 32)) 32)) (ushr (uadd (uand (uadd (umul (ushr x 32) (uand y 4294967295)) (ushr (umul (uand x 4294967295) (uand y 4294967295)) 32)) 4294967295) (umul (uand x 4294967295) (ushr y 32))) 32)), .int .u64 (umul x y)] (ret2v (congrArg (Value.int .u64) (show (uadd (uadd (umul (ushr x 32) (ushr y 32)) (ushr (uadd (umul (ushr x 32) (uand y 4294967295)) (ushr (umul (uand x 4294967295) (uand y 4294967295)) 32)) 32)) (ushr (uadd (uand (uadd (umul (ushr x 32) (uand y 4294967295)) (ushr (umul (uand x 4294967295) (uand y 4294967295)) 32)) 4294967295) (umul (uand x 4294967295) (ushr y 32))) 32)) = 0 by clear S; (subst pre0; exact mulHi pre1 pre2))) (congrArg (Value.int .u64) (show (umul x y) = y by clear S; (subst pre0; exact mulLo pre1 pre2))))

theorem c_math_bits_Mul (w0 : World) (x : Int) (y : Int) (pre0 : x = 1) (pre1 : 0 ≤ y) (pre2 : y ≤ 24) : Calls Try.prog 119 [.int .u64 x, .int .u64 y].toArray w0 (fun e w' => e = .returned (.tuple #[.int .u64 0, .int .u64 y]) ∧ Chg NoB w0 w') := by
 refine Calls.run NoB Try.func119 ?_
 intro ac β S
 exact S.gf 31 (.cons (Q_call fun w hw => c_math_bits_Mul64 w x y (by omega) (by omega) (by omega)) .nil) [.int .u64 0, .int .u64 y] (ret2v (congrArg (Value.int .u64) (show 0 = 0 by clear S; rfl)) (congrArg (Value.int .u64) (show y = y by clear S; rfl)))

theorem c_slices_Repeat___impl_Slot_impl_Slot_ (w0 : World) (x : List TSlot) (px : LP TSlot) (hx : RD w0 x px) (count : Nat) (pre0 : x.length = 1) (pre1 : count ≤ 24) : Calls Try.prog 96 [slv x.length px.1, I (count : Int)].toArray w0 (Ret1 NoB w0 ((List.replicate count (el x 0)) : List TSlot)) := by
 refine Calls.run NoB Try.func96 ?_
 intro ac β S
 have hlex : x.length ≤ 4194304 := LRd.le hx
 refine S.gd 12 .nil (decide ((count : Int) < 0)) (fun ac w β h1 g2 S => ?_) (fun ac w β h1 g2 S => ?_)
 ·exfalso; clear S; omega
 refine S.gd 29 (.cons (Q_convu (s := 3) (d := 139) (x := (x.length : Int)) Try.underlying3 Try.underlying139 (by omega) (by omega)) (.cons (Q_convu (s := 3) (d := 139) (x := (count : Int)) Try.underlying3 Try.underlying139 (by omega) (by omega)) (.cons (Q_call fun w hw => c_math_bits_Mul w (x.length : Int) (count : Int) (by omega) (by omega) (by omega)) .nil))) (decide ((count : Int) > 9223372036854775807)) (fun ac w β h3 g4 S => ?_) (fun ac w β h3 g4 S => ?_)
 ·exfalso; clear S; omega
 refine S.go 7 (.cons (Q_convi (s := 139) (d := 3) (x := (count : Int)) Try.underlying139 Try.underlying3 (by omega) (by omega)) .nil) fun ac w β S => S.Mk (α := TSlot) (m := count) (by' := 16) (d := 30) (by omega) (show count ≤ 4194304 by omega) fun ac w N q5 F6 S up o7 d8 => ?_
 clear up d8
 have l11 : count = (List.replicate count (GT.dflt : TSlot)).length := (by simp)
 refine S.go 7 .nil fun ac w β S => S.C0 (d := 33) o7 (S.arg hx) (fun _ _ _ _ _ h => h) count x.length (by simp) rfl fun ac w N p9 S up o10 => ?_
 clear up o7
 have l12 : ((List.replicate count (GT.dflt : TSlot)).take 0 ++ x.take (min x.length count : Nat) ++ (List.replicate count (GT.dflt : TSlot)).drop (0 + (min x.length count : Nat))).length = (List.replicate count (GT.dflt : TSlot)).length := cpy_len (by omega) (by omega)
 refine S.go 5 .nil fun ac w β S => ?_
 refine lp (fun mm ac w => ∃ (n : Nat) (acc : List TSlot) (q13 : _) (F14 : _) (u : _) (N : _) (β : _), mm = count - n ∧ (n ≤ count) ∧ (acc.length = count) ∧ (0 < count → 0 < n) ∧ (acc.take n = List.replicate n (el x 0)) ∧ St Try.prog Try.f96.ntmps w0 NoB u N β ⟨[(7, .v (slv count q13.1)), (8, .v (I (n : Int)))], []⟩ ac w ∧ Ow w0 NoB u N F14 acc q13) _ ⟨(min x.length count : Nat), ((List.replicate count (GT.dflt : TSlot)).take 0 ++ x.take (min x.length count : Nat) ++ (List.replicate count (GT.dflt : TSlot)).drop (0 + (min x.length count : Nat))), ((q5.1, p9) : LP TSlot), F6, _, _, _, rfl, (by omega), (by (simp; omega)), (by omega), (by (exact rep_first pre0 (by simp))), S.z, o10⟩ ?_
 clear S o10
 rintro f16 mm hf17 ac w ⟨n, acc, q13, F14, u, N, β, rfl, hn, hl, h1, ht, S, o15⟩
 refine S.rs fun S => ?_
 refine S.gd 9 .nil (decide ((n : Int) < (count : Int))) (fun ac w β h18 g19 S => ?_) (fun ac w β h18 g19 S => ?_)
 ·refine S.go 4 .nil fun ac w β S => ?_
  refine drw ?_
  let σ22 : Sy := ⟨[(7, .v (slv count q13.1)), (8, .v (I (n : Int))), (37, .v (B true))], []⟩
  obtain ⟨u0, N0, β0, S, o15⟩ : ∃ u0 N0 β0, St Try.prog Try.f96.ntmps w0 NoB u0 N0 β0 σ22 ac w ∧ Ow w0 NoB u0 N0 F14 acc q13 := ⟨_, _, _, S.z, o15⟩
  have l23 : ((acc.drop n).take (acc.length - n)).length = acc.length - n := by first | (simp; done) | (simp; omega)
  have l24 : (acc.take n).length = n - 0 := by first | (simp; done) | (simp; omega)
  refine wp_region_cut (fun ac w => ∃ q30 F31 u N β, St Try.prog Try.f96.ntmps w0 NoB u N β (σ22.dl [37] [(7, .v (slv count q30.1)), (8, .v (I ((n : Int) + ((min n (acc.length - n : Nat) : Nat) : Int))))] 0 []) ac w ∧ Ow w0 NoB u N F31 (acc.take n ++ (acc.take n).take (min n (acc.length - n : Nat) : Nat) ++ acc.drop (n + (min n (acc.length - n : Nat) : Nat))) q30) ?_ ?_
  ·refine S.draw0 (f := 10) 7 (by kernel_rfl) (by kernel_rfl) fun w S => ?_
   refine S.hq 1 [3, 1] [] [(39, .v (slv count q13.1))] .nil fun ac S => ?_
   refine S.hq 2 [3, 2] [] [(40, .v (I (n : Int)))] .nil fun ac S => ?_
   refine S.hq 3 [3] [] [(41, .v (slv (acc.length - n : Nat) (q13.1.sl n 2)))] (.cons (Q_slice o15.rn (l := count) (a := n) (b := acc.length) (by omega) (.inr rfl) (.inl ⟨rfl, rfl⟩) (by omega) (by omega) Try.underlying37 (by kernel_rfl)) .nil) fun ac S => ?_
   refine S.hq 4 [6, 4] [] [(42, .v (slv count q13.1))] .nil fun ac S => ?_
   refine S.hq 5 [6, 5] [] [(43, .v (I (n : Int)))] .nil fun ac S => ?_
   refine S.hq 6 [6] [] [(44, .v (slv n (q13.1.sl 0 2)))] (.cons (Q_slice o15.rn (l := count) (a := 0) (b := n) (by omega) (.inl ⟨rfl, rfl⟩) (.inr rfl) (by omega) (by omega) Try.underlying37 (by kernel_rfl)) .nil) fun ac S => ?_
   refine WD.nameW fun W hW => ?_
   refine WD.castW (l' := mkL 10 [1, 2, 3, 4, 5, 6]) (by kernel_rfl) ?_
   have hK32 ac w q30 F31 u N β (S : St Try.prog Try.f96.ntmps w0 NoB u N β (σ22.dl [37] [(7, .v (slv count q30.1)), (8, .v (I ((n : Int) + ((min n (acc.length - n : Nat) : Nat) : Int))))] 0 []) ac w) (o29 : Ow w0 NoB u N F31 (acc.take n ++ (acc.take n).take (min n (acc.length - n : Nat) : Nat) ++ acc.drop (n + (min n (acc.length - n : Nat) : Nat))) q30) : W 0 (mkL 10 [0, 1, 2, 3, 4, 5, 6, 7, 8, 9]) ac w := by
    exact od hW ⟨rfl, q30, F31, _, _, _, S.z, o29⟩
   have hK33 ac w q30 F31 u N β (S : St Try.prog Try.f96.ntmps w0 NoB u N β (σ22.dl [37] [(7, .v (slv count q30.1)), (38, .v (I (n : Int))), (45, .v (I ((min n (acc.length - n : Nat) : Nat) : Int)))] 0 []) ac w) (o29 : Ow w0 NoB u N F31 (acc.take n ++ (acc.take n).take (min n (acc.length - n : Nat) : Nat) ++ acc.drop (n + (min n (acc.length - n : Nat) : Nat))) q30) : W 2 (mkL 10 [0, 1, 2, 3, 4, 5, 6, 7]) ac w := by
    exact ox1 hW 8 (S.wl hW [9] (.cons (qp (n : Int) ((min n (acc.length - n : Nat) : Nat) : Int)) .nil) fun _ _ _ S => hK32 _ _ q30 F31 _ _ _ S o29)
   have hK34 ac w u N β (S : St Try.prog Try.f96.ntmps w0 NoB u N β (σ22.dl [37] [(38, .v (I (n : Int))), (41, .v (slv (acc.length - n : Nat) (q13.1.sl n 2))), (44, .v (slv n (q13.1.sl 0 2)))] 0 []) ac w) (o15 : Ow w0 NoB u N F14 acc q13) (hNN : NN N0 u0 N u) (hBB : BB σ22.bx.length β0 β) : W 3 (mkL 10 [0, 1, 2, 3, 4, 5, 6]) ac w := by
    refine ox1 hW 7 ?_
    have l37 : count = acc.length := (by omega)
    refine id (S.copyL (d := 45) o15 (show GT.rd KK _ _ (acc.take n) ((q13.1.sl 0 2, fun i => q13.2 (0 + i)) : LP TSlot) from rd_sl o15.rn (a := 0) (b := n) (by omega) (by omega)) (fun _ _ _ _ _ h => h) n (acc.length - n : Nat) n (by omega) (by omega) (by simp; omega) (by kernel_rfl) fun ac w N p35 S up o36 => ?_)
    refine WD.sl fun hC => ?_
    clear up o15
    have l38 : (acc.take n ++ (acc.take n).take (min n (acc.length - n : Nat) : Nat) ++ acc.drop (n + (min n (acc.length - n : Nat) : Nat))).length = acc.length := cpy_len (by omega) (by omega)
    exact S.wh hW [] hC fun _ S => hK33 _ _ ((q13.1, p35) : LP TSlot) F14 _ _ _ S o36
   rw [hW]
   exact S.wh hW [0] (fun _ => S.rcx) fun _ S => hK34 _ _ _ _ _ S o15 (fun _ h => ⟨h, rfl⟩) (fun _ _ => rfl)
  clear S o15
  rintro ac w ⟨q30, F31, u, N, β, S, o29⟩
  refine S.ex fun S => ?_
  refine S.ge 1 .nil f16 fun ac w β S => hf17.of (count - (n + (min n (acc.length - n) : Nat))) _ _ (by omega) ⟨(n + (min n (acc.length - n) : Nat)), (acc.take n ++ (acc.take n).take (min n (acc.length - n : Nat) : Nat) ++ acc.drop (n + (min n (acc.length - n : Nat) : Nat))), q30, F31, _, _, _, rfl, ?_, ?_, ?_, ?_, S.z, o29⟩
  ·clear S; omega
  ·clear S; (rw [cpy_len (by omega) (by omega)]; exact hl)
  ·clear S; omega
  ·clear S; exact rep_step (by omega) (by omega) ht
 refine S.gr 13 .nil [slv count q13.1] fun ac w β S => ?_
 exact ret1_of S (show (List.replicate count (el x 0)) = acc by clear S; exact (rep_end hl (by omega) hn ht).symm) (by rw [show count = acc.length from (by omega)]; rfl) o15

theorem c_impl_TableNew (w0 : World) (n : Int) : Calls Try.prog 63 [I n].toArray w0 (Ret1 NoB w0 ((List.replicate (f_brought n 0 24).toNat (⟨-1, 0⟩ : TSlot)) : List TSlot)) := by
 refine Calls.run NoB Try.func63 ?_
 intro ac β S
 have hb := brought_bd n
 refine S.go 8 (.cons (Q_call fun w hw => c_impl_NoSlot w ) .nil) fun ac w β S => S.B1 (α := TSlot) (x := (⟨-1, 0⟩ : TSlot)) (p := ()) (F := NoB) (show RSlot ⟨-1, 0⟩ from ⟨⟨by decide, by decide⟩, ⟨by decide, by decide⟩⟩) (fun b h => False.elim h) (fun b h => False.elim h) (d := 4) fun ac w N q1 F2 S up o3 d4 => ?_
 clear up d4
 refine S.go 2 (.cons (Q_call fun w hw => c_impl_Brought w n 0 24 (by omega) (by omega)) .nil) fun ac w β S => S.K1 (r := (List.replicate (f_brought n 0 24).toNat (el ([((⟨-1, 0⟩ : TSlot))]) 0))) (d := 7) (c_slices_Repeat___impl_Slot_impl_Slot_ w ([((⟨-1, 0⟩ : TSlot))]) q1 (S.rd o3.rn) (f_brought n 0 24).toNat (by first | omega | rfl) (by first | omega | rfl)) fun ac w N q5 F6 S up o7 d8 => ?_
 clear up d8
 refine S.gr 4 .nil [slv (List.replicate (f_brought n 0 24).toNat (el ([((⟨-1, 0⟩ : TSlot))]) 0)).length q5.1] fun ac w β S => ?_
 exact ret1_of S (show (List.replicate (f_brought n 0 24).toNat (⟨-1, 0⟩ : TSlot)) = (List.replicate (f_brought n 0 24).toNat (el ([((⟨-1, 0⟩ : TSlot))]) 0)) by clear S; rfl) rfl o7

theorem c_impl_KeptNew (w0 : World) (n : Int) : Calls Try.prog 31 [I n].toArray w0 (Ret1 NoB w0 (f_keptNew n : TKept)) := by
 refine Calls.run NoB Try.func31 ?_
 intro ac β S
 have hb := brought_bd n
 refine S.go 6 .nil fun ac w β S => ?_
 refine drw ?_
 let σ1 : Sy := ⟨[(0, .v (I n)), (2, .p 0 0)], [Zc TKept]⟩
 obtain ⟨u0, N0, β0, S⟩ : ∃ u0 N0 β0, St Try.prog Try.f31.ntmps w0 NoB u0 N0 β0 σ1 ac w := ⟨_, _, _, S.z⟩
 refine wp_region_cut (fun ac w => ∃ q37 F38 q40 F41 u N β, St Try.prog Try.f31.ntmps w0 NoB u N β (σ1.dl [0] [] 1 [(0, [slv (List.replicate (f_brought n 0 24).toNat (GT.dflt : Bool)).length q37.1, slv (List.replicate (f_brought n 0 24).toNat (⟨-1, 0⟩ : TSlot)).length q40.1])]) ac w ∧ Ow w0 NoB u N F38 (List.replicate (f_brought n 0 24).toNat (GT.dflt : Bool)) q37 ∧ Ow w0 NoB u N F41 (List.replicate (f_brought n 0 24).toNat (⟨-1, 0⟩ : TSlot)) q40 ∧ Disj F38 F41) ?_ ?_
 ·refine S.draw0 (f := 7) 6 (by kernel_rfl) (by kernel_rfl) fun w S => ?_
  refine S.hq 0 [0] [] [(3, .v (I n))] .nil fun ac S => ?_
  refine S.hq 3 [3] [] [(6, .v (I n))] .nil fun ac S => ?_
  refine WD.nameW fun W hW => ?_
  refine WD.castW (l' := mkL 7 [0, 3]) (by kernel_rfl) ?_
  have hK42 ac w q37 F38 q40 F41 u N β (S : St Try.prog Try.f31.ntmps w0 NoB u N β (σ1.dl [0] [] 1 [(0, [slv (List.replicate (f_brought n 0 24).toNat (GT.dflt : Bool)).length q37.1, slv (List.replicate (f_brought n 0 24).toNat (⟨-1, 0⟩ : TSlot)).length q40.1])]) ac w) (o36 : Ow w0 NoB u N F38 (List.replicate (f_brought n 0 24).toNat (GT.dflt : Bool)) q37) (o39 : Ow w0 NoB u N F41 (List.replicate (f_brought n 0 24).toNat (⟨-1, 0⟩ : TSlot)) q40) (d43 : Disj F38 F41) : W 0 (mkL 7 [0, 1, 2, 3, 4, 5, 6]) ac w := by
   exact od hW ⟨rfl, q37, F38, q40, F41, _, _, _, S.z, o36, o39, d43⟩
  have hK44 ac w q31 F32 q34 F35 u N β (S : St Try.prog Try.f31.ntmps w0 NoB u N β (σ1.dl [0] [(8, .v (GT.val (⟨(List.replicate (f_brought n 0 24).toNat (GT.dflt : Bool)), (List.replicate (f_brought n 0 24).toNat (⟨-1, 0⟩ : TSlot))⟩ : TKept) (⟨q31, q34⟩ : PKept)))] 1 []) ac w) (o30 : Ow w0 NoB u N F32 (List.replicate (f_brought n 0 24).toNat (GT.dflt : Bool)) q31) (o33 : Ow w0 NoB u N F35 (List.replicate (f_brought n 0 24).toNat (⟨-1, 0⟩ : TSlot)) q34) (d45 : Disj F32 F35) (hNN : NN N0 u0 N u) (hBB : BB σ1.bx.length β0 β) : W 1 (mkL 7 [0, 1, 2, 3, 4, 5]) ac w := by
   exact ox1 hW 6 (S.wl hW [] .nil fun _ _ _ S => hK42 _ _ q31 F32 q34 F35 _ _ _ S o30 o33 d45)
  have hK46 ac w q8 F9 q16 F17 u N β (S : St Try.prog Try.f31.ntmps w0 NoB u N β (σ1.dl [0] [(5, .v (slv (List.replicate (f_brought n 0 24).toNat (GT.dflt : Bool)).length q8.1)), (7, .v (slv (List.replicate (f_brought n 0 24).toNat (⟨-1, 0⟩ : TSlot)).length q16.1))] 1 []) ac w) (o7 : Ow w0 NoB u N F9 (List.replicate (f_brought n 0 24).toNat (GT.dflt : Bool)) q8) (o15 : Ow w0 NoB u N F17 (List.replicate (f_brought n 0 24).toNat (⟨-1, 0⟩ : TSlot)) q16) (d47 : Disj F9 F17) (hNN : NN N0 u0 N u) (hBB : BB σ1.bx.length β0 β) : W 2 (mkL 7 [0, 1, 2, 3, 4]) ac w := by
   exact ox1 hW 5 (S.wq hW hNN hBB [] (.cons (Q_sem (s := Instr.build 45 [(0, slv (List.replicate (f_brought n 0 24).toNat (GT.dflt : Bool)).length q8.1), (1, slv (List.replicate (f_brought n 0 24).toNat (⟨-1, 0⟩ : TSlot)).length q16.1)].toArray) (v := .agg [slv (List.replicate (f_brought n 0 24).toNat (GT.dflt : Bool)).length q8.1, slv (List.replicate (f_brought n 0 24).toNat (⟨-1, 0⟩ : TSlot)).length q16.1].toArray) (fun w => by kernel_rfl)) .nil) fun _ _ _ S hB => hK44 _ _ q8 F9 q16 F17 _ _ _ S o7 o15 d47 hNN hB)
  have hK48 ac w q8 F9 u N β (S : St Try.prog Try.f31.ntmps w0 NoB u N β (σ1.dl [0] [(5, .v (slv (List.replicate (f_brought n 0 24).toNat (GT.dflt : Bool)).length q8.1)), (6, .v (I n))] 1 []) ac w) (o7 : Ow w0 NoB u N F9 (List.replicate (f_brought n 0 24).toNat (GT.dflt : Bool)) q8) (hNN : NN N0 u0 N u) (hBB : BB σ1.bx.length β0 β) : W 3 (mkL 7 [0, 1, 2, 3]) ac w := by
   refine ox1 hW 4 ?_
   refine id (S.k1 7 (c_impl_TableNew w n) fun ac w N q49 F50 S up o51 d52 => ?_)
   have hb53 := fun b h => (⟨(up b (hNN b h).1).1, (up b (hNN b h).1).2.trans (hNN b h).2⟩ : _ ∧ _)
   refine WD.sc S hb53 hBB fun hC => ?_
   have d54 := Disj.w d52 o7.sub
   replace o7 := o7.up up
   clear up d52
   exact S.wh hW [] hC fun _ S => hK46 _ _ q8 F9 q49 F50 _ _ _ S o7 o51 d54 hb53 hBB
  have hK55 ac w q16 F17 u N β (S : St Try.prog Try.f31.ntmps w0 NoB u N β (σ1.dl [0] [(4, .v (I ((f_brought n 0 24).toNat : Int))), (7, .v (slv (List.replicate (f_brought n 0 24).toNat (⟨-1, 0⟩ : TSlot)).length q16.1))] 1 []) ac w) (o15 : Ow w0 NoB u N F17 (List.replicate (f_brought n 0 24).toNat (⟨-1, 0⟩ : TSlot)) q16) (hNN : NN N0 u0 N u) (hBB : BB σ1.bx.length β0 β) : W 3 (mkL 7 [0, 1, 3, 4]) ac w := by
   refine ox1 hW 2 ?_
   refine id (S.make (α := Bool) (m := (f_brought n 0 24).toNat) (by' := 1) (d := 5) (by kernel_rfl) (by omega) (show (f_brought n 0 24).toNat ≤ 4194304 by omega) fun ac w N q56 F57 S up o58 d59 => ?_)
   have hb60 := fun b h => (⟨(up b (hNN b h).1).1, (up b (hNN b h).1).2.trans (hNN b h).2⟩ : _ ∧ _)
   refine WD.sc S hb60 hBB fun hC => ?_
   have d61 := Disj.w d59 o15.sub
   replace o15 := o15.up up
   clear up d59
   replace S := S.z (σ' := ⟨[(2, .p 0 0), (4, .v (I ((f_brought n 0 24).toNat : Int))), (5, .v (slv (f_brought n 0 24).toNat q56.1)), (7, .v (slv (List.replicate (f_brought n 0 24).toNat (⟨-1, 0⟩ : TSlot)).length q16.1))], [Zc TKept]⟩)
   replace S := S.cast (σ' := ⟨[(2, .p 0 0), (4, .v (I ((f_brought n 0 24).toNat : Int))), (5, .v (slv (List.replicate (f_brought n 0 24).toNat (GT.dflt : Bool)).length q56.1)), (7, .v (slv (List.replicate (f_brought n 0 24).toNat (⟨-1, 0⟩ : TSlot)).length q16.1))], [Zc TKept]⟩) (by rw [show (List.replicate (f_brought n 0 24).toNat (GT.dflt : Bool)).length = (f_brought n 0 24).toNat from List.length_replicate])
   exact S.wh hW [] hC fun _ S => hK46 _ _ q56 F57 q16 F17 _ _ _ S o58 o15 (Disj.symm d61) hb60 hBB
  have hK62 ac w u N β (S : St Try.prog Try.f31.ntmps w0 NoB u N β (σ1.dl [0] [(4, .v (I ((f_brought n 0 24).toNat : Int))), (6, .v (I n))] 1 []) ac w) (hNN : NN N0 u0 N u) (hBB : BB σ1.bx.length β0 β) : W 4 (mkL 7 [0, 1, 3]) ac w := by
   refine ox2 hW 2 4 ?_ ?_
   ·refine id (S.make (α := Bool) (m := (f_brought n 0 24).toNat) (by' := 1) (d := 5) (by kernel_rfl) (by omega) (show (f_brought n 0 24).toNat ≤ 4194304 by omega) fun ac w N q63 F64 S up o65 d66 => ?_)
    have hb67 := fun b h => (⟨(up b (hNN b h).1).1, (up b (hNN b h).1).2.trans (hNN b h).2⟩ : _ ∧ _)
    refine WD.sc S hb67 hBB fun hC => ?_
    clear up d66
    replace S := S.z (σ' := ⟨[(2, .p 0 0), (4, .v (I ((f_brought n 0 24).toNat : Int))), (5, .v (slv (f_brought n 0 24).toNat q63.1)), (6, .v (I n))], [Zc TKept]⟩)
    replace S := S.cast (σ' := ⟨[(2, .p 0 0), (4, .v (I ((f_brought n 0 24).toNat : Int))), (5, .v (slv (List.replicate (f_brought n 0 24).toNat (GT.dflt : Bool)).length q63.1)), (6, .v (I n))], [Zc TKept]⟩) (by rw [show (List.replicate (f_brought n 0 24).toNat (GT.dflt : Bool)).length = (f_brought n 0 24).toNat from List.length_replicate])
    exact S.wh hW [] hC fun _ S => hK48 _ _ q63 F64 _ _ _ S o65 hb67 hBB
   ·refine id (S.k1 7 (c_impl_TableNew w n) fun ac w N q68 F69 S up o70 d71 => ?_)
    have hb72 := fun b h => (⟨(up b (hNN b h).1).1, (up b (hNN b h).1).2.trans (hNN b h).2⟩ : _ ∧ _)
    refine WD.sc S hb72 hBB fun hC => ?_
    clear up d71
    exact S.wh hW [] hC fun _ S => hK55 _ _ q68 F69 _ _ _ S o70 hb72 hBB
  have hNN : NN N0 u0 N0 u0 := fun b h => ⟨h, rfl⟩
  have hBB : BB σ1.bx.length β0 β0 := fun _ _ => rfl
  exact ox1 hW 1 (S.wq hW hNN hBB [] (.cons (Q_call fun w hw => c_impl_Brought w n 0 24 (by omega) (by omega)) .nil) fun _ _ _ S hB => hK62 _ _ _ _ _ S hNN hB)
 clear S
 rintro ac w ⟨q37, F38, q40, F41, u, N, β, S, o36, o39, d73⟩
 refine S.ex fun S => ?_
 refine S.gr 2 .nil [GT.val (⟨(List.replicate (f_brought n 0 24).toNat (GT.dflt : Bool)), (List.replicate (f_brought n 0 24).toNat (⟨-1, 0⟩ : TSlot))⟩ : TKept) (⟨q37, q40⟩ : PKept)] fun ac w β S => ?_
 have o74 := ow_Kept (x := (⟨(List.replicate (f_brought n 0 24).toNat (GT.dflt : Bool)), (List.replicate (f_brought n 0 24).toNat (⟨-1, 0⟩ : TSlot))⟩ : TKept)) (p := (⟨q37, q40⟩ : PKept)) o36 o39 d73 
 exact ret1_of S (show f_keptNew n = (⟨(List.replicate (f_brought n 0 24).toNat (GT.dflt : Bool)), (List.replicate (f_brought n 0 24).toNat (⟨-1, 0⟩ : TSlot))⟩ : TKept) by clear S; (first | rfl | (unfold f_keptNew; rw [List.length_replicate]; rfl))) rfl o74

end Go.Proofs.Ytgonaioedbphgaa
namespace Go.Proofs.Ytgonaioedbphgaa
open Go
set_option linter.unusedVariables false
set_option linter.unusedSimpArgs false
set_option maxRecDepth 100000
set_option maxHeartbeats 2000000

theorem k0_laws_FnKept {p : Prop} (h : p := by clear S; first | rfl | (subst_vars; rfl) | (refine decide_eq_true ?_; subst_vars; exact ask_ok (fill_ok (by assumption)) (by simp_all))) : p := h
theorem c_laws_FnKept (w0 : World) (code : List TByte) (pcode : LP TByte) (hcode : GT.rd KR (Lt w0.heap.size) w0 code pcode) : Calls Try.prog 4 [slv code.length pcode.1].toArray w0 (fun e w' => e = .returned (B true) ∧ Chg NoB w0 w') := by
 refine Calls.run NoB Try.func4 ?_
 intro ac β S
 have hlecode : code.length ≤ 9223372036854775807 := LRd.le hcode
 refine S.gb 12 (.cons (Q_call fun w hw => c_laws_big w code pcode (rd_of (S.arg hcode) hw)) .nil) (decide (((code.length : Nat) : Int) > 1048576)) (fun ac w β h1 S => ?_) (fun ac w β h1 S => ?_)
 ·exact S.gf 7 .nil [B true] (retB k0_laws_FnKept)
 have hcl : code.length ≤ 1048576 := by have hx := of_decide_eq_false h1; omega
 have hkcode : RD w0 code pcode := cutB hcode hcl
 refine S.go 6 .nil fun ac w β S => S.KE4 (d := 27) (c_spec_DrawFill w code pcode (S.rd (S.arg hkcode)) (by omega)) fun ac w N x2 q6 F10 x3 q7 F11 x4 q8 F12 x5 q9 F13 S h22 up o14 o15 o16 o17 d18 d19 d20 d21 d23 d24 d25 d26 d27 d28 => ?_
 clear up d18 d19 d20 d21
 have l29 := LRd.le o15.rn
 have l30 := LRd.le o16.rn
 have i31 : In64 x5 := o17.own
 have l32 := i31.lo; have l33 := i31.hi
 obtain ⟨Y1, hT1⟩ : ∃ z, z = f_fill x2 x3 x4 x5 := ⟨_, rfl⟩
 refine S.go 18 .nil fun ac w β S => S.K1 (r := Y1) (d := 36) (by rw [hT1]; exact c_impl_Fill w x2 q6 (S.rd o14.rn) x3 q7 (S.rd o15.rn) x4 q8 (S.rd o16.rn) x5) fun ac w N q34 F35 S up o36 d37 => ?_
 replace o14 := o14.up up
 replace o15 := o15.up up
 replace o16 := o16.up up
 clear up d37
 refine S.go 6 .nil fun ac w β S => ?_
 refine drw ?_
 let σ41 : Sy := ⟨[(0, .v (slv code.length pcode.1)), (3, .p 0 0), (4, .v (slv x3.length q7.1)), (5, .v (slv x4.length q8.1)), (6, .v (I x5)), (7, .p 1 0)], [GT.cells x2 q6, GT.cells Y1 q34]⟩
 obtain ⟨u0, N0, β0, S, o14, o15, o16, o36⟩ : ∃ u0 N0 β0, St Try.prog Try.f4.ntmps w0 NoB u0 N0 β0 σ41 ac w ∧ Ow w0 NoB u0 N0 F10 x2 q6 ∧ Ow w0 NoB u0 N0 F11 x3 q7 ∧ Ow w0 NoB u0 N0 F12 x4 q8 ∧ Ow w0 NoB u0 N0 F35 Y1 q34 := ⟨_, _, _, S.z, o14, o15, o16, o36⟩
 refine wp_region_cut (fun ac w => ∃  u N β, St Try.prog Try.f4.ntmps w0 NoB u N β (σ41.dl [] [(55, .v (B (!((f_keptOk x2 x3 x4) == (f_keptOk x2 x3 x4)))))] 2 []) ac w ∧ Ow w0 NoB u N F10 x2 q6 ∧ Ow w0 NoB u N F11 x3 q7 ∧ Ow w0 NoB u N F12 x4 q8 ∧ Ow w0 NoB u N F35 Y1 q34) ?_ ?_
 ·refine S.draw0 (f := 19) 19 (by kernel_rfl) (by kernel_rfl) fun w S => ?_
  refine S.hq 0 [] [] [(37, .v (GT.val Y1 q34))] .nil fun ac S => ?_
  refine S.hq 1 [] [] [(38, .v (GT.val x2 q6))] .nil fun ac S => ?_
  refine S.hq 2 [] [] [(39, .v (slv x3.length q7.1))] .nil fun ac S => ?_
  refine S.hq 3 [] [] [(40, .v (slv x4.length q8.1))] .nil fun ac S => ?_
  refine S.hq 4 [] [] [(41, .v (I x5))] .nil fun ac S => ?_
  refine WD.nameW fun W hW => ?_
  refine WD.castW (l' := mkL 19 [0, 1, 2, 3, 4]) (by kernel_rfl) ?_
  have hK54 ac w u N β (S : St Try.prog Try.f4.ntmps w0 NoB u N β (σ41.dl [] [(55, .v (B (!((f_keptOk x2 x3 x4) == (f_keptOk x2 x3 x4)))))] 2 []) ac w) (o14 : Ow w0 NoB u N F10 x2 q6) (o15 : Ow w0 NoB u N F11 x3 q7) (o16 : Ow w0 NoB u N F12 x4 q8) (o36 : Ow w0 NoB u N F35 Y1 q34) (hNN : NN N0 u0 N u) (hBB : BB σ41.bx.length β0 β) : W 0 (mkL 19 [0, 1, 2, 3, 4, 5, 6, 7, 8, 9, 10, 11, 12, 13, 14, 15, 16, 17, 18]) ac w := by
   exact od hW ⟨rfl, _, _, _, S.z, o14, o15, o16, o36⟩
  have hK55 ac w u N β (S : St Try.prog Try.f4.ntmps w0 NoB u N β (σ41.dl [] [(45, .v (B false)), (49, .v (B (f_keptOk x2 x3 x4))), (50, .v (GT.val x2 q6)), (51, .v (slv x3.length q7.1)), (52, .v (slv x4.length q8.1))] 2 []) ac w) (o14 : Ow w0 NoB u N F10 x2 q6) (o15 : Ow w0 NoB u N F11 x3 q7) (o16 : Ow w0 NoB u N F12 x4 q8) (o36 : Ow w0 NoB u N F35 Y1 q34) (hNN : NN N0 u0 N u) (hBB : BB σ41.bx.length β0 β) : W 3 (mkL 19 [0, 1, 2, 3, 4, 5, 6, 7, 8, 9, 10, 11, 12, 13, 14, 15]) ac w := by
   exact ox1 hW 16 (S.wq hW hNN hBB [17, 18] (.cons (Q_call fun w hw => c_spec_KeptOk w x2 q6 (rd_of o14.rn hw) x3 q7 (rd_of o15.rn hw) x4 q8 (rd_of o16.rn hw)) .nil) fun _ _ _ S hB => hK54 _ _ _ _ _ S o14 o15 o16 o36 hNN hB)
  have hK56 ac w u N β (S : St Try.prog Try.f4.ntmps w0 NoB u N β (σ41.dl [] [(45, .v (B false)), (49, .v (B (f_keptOk x2 x3 x4))), (51, .v (slv x3.length q7.1)), (52, .v (slv x4.length q8.1))] 2 []) ac w) (o14 : Ow w0 NoB u N F10 x2 q6) (o15 : Ow w0 NoB u N F11 x3 q7) (o16 : Ow w0 NoB u N F12 x4 q8) (o36 : Ow w0 NoB u N F35 Y1 q34) (hNN : NN N0 u0 N u) (hBB : BB σ41.bx.length β0 β) : W 4 (mkL 19 [0, 1, 2, 3, 4, 5, 6, 7, 8, 9, 10, 11, 12, 14, 15]) ac w := by
   exact ox1 hW 13 (S.wq hW hNN hBB [] .nil fun _ _ _ S hB => hK55 _ _ _ _ _ S o14 o15 o16 o36 hNN hB)
  have hK57 ac w u N β (S : St Try.prog Try.f4.ntmps w0 NoB u N β (σ41.dl [] [(45, .v (B false)), (46, .v (GT.val x2 q6)), (47, .v (slv x3.length q7.1)), (48, .v (slv x4.length q8.1)), (50, .v (GT.val x2 q6)), (51, .v (slv x3.length q7.1)), (52, .v (slv x4.length q8.1))] 2 []) ac w) (o14 : Ow w0 NoB u N F10 x2 q6) (o15 : Ow w0 NoB u N F11 x3 q7) (o16 : Ow w0 NoB u N F12 x4 q8) (o36 : Ow w0 NoB u N F35 Y1 q34) (hNN : NN N0 u0 N u) (hBB : BB σ41.bx.length β0 β) : W 4 (mkL 19 [0, 1, 2, 3, 4, 5, 6, 7, 8, 9, 10, 11, 13, 14, 15]) ac w := by
   exact ox1 hW 12 (S.wq hW hNN hBB [] (.cons (Q_call fun w hw => c_impl_KeptOk w x2 q6 (rd_of o14.rn hw) x3 q7 (rd_of o15.rn hw) x4 q8 (rd_of o16.rn hw)) .nil) fun _ _ _ S hB => hK55 _ _ _ _ _ S o14 o15 o16 o36 hNN hB)
  have hK58 ac w u N β (S : St Try.prog Try.f4.ntmps w0 NoB u N β (σ41.dl [] [(45, .v (B false)), (46, .v (GT.val x2 q6)), (47, .v (slv x3.length q7.1)), (48, .v (slv x4.length q8.1)), (51, .v (slv x3.length q7.1)), (52, .v (slv x4.length q8.1))] 2 []) ac w) (o14 : Ow w0 NoB u N F10 x2 q6) (o15 : Ow w0 NoB u N F11 x3 q7) (o16 : Ow w0 NoB u N F12 x4 q8) (o36 : Ow w0 NoB u N F35 Y1 q34) (hNN : NN N0 u0 N u) (hBB : BB σ41.bx.length β0 β) : W 5 (mkL 19 [0, 1, 2, 3, 4, 5, 6, 7, 8, 9, 10, 11, 14, 15]) ac w := by
   exact ox2 hW 12 13 (S.wq hW hNN hBB [] (.cons (Q_call fun w hw => c_impl_KeptOk w x2 q6 (rd_of o14.rn hw) x3 q7 (rd_of o15.rn hw) x4 q8 (rd_of o16.rn hw)) .nil) fun _ _ _ S hB => hK56 _ _ _ _ _ S o14 o15 o16 o36 hNN hB) (S.wq hW hNN hBB [] .nil fun _ _ _ S hB => hK57 _ _ _ _ _ S o14 o15 o16 o36 hNN hB)
  have hK59 ac w u N β (S : St Try.prog Try.f4.ntmps w0 NoB u N β (σ41.dl [] [(45, .v (B false)), (47, .v (slv x3.length q7.1)), (48, .v (slv x4.length q8.1)), (50, .v (GT.val x2 q6)), (51, .v (slv x3.length q7.1)), (52, .v (slv x4.length q8.1))] 2 []) ac w) (o14 : Ow w0 NoB u N F10 x2 q6) (o15 : Ow w0 NoB u N F11 x3 q7) (o16 : Ow w0 NoB u N F12 x4 q8) (o36 : Ow w0 NoB u N F35 Y1 q34) (hNN : NN N0 u0 N u) (hBB : BB σ41.bx.length β0 β) : W 5 (mkL 19 [0, 1, 2, 3, 4, 5, 6, 7, 8, 10, 11, 13, 14, 15]) ac w := by
   exact ox1 hW 9 (S.wq hW hNN hBB [] .nil fun _ _ _ S hB => hK57 _ _ _ _ _ S o14 o15 o16 o36 hNN hB)
  have hK60 ac w u N β (S : St Try.prog Try.f4.ntmps w0 NoB u N β (σ41.dl [] [(45, .v (B false)), (47, .v (slv x3.length q7.1)), (48, .v (slv x4.length q8.1)), (51, .v (slv x3.length q7.1)), (52, .v (slv x4.length q8.1))] 2 []) ac w) (o14 : Ow w0 NoB u N F10 x2 q6) (o15 : Ow w0 NoB u N F11 x3 q7) (o16 : Ow w0 NoB u N F12 x4 q8) (o36 : Ow w0 NoB u N F35 Y1 q34) (hNN : NN N0 u0 N u) (hBB : BB σ41.bx.length β0 β) : W 6 (mkL 19 [0, 1, 2, 3, 4, 5, 6, 7, 8, 10, 11, 14, 15]) ac w := by
   exact ox2 hW 9 13 (S.wq hW hNN hBB [] .nil fun _ _ _ S hB => hK58 _ _ _ _ _ S o14 o15 o16 o36 hNN hB) (S.wq hW hNN hBB [] .nil fun _ _ _ S hB => hK59 _ _ _ _ _ S o14 o15 o16 o36 hNN hB)
  have hK61 ac w q52 F53 u N β (S : St Try.prog Try.f4.ntmps w0 NoB u N β (σ41.dl [] [(37, .v (GT.val Y1 q34)), (42, .v (GT.val (f_fill x2 x3 x4 x5) q52))] 2 []) ac w) (o14 : Ow w0 NoB u N F10 x2 q6) (o15 : Ow w0 NoB u N F11 x3 q7) (o16 : Ow w0 NoB u N F12 x4 q8) (o36 : Ow w0 NoB u N F35 Y1 q34) (o51 : Ow w0 NoB u N F53 (f_fill x2 x3 x4 x5) q52) (d62 : Disj F10 F53) (d63 : Disj F11 F53) (d64 : Disj F12 F53) (d65 : Disj F35 F53) (hNN : NN N0 u0 N u) (hBB : BB σ41.bx.length β0 β) : W 13 (mkL 19 [0, 1, 2, 3, 4, 5]) ac w := by
   exact ox1 hW 6 (S.wq hW hNN hBB [7, 8, 10, 11, 14, 15] (.cons (Q_call fun w hw => c_laws_sameKept w Y1 q34 (rd_of o36.rn hw) (f_fill x2 x3 x4 x5) q52 (rd_of o51.rn hw) (by (first | rfl | (subst_vars; rfl)))) .nil) fun _ _ _ S hB => hK60 _ _ _ _ _ S o14 o15 o16 o36 hNN hB)
  have hNN : NN N0 u0 N0 u0 := fun b h => ⟨h, rfl⟩
  have hBB : BB σ41.bx.length β0 β0 := fun _ _ => rfl
  refine ox1 hW 5 ?_
  refine id (S.k1 42 (c_spec_Fill w x2 q6 (S.rd o14.rn) x3 q7 (S.rd o15.rn) x4 q8 (S.rd o16.rn) x5) fun ac w N q66 F67 S up o68 d69 => ?_)
  have hb70 := fun b h => (⟨(up b (hNN b h).1).1, (up b (hNN b h).1).2.trans (hNN b h).2⟩ : _ ∧ _)
  refine WD.sc S hb70 hBB fun hC => ?_
  have d71 := Disj.w d69 o14.sub
  have d72 := Disj.w d69 o15.sub
  have d73 := Disj.w d69 o16.sub
  have d74 := Disj.w d69 o36.sub
  replace o14 := o14.up up
  replace o15 := o15.up up
  replace o16 := o16.up up
  replace o36 := o36.up up
  clear up d69
  exact S.wh hW [] hC fun _ S => hK61 _ _ q66 F67 _ _ _ S o14 o15 o16 o36 o68 d71 d72 d73 d74 hb70 hBB
 clear S o14 o15 o16 o36
 rintro ac w ⟨u, N, β, S, o14, o15, o16, o36⟩
 refine S.ex fun S => ?_
 refine S.gb 1 .nil (!((f_keptOk x2 x3 x4) == (f_keptOk x2 x3 x4))) (fun ac w β h75 S => ?_) (fun ac w β h75 S => ?_)
 ·exact absurd h75 (by simp)
 have h76 := not_f h75
 have g77 : (f_keptOk x2 x3 x4) = (f_keptOk x2 x3 x4) := eq_of_beq h76
 refine S.go 6 .nil fun ac w β S => S.KE2 (d := 58) (c_spec_DrawAsk w code pcode (S.rd (S.arg hkcode)) (by omega)) fun ac w N x78 q80 F82 x79 q81 F83 S h88 up o84 o85 d86 d87 d89 => ?_
 replace o14 := o14.up up
 replace o15 := o15.up up
 replace o16 := o16.up up
 replace o36 := o36.up up
 clear up d86 d87
 have i94 : In64 x79 := o85.own
 have l95 := i94.lo; have l96 := i94.hi
 refine S.go 37 (.cons (Q_call fun w hw => c_impl_Ask w x78 q80 (rd_of o84.rn hw) x79) (.cons (Q_call fun w hw => c_spec_Ask w x78 q80 (rd_of o84.rn hw) x79) .nil)) fun ac w β S => S.KE2 (d := 75) (c_spec_DrawForget w code pcode (S.rd (S.arg hkcode)) (by omega)) fun ac w N x99 q101 F103 x100 q102 F104 S h109 up o105 o106 d107 d108 d110 => ?_
 replace o14 := o14.up up
 replace o15 := o15.up up
 replace o16 := o16.up up
 replace o36 := o36.up up
 replace o84 := o84.up up
 clear up d107 d108
 have i116 : In64 x100 := o106.own
 have l117 := i116.lo; have l118 := i116.hi
 refine S.go 11 .nil fun ac w β S => S.KE3 (d := 80) (c_spec_DrawForgetUses w code pcode (S.rd (S.arg hkcode)) (by omega)) fun ac w N x119 q122 F125 x120 q123 F126 x121 q124 F127 S h134 up o128 o129 o130 d131 d132 d133 d135 d136 d137 => ?_
 replace o14 := o14.up up
 replace o15 := o15.up up
 replace o16 := o16.up up
 replace o36 := o36.up up
 replace o84 := o84.up up
 replace o105 := o105.up up
 clear up d131 d132 d133
 have l150 := LRd.le o129.rn
 have i151 : In64 x121 := o130.own
 have l152 := i151.lo; have l153 := i151.hi
 refine S.go 13 .nil fun ac w β S => S.KE1 (d := 85) (c_spec_DrawForgetAll w code pcode (S.rd (S.arg hkcode)) (by omega)) fun ac w N x154 q155 F156 S h159 up o157 d158 => ?_
 replace o14 := o14.up up
 replace o15 := o15.up up
 replace o16 := o16.up up
 replace o36 := o36.up up
 replace o84 := o84.up up
 replace o105 := o105.up up
 replace o128 := o128.up up
 replace o129 := o129.up up
 clear up d158
 refine S.go 7 .nil fun ac w β S => S.KE1 (d := 87) (c_spec_DrawKeptNew w code pcode (S.rd (S.arg hkcode)) (by omega)) fun ac w N x168 q169 F170 S h173 up o171 d172 => ?_
 replace o14 := o14.up up
 replace o15 := o15.up up
 replace o16 := o16.up up
 replace o36 := o36.up up
 replace o84 := o84.up up
 replace o105 := o105.up up
 replace o128 := o128.up up
 replace o129 := o129.up up
 replace o157 := o157.up up
 clear up d172
 have i174 : In64 x168 := o171.own
 have l175 := i174.lo; have l176 := i174.hi
 refine S.go 5 .nil fun ac w β S => ?_
 refine drw ?_
 rcases Bool.eq_false_or_eq_true (!decide ((f_ask x78 x79).1 = (f_ask x78 x79).1)) with h177 | h177
 ·exact absurd h177 (by simp)
 ·rcases Bool.eq_false_or_eq_true (!((f_ask x78 x79).2 == (f_ask x78 x79).2)) with h178 | h178
  ·exact absurd h178 (by simp)
  ·have h179 := not_f h178
   have g180 : (f_ask x78 x79).2 = (f_ask x78 x79).2 := eq_of_beq h179
   rcases Bool.eq_false_or_eq_true ((f_knownIn x154) != (f_knownIn x154)) with h181 | h181
   ·exact absurd h181 (by simp)
   ·have g182 : (f_knownIn x154) = (f_knownIn x154) := ne_f h181
    let σ183 : Sy := ⟨[(3, .p 0 0), (4, .v (slv x3.length q7.1)), (5, .v (slv x4.length q8.1)), (6, .v (I x5)), (7, .p 1 0), (10, .p 3 0), (11, .v (B (f_ask x78 x79).2)), (12, .p 4 0), (13, .v (B (f_ask x78 x79).2)), (14, .p 5 0), (15, .v (I x100)), (16, .p 6 0), (17, .v (slv x120.length q123.1)), (18, .v (I x121)), (19, .p 7 0), (20, .v (I x168))], [GT.cells x2 q6, GT.cells Y1 q34, GT.cells x78 q80, GT.cells (f_ask x78 x79).1 (), GT.cells (f_ask x78 x79).1 (), GT.cells x99 q101, GT.cells x119 q122, GT.cells x154 q155]⟩
    obtain ⟨u0, N0, β0, S, o14, o15, o16, o36, o84, o105, o128, o129, o157⟩ : ∃ u0 N0 β0, St Try.prog Try.f4.ntmps w0 NoB u0 N0 β0 σ183 ac w ∧ Ow w0 NoB u0 N0 F10 x2 q6 ∧ Ow w0 NoB u0 N0 F11 x3 q7 ∧ Ow w0 NoB u0 N0 F12 x4 q8 ∧ Ow w0 NoB u0 N0 F35 Y1 q34 ∧ Ow w0 NoB u0 N0 F82 x78 q80 ∧ Ow w0 NoB u0 N0 F103 x99 q101 ∧ Ow w0 NoB u0 N0 F125 x119 q122 ∧ Ow w0 NoB u0 N0 F126 x120 q123 ∧ Ow w0 NoB u0 N0 F156 x154 q155 := ⟨_, _, _, S.z, o14, o15, o16, o36, o84, o105, o128, o129, o157⟩
    refine wp_region_cut (fun ac w => ∃  u N β, St Try.prog Try.f4.ntmps w0 NoB u N β (σ183.dl [10, 11, 12, 13, 14, 15, 16, 17, 18, 19, 20] [(140, .v (B false))] 2 []) ac w ∧ Ow w0 NoB u N F10 x2 q6 ∧ Ow w0 NoB u N F11 x3 q7 ∧ Ow w0 NoB u N F12 x4 q8 ∧ Ow w0 NoB u N F35 Y1 q34 ∧ Ow w0 NoB u N F82 x78 q80 ∧ Ow w0 NoB u N F103 x99 q101 ∧ Ow w0 NoB u N F125 x119 q122 ∧ Ow w0 NoB u N F156 x154 q155) ?_ ?_
    ·refine S.draw0 (f := 53) 53 (by kernel_rfl) (by kernel_rfl) fun w S => ?_
     refine S.hq 0 [] [] [(88, .v (GT.val (f_ask x78 x79).1 ()))] .nil fun ac S => ?_
     refine S.hq 1 [] [] [(89, .v (GT.val (f_ask x78 x79).1 ()))] .nil fun ac S => ?_
     refine S.hq 2 [] [] [(90, .v (B (!decide ((f_ask x78 x79).1 = (f_ask x78 x79).1))))] (.cons (Eq_ne_Slot (t := 54) (f_ask x78 x79).1 (f_ask x78 x79).1 (by kernel_rfl)) .nil) fun ac S => ?_
     refine WD.nameW fun W hW => ?_
     refine WD.castW (l' := mkL 53 [0, 1, 2]) (by kernel_rfl) ?_
     have hK364 ac w u N β (S : St Try.prog Try.f4.ntmps w0 NoB u N β (σ183.dl [10, 11, 12, 13, 14, 15, 16, 17, 18, 19, 20] [(140, .v (B false))] 8 []) ac w) (o14 : Ow w0 NoB u N F10 x2 q6) (o15 : Ow w0 NoB u N F11 x3 q7) (o16 : Ow w0 NoB u N F12 x4 q8) (o36 : Ow w0 NoB u N F35 Y1 q34) (o84 : Ow w0 NoB u N F82 x78 q80) (o105 : Ow w0 NoB u N F103 x99 q101) (o128 : Ow w0 NoB u N F125 x119 q122) (o157 : Ow w0 NoB u N F156 x154 q155) (hNN : NN N0 u0 N u) (hBB : BB σ183.bx.length β0 β) : W 0 (mkL 53 [0, 1, 2, 3, 4, 5, 6, 7, 8, 9, 10, 11, 12, 13, 14, 15, 16, 17, 18, 19, 20, 21, 22, 23, 24, 25, 26, 27, 28, 29, 30, 31, 32, 33, 34, 35, 36, 37, 38, 39, 40, 41, 42, 43, 44, 45, 46, 47, 48, 49, 50, 51, 52]) ac w := by
      exact od hW ⟨rfl, _, _, _, S.z, o14, o15, o16, o36, o84, o105, o128, o157⟩
     have hK365 ac w q345 F346 q362 F363 u N β (S : St Try.prog Try.f4.ntmps w0 NoB u N β (σ183.dl [10, 11, 12, 13, 14, 15, 16, 17, 18, 19, 20] [(133, .v (B false)), (135, .v (GT.val (f_keptNew x168) q345)), (137, .v (GT.val (f_keptNew x168) q362))] 8 []) ac w) (o14 : Ow w0 NoB u N F10 x2 q6) (o15 : Ow w0 NoB u N F11 x3 q7) (o16 : Ow w0 NoB u N F12 x4 q8) (o36 : Ow w0 NoB u N F35 Y1 q34) (o84 : Ow w0 NoB u N F82 x78 q80) (o105 : Ow w0 NoB u N F103 x99 q101) (o128 : Ow w0 NoB u N F125 x119 q122) (o157 : Ow w0 NoB u N F156 x154 q155) (o344 : Ow w0 NoB u N F346 (f_keptNew x168) q345) (o361 : Ow w0 NoB u N F363 (f_keptNew x168) q362) (d366 : Disj F10 F346) (d367 : Disj F10 F363) (d368 : Disj F11 F346) (d369 : Disj F11 F363) (d370 : Disj F12 F346) (d371 : Disj F12 F363) (d372 : Disj F35 F346) (d373 : Disj F35 F363) (d374 : Disj F82 F346) (d375 : Disj F82 F363) (d376 : Disj F103 F346) (d377 : Disj F103 F363) (d378 : Disj F125 F346) (d379 : Disj F125 F363) (d380 : Disj F156 F346) (d381 : Disj F156 F363) (d382 : Disj F346 F363) (hNN : NN N0 u0 N u) (hBB : BB σ183.bx.length β0 β) : W 3 (mkL 53 [0, 1, 2, 3, 4, 5, 6, 7, 8, 9, 10, 11, 12, 13, 14, 15, 16, 17, 18, 19, 20, 21, 22, 23, 24, 25, 26, 27, 28, 29, 30, 31, 32, 33, 34, 35, 36, 37, 38, 39, 40, 41, 42, 43, 44, 45, 46, 47, 48, 49]) ac w := by
      exact ox1 hW 50 (S.wq hW hNN hBB [51, 52] (.cons (Q_call fun w hw => c_laws_sameKept w (f_keptNew x168) q345 (rd_of o344.rn hw) (f_keptNew x168) q362 (rd_of o361.rn hw) (by (first | rfl | (subst_vars; rfl)))) .nil) fun _ _ _ S hB => hK364 _ _ _ _ _ S o14 o15 o16 o36 o84 o105 o128 o157 hNN hB)
     have hK383 ac w q345 F346 u N β (S : St Try.prog Try.f4.ntmps w0 NoB u N β (σ183.dl [10, 11, 12, 13, 14, 15, 16, 17, 18, 19, 20] [(133, .v (B false)), (135, .v (GT.val (f_keptNew x168) q345)), (136, .v (I x168))] 8 []) ac w) (o14 : Ow w0 NoB u N F10 x2 q6) (o15 : Ow w0 NoB u N F11 x3 q7) (o16 : Ow w0 NoB u N F12 x4 q8) (o36 : Ow w0 NoB u N F35 Y1 q34) (o84 : Ow w0 NoB u N F82 x78 q80) (o105 : Ow w0 NoB u N F103 x99 q101) (o128 : Ow w0 NoB u N F125 x119 q122) (o157 : Ow w0 NoB u N F156 x154 q155) (o344 : Ow w0 NoB u N F346 (f_keptNew x168) q345) (d384 : Disj F10 F346) (d385 : Disj F11 F346) (d386 : Disj F12 F346) (d387 : Disj F35 F346) (d388 : Disj F82 F346) (d389 : Disj F103 F346) (d390 : Disj F125 F346) (d391 : Disj F156 F346) (hNN : NN N0 u0 N u) (hBB : BB σ183.bx.length β0 β) : W 4 (mkL 53 [0, 1, 2, 3, 4, 5, 6, 7, 8, 9, 10, 11, 12, 13, 14, 15, 16, 17, 18, 19, 20, 21, 22, 23, 24, 25, 26, 27, 28, 29, 30, 31, 32, 33, 34, 35, 36, 37, 38, 39, 40, 41, 42, 43, 44, 45, 46, 47, 48]) ac w := by
      refine ox1 hW 49 ?_
      refine id (S.k1 137 (c_spec_KeptNew w x168) fun ac w N q392 F393 S up o394 d395 => ?_)
      have hb396 := fun b h => (⟨(up b (hNN b h).1).1, (up b (hNN b h).1).2.trans (hNN b h).2⟩ : _ ∧ _)
      refine WD.sc S hb396 hBB fun hC => ?_
      have d397 := Disj.w d395 o14.sub
      have d398 := Disj.w d395 o15.sub
      have d399 := Disj.w d395 o16.sub
      have d400 := Disj.w d395 o36.sub
      have d401 := Disj.w d395 o84.sub
      have d402 := Disj.w d395 o105.sub
      have d403 := Disj.w d395 o128.sub
      have d404 := Disj.w d395 o157.sub
      have d405 := Disj.w d395 o344.sub
      replace o14 := o14.up up
      replace o15 := o15.up up
      replace o16 := o16.up up
      replace o36 := o36.up up
      replace o84 := o84.up up
      replace o105 := o105.up up
      replace o128 := o128.up up
      replace o157 := o157.up up
      replace o344 := o344.up up
      clear up d395
      exact S.wh hW [] hC fun _ S => hK365 _ _ q345 F346 q392 F393 _ _ _ S o14 o15 o16 o36 o84 o105 o128 o157 o344 o394 d384 d397 d385 d398 d386 d399 d387 d400 d388 d401 d389 d402 d390 d403 d391 d404 d405 hb396 hBB
     have hK406 ac w u N β (S : St Try.prog Try.f4.ntmps w0 NoB u N β (σ183.dl [10, 11, 12, 13, 14, 15, 16, 17, 18, 19, 20] [(133, .v (B false)), (134, .v (I x168)), (136, .v (I x168))] 8 []) ac w) (o14 : Ow w0 NoB u N F10 x2 q6) (o15 : Ow w0 NoB u N F11 x3 q7) (o16 : Ow w0 NoB u N F12 x4 q8) (o36 : Ow w0 NoB u N F35 Y1 q34) (o84 : Ow w0 NoB u N F82 x78 q80) (o105 : Ow w0 NoB u N F103 x99 q101) (o128 : Ow w0 NoB u N F125 x119 q122) (o157 : Ow w0 NoB u N F156 x154 q155) (hNN : NN N0 u0 N u) (hBB : BB σ183.bx.length β0 β) : W 5 (mkL 53 [0, 1, 2, 3, 4, 5, 6, 7, 8, 9, 10, 11, 12, 13, 14, 15, 16, 17, 18, 19, 20, 21, 22, 23, 24, 25, 26, 27, 28, 29, 30, 31, 32, 33, 34, 35, 36, 37, 38, 39, 40, 41, 42, 43, 44, 45, 46, 48]) ac w := by
      refine ox1 hW 47 ?_
      refine id (S.k1 135 (c_impl_KeptNew w x168) fun ac w N q407 F408 S up o409 d410 => ?_)
      have hb411 := fun b h => (⟨(up b (hNN b h).1).1, (up b (hNN b h).1).2.trans (hNN b h).2⟩ : _ ∧ _)
      refine WD.sc S hb411 hBB fun hC => ?_
      have d412 := Disj.w d410 o14.sub
      have d413 := Disj.w d410 o15.sub
      have d414 := Disj.w d410 o16.sub
      have d415 := Disj.w d410 o36.sub
      have d416 := Disj.w d410 o84.sub
      have d417 := Disj.w d410 o105.sub
      have d418 := Disj.w d410 o128.sub
      have d419 := Disj.w d410 o157.sub
      replace o14 := o14.up up
      replace o15 := o15.up up
      replace o16 := o16.up up
      replace o36 := o36.up up
      replace o84 := o84.up up
      replace o105 := o105.up up
      replace o128 := o128.up up
      replace o157 := o157.up up
      clear up d410
      exact S.wh hW [] hC fun _ S => hK383 _ _ q407 F408 _ _ _ S o14 o15 o16 o36 o84 o105 o128 o157 o409 d412 d413 d414 d415 d416 d417 d418 d419 hb411 hBB
     have hK420 ac w u N β (S : St Try.prog Try.f4.ntmps w0 NoB u N β (σ183.dl [10, 11, 12, 13, 14, 15, 16, 17, 18, 19] [(126, .v (B false)), (128, .v (I (f_knownIn x154))), (129, .v (GT.val x154 q155))] 8 []) ac w) (o14 : Ow w0 NoB u N F10 x2 q6) (o15 : Ow w0 NoB u N F11 x3 q7) (o16 : Ow w0 NoB u N F12 x4 q8) (o36 : Ow w0 NoB u N F35 Y1 q34) (o84 : Ow w0 NoB u N F82 x78 q80) (o105 : Ow w0 NoB u N F103 x99 q101) (o128 : Ow w0 NoB u N F125 x119 q122) (o157 : Ow w0 NoB u N F156 x154 q155) (hNN : NN N0 u0 N u) (hBB : BB σ183.bx.length β0 β) : W 11 (mkL 53 [0, 1, 2, 3, 4, 5, 6, 7, 8, 9, 10, 11, 12, 13, 14, 15, 16, 17, 18, 19, 20, 21, 22, 23, 24, 25, 26, 27, 28, 29, 30, 31, 32, 33, 34, 35, 36, 37, 38, 39, 40, 41]) ac w := by
      have b421 := knownIn_bd x154
      exact ox1 hW 42 (S.wqo hW hNN hBB [43, 44, 45, 46, 48] [(45, false)] (.cons (Q_call fun w hw => c_spec_KnownIn w x154 q155 (rd_of o157.rn hw)) .nil) (.cons h181 .nil) fun _ _ _ S hB => hK406 _ _ _ _ _ S o14 o15 o16 o36 o84 o105 o128 o157 hNN hB)
     have hK422 ac w u N β (S : St Try.prog Try.f4.ntmps w0 NoB u N β (σ183.dl [10, 11, 12, 13, 14, 15, 16, 17, 18] [(126, .v (B false)), (128, .v (I (f_knownIn x154)))] 8 []) ac w) (o14 : Ow w0 NoB u N F10 x2 q6) (o15 : Ow w0 NoB u N F11 x3 q7) (o16 : Ow w0 NoB u N F12 x4 q8) (o36 : Ow w0 NoB u N F35 Y1 q34) (o84 : Ow w0 NoB u N F82 x78 q80) (o105 : Ow w0 NoB u N F103 x99 q101) (o128 : Ow w0 NoB u N F125 x119 q122) (o157 : Ow w0 NoB u N F156 x154 q155) (hNN : NN N0 u0 N u) (hBB : BB σ183.bx.length β0 β) : W 12 (mkL 53 [0, 1, 2, 3, 4, 5, 6, 7, 8, 9, 10, 11, 12, 13, 14, 15, 16, 17, 18, 19, 20, 21, 22, 23, 24, 25, 26, 27, 28, 29, 30, 31, 32, 33, 34, 35, 36, 37, 38, 39, 40]) ac w := by
      exact ox1 hW 41 (S.wq hW hNN hBB [] .nil fun _ _ _ S hB => hK420 _ _ _ _ _ S o14 o15 o16 o36 o84 o105 o128 o157 hNN hB)
     have hK423 ac w u N β (S : St Try.prog Try.f4.ntmps w0 NoB u N β (σ183.dl [10, 11, 12, 13, 14, 15, 16, 17, 18, 19] [(126, .v (B false)), (127, .v (GT.val x154 q155)), (129, .v (GT.val x154 q155))] 8 []) ac w) (o14 : Ow w0 NoB u N F10 x2 q6) (o15 : Ow w0 NoB u N F11 x3 q7) (o16 : Ow w0 NoB u N F12 x4 q8) (o36 : Ow w0 NoB u N F35 Y1 q34) (o84 : Ow w0 NoB u N F82 x78 q80) (o105 : Ow w0 NoB u N F103 x99 q101) (o128 : Ow w0 NoB u N F125 x119 q122) (o157 : Ow w0 NoB u N F156 x154 q155) (hNN : NN N0 u0 N u) (hBB : BB σ183.bx.length β0 β) : W 12 (mkL 53 [0, 1, 2, 3, 4, 5, 6, 7, 8, 9, 10, 11, 12, 13, 14, 15, 16, 17, 18, 19, 20, 21, 22, 23, 24, 25, 26, 27, 28, 29, 30, 31, 32, 33, 34, 35, 36, 37, 38, 39, 41]) ac w := by
      have b424 := knownIn_bd x154
      exact ox1 hW 40 (S.wq hW hNN hBB [] (.cons (Q_call fun w hw => c_impl_KnownIn w x154 q155 (rd_of o157.rn hw)) .nil) fun _ _ _ S hB => hK420 _ _ _ _ _ S o14 o15 o16 o36 o84 o105 o128 o157 hNN hB)
     have hK425 ac w u N β (S : St Try.prog Try.f4.ntmps w0 NoB u N β (σ183.dl [10, 11, 12, 13, 14, 15, 16, 17, 18] [(126, .v (B false)), (127, .v (GT.val x154 q155))] 8 []) ac w) (o14 : Ow w0 NoB u N F10 x2 q6) (o15 : Ow w0 NoB u N F11 x3 q7) (o16 : Ow w0 NoB u N F12 x4 q8) (o36 : Ow w0 NoB u N F35 Y1 q34) (o84 : Ow w0 NoB u N F82 x78 q80) (o105 : Ow w0 NoB u N F103 x99 q101) (o128 : Ow w0 NoB u N F125 x119 q122) (o157 : Ow w0 NoB u N F156 x154 q155) (hNN : NN N0 u0 N u) (hBB : BB σ183.bx.length β0 β) : W 13 (mkL 53 [0, 1, 2, 3, 4, 5, 6, 7, 8, 9, 10, 11, 12, 13, 14, 15, 16, 17, 18, 19, 20, 21, 22, 23, 24, 25, 26, 27, 28, 29, 30, 31, 32, 33, 34, 35, 36, 37, 38, 39]) ac w := by
      have b426 := knownIn_bd x154
      exact ox2 hW 40 41 (S.wq hW hNN hBB [] (.cons (Q_call fun w hw => c_impl_KnownIn w x154 q155 (rd_of o157.rn hw)) .nil) fun _ _ _ S hB => hK422 _ _ _ _ _ S o14 o15 o16 o36 o84 o105 o128 o157 hNN hB) (S.wq hW hNN hBB [] .nil fun _ _ _ S hB => hK423 _ _ _ _ _ S o14 o15 o16 o36 o84 o105 o128 o157 hNN hB)
     have hK427 ac w u N β (S : St Try.prog Try.f4.ntmps w0 NoB u N β (σ183.dl [10, 11, 12, 13, 14, 15, 16, 17, 18] [(126, .v (B false)), (129, .v (GT.val x154 q155))] 8 []) ac w) (o14 : Ow w0 NoB u N F10 x2 q6) (o15 : Ow w0 NoB u N F11 x3 q7) (o16 : Ow w0 NoB u N F12 x4 q8) (o36 : Ow w0 NoB u N F35 Y1 q34) (o84 : Ow w0 NoB u N F82 x78 q80) (o105 : Ow w0 NoB u N F103 x99 q101) (o128 : Ow w0 NoB u N F125 x119 q122) (o157 : Ow w0 NoB u N F156 x154 q155) (hNN : NN N0 u0 N u) (hBB : BB σ183.bx.length β0 β) : W 13 (mkL 53 [0, 1, 2, 3, 4, 5, 6, 7, 8, 9, 10, 11, 12, 13, 14, 15, 16, 17, 18, 19, 20, 21, 22, 23, 24, 25, 26, 27, 28, 29, 30, 31, 32, 33, 34, 35, 36, 37, 38, 41]) ac w := by
      exact ox1 hW 39 (S.wq hW hNN hBB [] .nil fun _ _ _ S hB => hK423 _ _ _ _ _ S o14 o15 o16 o36 o84 o105 o128 o157 hNN hB)
     have hK428 ac w u N β (S : St Try.prog Try.f4.ntmps w0 NoB u N β (σ183.dl [10, 11, 12, 13, 14, 15, 16, 17, 18] [(126, .v (B false))] 8 []) ac w) (o14 : Ow w0 NoB u N F10 x2 q6) (o15 : Ow w0 NoB u N F11 x3 q7) (o16 : Ow w0 NoB u N F12 x4 q8) (o36 : Ow w0 NoB u N F35 Y1 q34) (o84 : Ow w0 NoB u N F82 x78 q80) (o105 : Ow w0 NoB u N F103 x99 q101) (o128 : Ow w0 NoB u N F125 x119 q122) (o157 : Ow w0 NoB u N F156 x154 q155) (hNN : NN N0 u0 N u) (hBB : BB σ183.bx.length β0 β) : W 14 (mkL 53 [0, 1, 2, 3, 4, 5, 6, 7, 8, 9, 10, 11, 12, 13, 14, 15, 16, 17, 18, 19, 20, 21, 22, 23, 24, 25, 26, 27, 28, 29, 30, 31, 32, 33, 34, 35, 36, 37, 38]) ac w := by
      exact ox2 hW 39 41 (S.wq hW hNN hBB [] .nil fun _ _ _ S hB => hK425 _ _ _ _ _ S o14 o15 o16 o36 o84 o105 o128 o157 hNN hB) (S.wq hW hNN hBB [] .nil fun _ _ _ S hB => hK427 _ _ _ _ _ S o14 o15 o16 o36 o84 o105 o128 o157 hNN hB)
     have hK429 ac w q296 F297 q326 F327 u N β (S : St Try.prog Try.f4.ntmps w0 NoB u N β (σ183.dl [10, 11, 12, 13, 14, 15, 16, 17, 18] [(118, .v (B false)), (120, .v (GT.val (f_forgetAll x154) q296)), (122, .v (GT.val (f_forgetAll x154) q326))] 8 []) ac w) (o14 : Ow w0 NoB u N F10 x2 q6) (o15 : Ow w0 NoB u N F11 x3 q7) (o16 : Ow w0 NoB u N F12 x4 q8) (o36 : Ow w0 NoB u N F35 Y1 q34) (o84 : Ow w0 NoB u N F82 x78 q80) (o105 : Ow w0 NoB u N F103 x99 q101) (o128 : Ow w0 NoB u N F125 x119 q122) (o157 : Ow w0 NoB u N F156 x154 q155) (o295 : Ow w0 NoB u N F297 (f_forgetAll x154) q296) (o325 : Ow w0 NoB u N F327 (f_forgetAll x154) q326) (d430 : Disj F10 F297) (d431 : Disj F10 F327) (d432 : Disj F11 F297) (d433 : Disj F11 F327) (d434 : Disj F12 F297) (d435 : Disj F12 F327) (d436 : Disj F35 F297) (d437 : Disj F35 F327) (d438 : Disj F82 F297) (d439 : Disj F82 F327) (d440 : Disj F103 F297) (d441 : Disj F103 F327) (d442 : Disj F125 F297) (d443 : Disj F125 F327) (d444 : Disj F156 F297) (d445 : Disj F156 F327) (d446 : Disj F297 F327) (hNN : NN N0 u0 N u) (hBB : BB σ183.bx.length β0 β) : W 18 (mkL 53 [0, 1, 2, 3, 4, 5, 6, 7, 8, 9, 10, 11, 12, 13, 14, 15, 16, 17, 18, 19, 20, 21, 22, 23, 24, 25, 26, 27, 28, 29, 30, 31, 32, 33, 34]) ac w := by
      exact ox1 hW 35 (S.wq hW hNN hBB [36, 37, 38] (.cons (Q_call fun w hw => c_laws_sameKept w (f_forgetAll x154) q296 (rd_of o295.rn hw) (f_forgetAll x154) q326 (rd_of o325.rn hw) (by (first | rfl | (subst_vars; rfl)))) .nil) fun _ _ _ S hB => hK428 _ _ _ _ _ S o14 o15 o16 o36 o84 o105 o128 o157 hNN hB)
     have hK447 ac w q296 F297 u N β (S : St Try.prog Try.f4.ntmps w0 NoB u N β (σ183.dl [10, 11, 12, 13, 14, 15, 16, 17, 18] [(118, .v (B false)), (120, .v (GT.val (f_forgetAll x154) q296)), (121, .v (GT.val x154 q155))] 8 []) ac w) (o14 : Ow w0 NoB u N F10 x2 q6) (o15 : Ow w0 NoB u N F11 x3 q7) (o16 : Ow w0 NoB u N F12 x4 q8) (o36 : Ow w0 NoB u N F35 Y1 q34) (o84 : Ow w0 NoB u N F82 x78 q80) (o105 : Ow w0 NoB u N F103 x99 q101) (o128 : Ow w0 NoB u N F125 x119 q122) (o157 : Ow w0 NoB u N F156 x154 q155) (o295 : Ow w0 NoB u N F297 (f_forgetAll x154) q296) (d448 : Disj F10 F297) (d449 : Disj F11 F297) (d450 : Disj F12 F297) (d451 : Disj F35 F297) (d452 : Disj F82 F297) (d453 : Disj F103 F297) (d454 : Disj F125 F297) (d455 : Disj F156 F297) (hNN : NN N0 u0 N u) (hBB : BB σ183.bx.length β0 β) : W 19 (mkL 53 [0, 1, 2, 3, 4, 5, 6, 7, 8, 9, 10, 11, 12, 13, 14, 15, 16, 17, 18, 19, 20, 21, 22, 23, 24, 25, 26, 27, 28, 29, 30, 31, 32, 33]) ac w := by
      refine ox1 hW 34 ?_
      refine id (S.k1 122 (c_spec_ForgetAll w x154 q155 (S.rd o157.rn)) fun ac w N q456 F457 S up o458 d459 => ?_)
      have hb460 := fun b h => (⟨(up b (hNN b h).1).1, (up b (hNN b h).1).2.trans (hNN b h).2⟩ : _ ∧ _)
      refine WD.sc S hb460 hBB fun hC => ?_
      have d461 := Disj.w d459 o14.sub
      have d462 := Disj.w d459 o15.sub
      have d463 := Disj.w d459 o16.sub
      have d464 := Disj.w d459 o36.sub
      have d465 := Disj.w d459 o84.sub
      have d466 := Disj.w d459 o105.sub
      have d467 := Disj.w d459 o128.sub
      have d468 := Disj.w d459 o157.sub
      have d469 := Disj.w d459 o295.sub
      replace o14 := o14.up up
      replace o15 := o15.up up
      replace o16 := o16.up up
      replace o36 := o36.up up
      replace o84 := o84.up up
      replace o105 := o105.up up
      replace o128 := o128.up up
      replace o157 := o157.up up
      replace o295 := o295.up up
      clear up d459
      exact S.wh hW [] hC fun _ S => hK429 _ _ q296 F297 q456 F457 _ _ _ S o14 o15 o16 o36 o84 o105 o128 o157 o295 o458 d448 d461 d449 d462 d450 d463 d451 d464 d452 d465 d453 d466 d454 d467 d455 d468 d469 hb460 hBB
     have hK470 ac w q296 F297 u N β (S : St Try.prog Try.f4.ntmps w0 NoB u N β (σ183.dl [10, 11, 12, 13, 14, 15, 16, 17, 18] [(118, .v (B false)), (120, .v (GT.val (f_forgetAll x154) q296))] 8 []) ac w) (o14 : Ow w0 NoB u N F10 x2 q6) (o15 : Ow w0 NoB u N F11 x3 q7) (o16 : Ow w0 NoB u N F12 x4 q8) (o36 : Ow w0 NoB u N F35 Y1 q34) (o84 : Ow w0 NoB u N F82 x78 q80) (o105 : Ow w0 NoB u N F103 x99 q101) (o128 : Ow w0 NoB u N F125 x119 q122) (o157 : Ow w0 NoB u N F156 x154 q155) (o295 : Ow w0 NoB u N F297 (f_forgetAll x154) q296) (d471 : Disj F10 F297) (d472 : Disj F11 F297) (d473 : Disj F12 F297) (d474 : Disj F35 F297) (d475 : Disj F82 F297) (d476 : Disj F103 F297) (d477 : Disj F125 F297) (d478 : Disj F156 F297) (hNN : NN N0 u0 N u) (hBB : BB σ183.bx.length β0 β) : W 20 (mkL 53 [0, 1, 2, 3, 4, 5, 6, 7, 8, 9, 10, 11, 12, 13, 14, 15, 16, 17, 18, 19, 20, 21, 22, 23, 24, 25, 26, 27, 28, 29, 30, 31, 32]) ac w := by
      exact ox1 hW 33 (S.wq hW hNN hBB [] .nil fun _ _ _ S hB => hK447 _ _ q296 F297 _ _ _ S o14 o15 o16 o36 o84 o105 o128 o157 o295 d471 d472 d473 d474 d475 d476 d477 d478 hNN hB)
     have hK479 ac w u N β (S : St Try.prog Try.f4.ntmps w0 NoB u N β (σ183.dl [10, 11, 12, 13, 14, 15, 16, 17, 18] [(118, .v (B false)), (119, .v (GT.val x154 q155)), (121, .v (GT.val x154 q155))] 8 []) ac w) (o14 : Ow w0 NoB u N F10 x2 q6) (o15 : Ow w0 NoB u N F11 x3 q7) (o16 : Ow w0 NoB u N F12 x4 q8) (o36 : Ow w0 NoB u N F35 Y1 q34) (o84 : Ow w0 NoB u N F82 x78 q80) (o105 : Ow w0 NoB u N F103 x99 q101) (o128 : Ow w0 NoB u N F125 x119 q122) (o157 : Ow w0 NoB u N F156 x154 q155) (hNN : NN N0 u0 N u) (hBB : BB σ183.bx.length β0 β) : W 20 (mkL 53 [0, 1, 2, 3, 4, 5, 6, 7, 8, 9, 10, 11, 12, 13, 14, 15, 16, 17, 18, 19, 20, 21, 22, 23, 24, 25, 26, 27, 28, 29, 30, 31, 33]) ac w := by
      refine ox1 hW 32 ?_
      refine id (S.k1 120 (c_impl_ForgetAll w x154 q155 (S.rd o157.rn)) fun ac w N q480 F481 S up o482 d483 => ?_)
      have hb484 := fun b h => (⟨(up b (hNN b h).1).1, (up b (hNN b h).1).2.trans (hNN b h).2⟩ : _ ∧ _)
      refine WD.sc S hb484 hBB fun hC => ?_
      have d485 := Disj.w d483 o14.sub
      have d486 := Disj.w d483 o15.sub
      have d487 := Disj.w d483 o16.sub
      have d488 := Disj.w d483 o36.sub
      have d489 := Disj.w d483 o84.sub
      have d490 := Disj.w d483 o105.sub
      have d491 := Disj.w d483 o128.sub
      have d492 := Disj.w d483 o157.sub
      replace o14 := o14.up up
      replace o15 := o15.up up
      replace o16 := o16.up up
      replace o36 := o36.up up
      replace o84 := o84.up up
      replace o105 := o105.up up
      replace o128 := o128.up up
      replace o157 := o157.up up
      clear up d483
      exact S.wh hW [] hC fun _ S => hK447 _ _ q480 F481 _ _ _ S o14 o15 o16 o36 o84 o105 o128 o157 o482 d485 d486 d487 d488 d489 d490 d491 d492 hb484 hBB
     have hK493 ac w u N β (S : St Try.prog Try.f4.ntmps w0 NoB u N β (σ183.dl [10, 11, 12, 13, 14, 15, 16, 17, 18] [(118, .v (B false)), (119, .v (GT.val x154 q155))] 8 []) ac w) (o14 : Ow w0 NoB u N F10 x2 q6) (o15 : Ow w0 NoB u N F11 x3 q7) (o16 : Ow w0 NoB u N F12 x4 q8) (o36 : Ow w0 NoB u N F35 Y1 q34) (o84 : Ow w0 NoB u N F82 x78 q80) (o105 : Ow w0 NoB u N F103 x99 q101) (o128 : Ow w0 NoB u N F125 x119 q122) (o157 : Ow w0 NoB u N F156 x154 q155) (hNN : NN N0 u0 N u) (hBB : BB σ183.bx.length β0 β) : W 21 (mkL 53 [0, 1, 2, 3, 4, 5, 6, 7, 8, 9, 10, 11, 12, 13, 14, 15, 16, 17, 18, 19, 20, 21, 22, 23, 24, 25, 26, 27, 28, 29, 30, 31]) ac w := by
      refine ox2 hW 32 33 ?_ (S.wq hW hNN hBB [] .nil fun _ _ _ S hB => hK479 _ _ _ _ _ S o14 o15 o16 o36 o84 o105 o128 o157 hNN hB)
      refine id (S.k1 120 (c_impl_ForgetAll w x154 q155 (S.rd o157.rn)) fun ac w N q494 F495 S up o496 d497 => ?_)
      have hb498 := fun b h => (⟨(up b (hNN b h).1).1, (up b (hNN b h).1).2.trans (hNN b h).2⟩ : _ ∧ _)
      refine WD.sc S hb498 hBB fun hC => ?_
      have d499 := Disj.w d497 o14.sub
      have d500 := Disj.w d497 o15.sub
      have d501 := Disj.w d497 o16.sub
      have d502 := Disj.w d497 o36.sub
      have d503 := Disj.w d497 o84.sub
      have d504 := Disj.w d497 o105.sub
      have d505 := Disj.w d497 o128.sub
      have d506 := Disj.w d497 o157.sub
      replace o14 := o14.up up
      replace o15 := o15.up up
      replace o16 := o16.up up
      replace o36 := o36.up up
      replace o84 := o84.up up
      replace o105 := o105.up up
      replace o128 := o128.up up
      replace o157 := o157.up up
      clear up d497
      exact S.wh hW [] hC fun _ S => hK470 _ _ q494 F495 _ _ _ S o14 o15 o16 o36 o84 o105 o128 o157 o496 d499 d500 d501 d502 d503 d504 d505 d506 hb498 hBB
     have hK507 ac w u N β (S : St Try.prog Try.f4.ntmps w0 NoB u N β (σ183.dl [10, 11, 12, 13, 14, 15, 16, 17, 18] [(118, .v (B false)), (121, .v (GT.val x154 q155))] 8 []) ac w) (o14 : Ow w0 NoB u N F10 x2 q6) (o15 : Ow w0 NoB u N F11 x3 q7) (o16 : Ow w0 NoB u N F12 x4 q8) (o36 : Ow w0 NoB u N F35 Y1 q34) (o84 : Ow w0 NoB u N F82 x78 q80) (o105 : Ow w0 NoB u N F103 x99 q101) (o128 : Ow w0 NoB u N F125 x119 q122) (o157 : Ow w0 NoB u N F156 x154 q155) (hNN : NN N0 u0 N u) (hBB : BB σ183.bx.length β0 β) : W 21 (mkL 53 [0, 1, 2, 3, 4, 5, 6, 7, 8, 9, 10, 11, 12, 13, 14, 15, 16, 17, 18, 19, 20, 21, 22, 23, 24, 25, 26, 27, 28, 29, 30, 33]) ac w := by
      exact ox1 hW 31 (S.wq hW hNN hBB [] .nil fun _ _ _ S hB => hK479 _ _ _ _ _ S o14 o15 o16 o36 o84 o105 o128 o157 hNN hB)
     have hK508 ac w u N β (S : St Try.prog Try.f4.ntmps w0 NoB u N β (σ183.dl [10, 11, 12, 13, 14, 15, 16, 17, 18] [(118, .v (B false))] 8 []) ac w) (o14 : Ow w0 NoB u N F10 x2 q6) (o15 : Ow w0 NoB u N F11 x3 q7) (o16 : Ow w0 NoB u N F12 x4 q8) (o36 : Ow w0 NoB u N F35 Y1 q34) (o84 : Ow w0 NoB u N F82 x78 q80) (o105 : Ow w0 NoB u N F103 x99 q101) (o128 : Ow w0 NoB u N F125 x119 q122) (o157 : Ow w0 NoB u N F156 x154 q155) (hNN : NN N0 u0 N u) (hBB : BB σ183.bx.length β0 β) : W 22 (mkL 53 [0, 1, 2, 3, 4, 5, 6, 7, 8, 9, 10, 11, 12, 13, 14, 15, 16, 17, 18, 19, 20, 21, 22, 23, 24, 25, 26, 27, 28, 29, 30]) ac w := by
      exact ox2 hW 31 33 (S.wq hW hNN hBB [] .nil fun _ _ _ S hB => hK493 _ _ _ _ _ S o14 o15 o16 o36 o84 o105 o128 o157 hNN hB) (S.wq hW hNN hBB [] .nil fun _ _ _ S hB => hK507 _ _ _ _ _ S o14 o15 o16 o36 o84 o105 o128 o157 hNN hB)
     have hK509 ac w q248 F249 q280 F281 u N β (S : St Try.prog Try.f4.ntmps w0 NoB u N β (σ183.dl [10, 11, 12, 13, 14, 15, 16, 17, 18] [(106, .v (B false)), (110, .v (GT.val (f_forgetUses x119 x120 x121) q248)), (114, .v (GT.val (f_forgetUses x119 x120 x121) q280))] 8 []) ac w) (o14 : Ow w0 NoB u N F10 x2 q6) (o15 : Ow w0 NoB u N F11 x3 q7) (o16 : Ow w0 NoB u N F12 x4 q8) (o36 : Ow w0 NoB u N F35 Y1 q34) (o84 : Ow w0 NoB u N F82 x78 q80) (o105 : Ow w0 NoB u N F103 x99 q101) (o128 : Ow w0 NoB u N F125 x119 q122) (o157 : Ow w0 NoB u N F156 x154 q155) (o247 : Ow w0 NoB u N F249 (f_forgetUses x119 x120 x121) q248) (o279 : Ow w0 NoB u N F281 (f_forgetUses x119 x120 x121) q280) (d510 : Disj F10 F249) (d511 : Disj F10 F281) (d512 : Disj F11 F249) (d513 : Disj F11 F281) (d514 : Disj F12 F249) (d515 : Disj F12 F281) (d516 : Disj F35 F249) (d517 : Disj F35 F281) (d518 : Disj F82 F249) (d519 : Disj F82 F281) (d520 : Disj F103 F249) (d521 : Disj F103 F281) (d522 : Disj F125 F249) (d523 : Disj F125 F281) (d524 : Disj F156 F249) (d525 : Disj F156 F281) (d526 : Disj F249 F281) (hNN : NN N0 u0 N u) (hBB : BB σ183.bx.length β0 β) : W 26 (mkL 53 [0, 1, 2, 3, 4, 5, 6, 7, 8, 9, 10, 11, 12, 13, 14, 15, 16, 17, 18, 19, 20, 21, 22, 23, 24, 25, 26]) ac w := by
      exact ox1 hW 27 (S.wq hW hNN hBB [28, 29, 30] (.cons (Q_call fun w hw => c_laws_sameKept w (f_forgetUses x119 x120 x121) q248 (rd_of o247.rn hw) (f_forgetUses x119 x120 x121) q280 (rd_of o279.rn hw) (by (first | rfl | (subst_vars; rfl)))) .nil) fun _ _ _ S hB => hK508 _ _ _ _ _ S o14 o15 o16 o36 o84 o105 o128 o157 hNN hB)
     have hK527 ac w q248 F249 u N β (S : St Try.prog Try.f4.ntmps w0 NoB u N β (σ183.dl [10, 11, 12, 13, 14, 15, 16, 17, 18] [(106, .v (B false)), (110, .v (GT.val (f_forgetUses x119 x120 x121) q248)), (111, .v (GT.val x119 q122)), (112, .v (slv x120.length q123.1)), (113, .v (I x121))] 8 []) ac w) (o14 : Ow w0 NoB u N F10 x2 q6) (o15 : Ow w0 NoB u N F11 x3 q7) (o16 : Ow w0 NoB u N F12 x4 q8) (o36 : Ow w0 NoB u N F35 Y1 q34) (o84 : Ow w0 NoB u N F82 x78 q80) (o105 : Ow w0 NoB u N F103 x99 q101) (o128 : Ow w0 NoB u N F125 x119 q122) (o129 : Ow w0 NoB u N F126 x120 q123) (o157 : Ow w0 NoB u N F156 x154 q155) (o247 : Ow w0 NoB u N F249 (f_forgetUses x119 x120 x121) q248) (d528 : Disj F10 F249) (d529 : Disj F11 F249) (d530 : Disj F12 F249) (d531 : Disj F35 F249) (d532 : Disj F82 F249) (d533 : Disj F103 F249) (d534 : Disj F125 F249) (d535 : Disj F126 F249) (d536 : Disj F156 F249) (hNN : NN N0 u0 N u) (hBB : BB σ183.bx.length β0 β) : W 27 (mkL 53 [0, 1, 2, 3, 4, 5, 6, 7, 8, 9, 10, 11, 12, 13, 14, 15, 16, 17, 18, 19, 20, 21, 22, 23, 24, 25]) ac w := by
      refine ox1 hW 26 ?_
      refine id (S.k1 114 (c_spec_ForgetUses w x119 q122 (S.rd o128.rn) x120 q123 (S.rd o129.rn) x121) fun ac w N q537 F538 S up o539 d540 => ?_)
      have hb541 := fun b h => (⟨(up b (hNN b h).1).1, (up b (hNN b h).1).2.trans (hNN b h).2⟩ : _ ∧ _)
      refine WD.sc S hb541 hBB fun hC => ?_
      have d542 := Disj.w d540 o14.sub
      have d543 := Disj.w d540 o15.sub
      have d544 := Disj.w d540 o16.sub
      have d545 := Disj.w d540 o36.sub
      have d546 := Disj.w d540 o84.sub
      have d547 := Disj.w d540 o105.sub
      have d548 := Disj.w d540 o128.sub
      have d550 := Disj.w d540 o157.sub
      have d551 := Disj.w d540 o247.sub
      replace o14 := o14.up up
      replace o15 := o15.up up
      replace o16 := o16.up up
      replace o36 := o36.up up
      replace o84 := o84.up up
      replace o105 := o105.up up
      replace o128 := o128.up up
      replace o129 := o129.up up
      replace o157 := o157.up up
      replace o247 := o247.up up
      clear up d540
      exact S.wh hW [] hC fun _ S => hK509 _ _ q248 F249 q537 F538 _ _ _ S o14 o15 o16 o36 o84 o105 o128 o157 o247 o539 d528 d542 d529 d543 d530 d544 d531 d545 d532 d546 d533 d547 d534 d548 d536 d550 d551 hb541 hBB
     have hK552 ac w q248 F249 u N β (S : St Try.prog Try.f4.ntmps w0 NoB u N β (σ183.dl [10, 11, 12, 13, 14, 15, 17, 18] [(106, .v (B false)), (110, .v (GT.val (f_forgetUses x119 x120 x121) q248)), (112, .v (slv x120.length q123.1)), (113, .v (I x121))] 8 []) ac w) (o14 : Ow w0 NoB u N F10 x2 q6) (o15 : Ow w0 NoB u N F11 x3 q7) (o16 : Ow w0 NoB u N F12 x4 q8) (o36 : Ow w0 NoB u N F35 Y1 q34) (o84 : Ow w0 NoB u N F82 x78 q80) (o105 : Ow w0 NoB u N F103 x99 q101) (o128 : Ow w0 NoB u N F125 x119 q122) (o129 : Ow w0 NoB u N F126 x120 q123) (o157 : Ow w0 NoB u N F156 x154 q155) (o247 : Ow w0 NoB u N F249 (f_forgetUses x119 x120 x121) q248) (d553 : Disj F10 F249) (d554 : Disj F11 F249) (d555 : Disj F12 F249) (d556 : Disj F35 F249) (d557 : Disj F82 F249) (d558 : Disj F103 F249) (d559 : Disj F125 F249) (d560 : Disj F126 F249) (d561 : Disj F156 F249) (hNN : NN N0 u0 N u) (hBB : BB σ183.bx.length β0 β) : W 28 (mkL 53 [0, 1, 2, 3, 4, 5, 6, 7, 8, 9, 10, 11, 12, 13, 14, 15, 16, 17, 18, 19, 20, 21, 22, 24, 25]) ac w := by
      exact ox1 hW 23 (S.wq hW hNN hBB [] .nil fun _ _ _ S hB => hK527 _ _ q248 F249 _ _ _ S o14 o15 o16 o36 o84 o105 o128 o129 o157 o247 d553 d554 d555 d556 d557 d558 d559 d560 d561 hNN hB)
     have hK562 ac w u N β (S : St Try.prog Try.f4.ntmps w0 NoB u N β (σ183.dl [10, 11, 12, 13, 14, 15, 16, 17, 18] [(106, .v (B false)), (107, .v (GT.val x119 q122)), (108, .v (slv x120.length q123.1)), (109, .v (I x121)), (111, .v (GT.val x119 q122)), (112, .v (slv x120.length q123.1)), (113, .v (I x121))] 8 []) ac w) (o14 : Ow w0 NoB u N F10 x2 q6) (o15 : Ow w0 NoB u N F11 x3 q7) (o16 : Ow w0 NoB u N F12 x4 q8) (o36 : Ow w0 NoB u N F35 Y1 q34) (o84 : Ow w0 NoB u N F82 x78 q80) (o105 : Ow w0 NoB u N F103 x99 q101) (o128 : Ow w0 NoB u N F125 x119 q122) (o129 : Ow w0 NoB u N F126 x120 q123) (o157 : Ow w0 NoB u N F156 x154 q155) (hNN : NN N0 u0 N u) (hBB : BB σ183.bx.length β0 β) : W 28 (mkL 53 [0, 1, 2, 3, 4, 5, 6, 7, 8, 9, 10, 11, 12, 13, 14, 15, 16, 17, 18, 19, 20, 21, 23, 24, 25]) ac w := by
      refine ox1 hW 22 ?_
      refine id (S.k1 110 (c_impl_ForgetUses w x119 q122 (S.rd o128.rn) x120 q123 (S.rd o129.rn) x121) fun ac w N q563 F564 S up o565 d566 => ?_)
      have hb567 := fun b h => (⟨(up b (hNN b h).1).1, (up b (hNN b h).1).2.trans (hNN b h).2⟩ : _ ∧ _)
      refine WD.sc S hb567 hBB fun hC => ?_
      have d568 := Disj.w d566 o14.sub
      have d569 := Disj.w d566 o15.sub
      have d570 := Disj.w d566 o16.sub
      have d571 := Disj.w d566 o36.sub
      have d572 := Disj.w d566 o84.sub
      have d573 := Disj.w d566 o105.sub
      have d574 := Disj.w d566 o128.sub
      have d575 := Disj.w d566 o129.sub
      have d576 := Disj.w d566 o157.sub
      replace o14 := o14.up up
      replace o15 := o15.up up
      replace o16 := o16.up up
      replace o36 := o36.up up
      replace o84 := o84.up up
      replace o105 := o105.up up
      replace o128 := o128.up up
      replace o129 := o129.up up
      replace o157 := o157.up up
      clear up d566
      exact S.wh hW [] hC fun _ S => hK527 _ _ q563 F564 _ _ _ S o14 o15 o16 o36 o84 o105 o128 o129 o157 o565 d568 d569 d570 d571 d572 d573 d574 d575 d576 hb567 hBB
     have hK577 ac w u N β (S : St Try.prog Try.f4.ntmps w0 NoB u N β (σ183.dl [10, 11, 12, 13, 14, 15, 17, 18] [(106, .v (B false)), (107, .v (GT.val x119 q122)), (108, .v (slv x120.length q123.1)), (109, .v (I x121)), (112, .v (slv x120.length q123.1)), (113, .v (I x121))] 8 []) ac w) (o14 : Ow w0 NoB u N F10 x2 q6) (o15 : Ow w0 NoB u N F11 x3 q7) (o16 : Ow w0 NoB u N F12 x4 q8) (o36 : Ow w0 NoB u N F35 Y1 q34) (o84 : Ow w0 NoB u N F82 x78 q80) (o105 : Ow w0 NoB u N F103 x99 q101) (o128 : Ow w0 NoB u N F125 x119 q122) (o129 : Ow w0 NoB u N F126 x120 q123) (o157 : Ow w0 NoB u N F156 x154 q155) (hNN : NN N0 u0 N u) (hBB : BB σ183.bx.length β0 β) : W 29 (mkL 53 [0, 1, 2, 3, 4, 5, 6, 7, 8, 9, 10, 11, 12, 13, 14, 15, 16, 17, 18, 19, 20, 21, 24, 25]) ac w := by
      refine ox2 hW 22 23 ?_ (S.wq hW hNN hBB [] .nil fun _ _ _ S hB => hK562 _ _ _ _ _ S o14 o15 o16 o36 o84 o105 o128 o129 o157 hNN hB)
      refine id (S.k1 110 (c_impl_ForgetUses w x119 q122 (S.rd o128.rn) x120 q123 (S.rd o129.rn) x121) fun ac w N q578 F579 S up o580 d581 => ?_)
      have hb582 := fun b h => (⟨(up b (hNN b h).1).1, (up b (hNN b h).1).2.trans (hNN b h).2⟩ : _ ∧ _)
      refine WD.sc S hb582 hBB fun hC => ?_
      have d583 := Disj.w d581 o14.sub
      have d584 := Disj.w d581 o15.sub
      have d585 := Disj.w d581 o16.sub
      have d586 := Disj.w d581 o36.sub
      have d587 := Disj.w d581 o84.sub
      have d588 := Disj.w d581 o105.sub
      have d589 := Disj.w d581 o128.sub
      have d590 := Disj.w d581 o129.sub
      have d591 := Disj.w d581 o157.sub
      replace o14 := o14.up up
      replace o15 := o15.up up
      replace o16 := o16.up up
      replace o36 := o36.up up
      replace o84 := o84.up up
      replace o105 := o105.up up
      replace o128 := o128.up up
      replace o129 := o129.up up
      replace o157 := o157.up up
      clear up d581
      exact S.wh hW [] hC fun _ S => hK552 _ _ q578 F579 _ _ _ S o14 o15 o16 o36 o84 o105 o128 o129 o157 o580 d583 d584 d585 d586 d587 d588 d589 d590 d591 hb582 hBB
     have hK592 ac w u N β (S : St Try.prog Try.f4.ntmps w0 NoB u N β (σ183.dl [10, 11, 12, 13, 14, 15, 17, 18] [(106, .v (B false)), (108, .v (slv x120.length q123.1)), (109, .v (I x121)), (111, .v (GT.val x119 q122)), (112, .v (slv x120.length q123.1)), (113, .v (I x121))] 8 []) ac w) (o14 : Ow w0 NoB u N F10 x2 q6) (o15 : Ow w0 NoB u N F11 x3 q7) (o16 : Ow w0 NoB u N F12 x4 q8) (o36 : Ow w0 NoB u N F35 Y1 q34) (o84 : Ow w0 NoB u N F82 x78 q80) (o105 : Ow w0 NoB u N F103 x99 q101) (o128 : Ow w0 NoB u N F125 x119 q122) (o129 : Ow w0 NoB u N F126 x120 q123) (o157 : Ow w0 NoB u N F156 x154 q155) (hNN : NN N0 u0 N u) (hBB : BB σ183.bx.length β0 β) : W 29 (mkL 53 [0, 1, 2, 3, 4, 5, 6, 7, 8, 9, 10, 11, 12, 13, 14, 15, 16, 17, 18, 20, 21, 23, 24, 25]) ac w := by
      exact ox1 hW 19 (S.wq hW hNN hBB [] .nil fun _ _ _ S hB => hK562 _ _ _ _ _ S o14 o15 o16 o36 o84 o105 o128 o129 o157 hNN hB)
     have hK593 ac w u N β (S : St Try.prog Try.f4.ntmps w0 NoB u N β (σ183.dl [10, 11, 12, 13, 14, 15, 17, 18] [(106, .v (B false)), (108, .v (slv x120.length q123.1)), (109, .v (I x121)), (112, .v (slv x120.length q123.1)), (113, .v (I x121))] 8 []) ac w) (o14 : Ow w0 NoB u N F10 x2 q6) (o15 : Ow w0 NoB u N F11 x3 q7) (o16 : Ow w0 NoB u N F12 x4 q8) (o36 : Ow w0 NoB u N F35 Y1 q34) (o84 : Ow w0 NoB u N F82 x78 q80) (o105 : Ow w0 NoB u N F103 x99 q101) (o128 : Ow w0 NoB u N F125 x119 q122) (o129 : Ow w0 NoB u N F126 x120 q123) (o157 : Ow w0 NoB u N F156 x154 q155) (hNN : NN N0 u0 N u) (hBB : BB σ183.bx.length β0 β) : W 30 (mkL 53 [0, 1, 2, 3, 4, 5, 6, 7, 8, 9, 10, 11, 12, 13, 14, 15, 16, 17, 18, 20, 21, 24, 25]) ac w := by
      exact ox2 hW 19 23 (S.wq hW hNN hBB [] .nil fun _ _ _ S hB => hK577 _ _ _ _ _ S o14 o15 o16 o36 o84 o105 o128 o129 o157 hNN hB) (S.wq hW hNN hBB [] .nil fun _ _ _ S hB => hK592 _ _ _ _ _ S o14 o15 o16 o36 o84 o105 o128 o129 o157 hNN hB)
     have hK594 ac w q231 F232 q199 F200 u N β (S : St Try.prog Try.f4.ntmps w0 NoB u N β (σ183.dl [10, 11, 12, 13, 14, 15] [(96, .v (B false)), (99, .v (GT.val (f_forget x99 x100) q199)), (102, .v (GT.val (f_forget x99 x100) q231))] 8 []) ac w) (o14 : Ow w0 NoB u N F10 x2 q6) (o15 : Ow w0 NoB u N F11 x3 q7) (o16 : Ow w0 NoB u N F12 x4 q8) (o36 : Ow w0 NoB u N F35 Y1 q34) (o84 : Ow w0 NoB u N F82 x78 q80) (o105 : Ow w0 NoB u N F103 x99 q101) (o128 : Ow w0 NoB u N F125 x119 q122) (o129 : Ow w0 NoB u N F126 x120 q123) (o157 : Ow w0 NoB u N F156 x154 q155) (o230 : Ow w0 NoB u N F232 (f_forget x99 x100) q231) (o198 : Ow w0 NoB u N F200 (f_forget x99 x100) q199) (d595 : Disj F10 F232) (d596 : Disj F10 F200) (d597 : Disj F11 F232) (d598 : Disj F11 F200) (d599 : Disj F12 F232) (d600 : Disj F12 F200) (d601 : Disj F35 F232) (d602 : Disj F35 F200) (d603 : Disj F82 F232) (d604 : Disj F82 F200) (d605 : Disj F103 F232) (d606 : Disj F103 F200) (d607 : Disj F125 F232) (d608 : Disj F125 F200) (d609 : Disj F126 F232) (d610 : Disj F126 F200) (d611 : Disj F156 F232) (d612 : Disj F156 F200) (d613 : Disj F232 F200) (hNN : NN N0 u0 N u) (hBB : BB σ183.bx.length β0 β) : W 38 (mkL 53 [0, 1, 2, 3, 4, 5, 6, 7, 8, 9, 10, 11, 12, 13, 14]) ac w := by
      exact ox1 hW 15 (S.wq hW hNN hBB [16, 17, 18, 20, 21, 24, 25] (.cons (Q_call fun w hw => c_laws_sameKept w (f_forget x99 x100) q199 (rd_of o198.rn hw) (f_forget x99 x100) q231 (rd_of o230.rn hw) (by (first | rfl | (subst_vars; rfl)))) .nil) fun _ _ _ S hB => hK593 _ _ _ _ _ S o14 o15 o16 o36 o84 o105 o128 o129 o157 hNN hB)
     have hK614 ac w q199 F200 u N β (S : St Try.prog Try.f4.ntmps w0 NoB u N β (σ183.dl [10, 11, 12, 13, 14, 15] [(96, .v (B false)), (99, .v (GT.val (f_forget x99 x100) q199)), (100, .v (GT.val x99 q101)), (101, .v (I x100))] 8 []) ac w) (o14 : Ow w0 NoB u N F10 x2 q6) (o15 : Ow w0 NoB u N F11 x3 q7) (o16 : Ow w0 NoB u N F12 x4 q8) (o36 : Ow w0 NoB u N F35 Y1 q34) (o84 : Ow w0 NoB u N F82 x78 q80) (o105 : Ow w0 NoB u N F103 x99 q101) (o128 : Ow w0 NoB u N F125 x119 q122) (o129 : Ow w0 NoB u N F126 x120 q123) (o157 : Ow w0 NoB u N F156 x154 q155) (o198 : Ow w0 NoB u N F200 (f_forget x99 x100) q199) (d615 : Disj F10 F200) (d616 : Disj F11 F200) (d617 : Disj F12 F200) (d618 : Disj F35 F200) (d619 : Disj F82 F200) (d620 : Disj F103 F200) (d621 : Disj F125 F200) (d622 : Disj F126 F200) (d623 : Disj F156 F200) (hNN : NN N0 u0 N u) (hBB : BB σ183.bx.length β0 β) : W 39 (mkL 53 [0, 1, 2, 3, 4, 5, 6, 7, 8, 9, 10, 11, 12, 13]) ac w := by
      refine ox1 hW 14 ?_
      refine id (S.k1 102 (c_spec_Forget w x99 q101 (S.rd o105.rn) x100) fun ac w N q624 F625 S up o626 d627 => ?_)
      have hb628 := fun b h => (⟨(up b (hNN b h).1).1, (up b (hNN b h).1).2.trans (hNN b h).2⟩ : _ ∧ _)
      refine WD.sc S hb628 hBB fun hC => ?_
      have d629 := Disj.w d627 o14.sub
      have d630 := Disj.w d627 o15.sub
      have d631 := Disj.w d627 o16.sub
      have d632 := Disj.w d627 o36.sub
      have d633 := Disj.w d627 o84.sub
      have d634 := Disj.w d627 o105.sub
      have d635 := Disj.w d627 o128.sub
      have d636 := Disj.w d627 o129.sub
      have d637 := Disj.w d627 o157.sub
      have d638 := Disj.w d627 o198.sub
      replace o14 := o14.up up
      replace o15 := o15.up up
      replace o16 := o16.up up
      replace o36 := o36.up up
      replace o84 := o84.up up
      replace o105 := o105.up up
      replace o128 := o128.up up
      replace o129 := o129.up up
      replace o157 := o157.up up
      replace o198 := o198.up up
      clear up d627
      exact S.wh hW [] hC fun _ S => hK594 _ _ q624 F625 q199 F200 _ _ _ S o14 o15 o16 o36 o84 o105 o128 o129 o157 o626 o198 d629 d615 d630 d616 d631 d617 d632 d618 d633 d619 d634 d620 d635 d621 d636 d622 d637 d623 (Disj.symm d638) hb628 hBB
     have hK639 ac w q199 F200 u N β (S : St Try.prog Try.f4.ntmps w0 NoB u N β (σ183.dl [10, 11, 12, 13, 15] [(96, .v (B false)), (99, .v (GT.val (f_forget x99 x100) q199)), (101, .v (I x100))] 8 []) ac w) (o14 : Ow w0 NoB u N F10 x2 q6) (o15 : Ow w0 NoB u N F11 x3 q7) (o16 : Ow w0 NoB u N F12 x4 q8) (o36 : Ow w0 NoB u N F35 Y1 q34) (o84 : Ow w0 NoB u N F82 x78 q80) (o105 : Ow w0 NoB u N F103 x99 q101) (o128 : Ow w0 NoB u N F125 x119 q122) (o129 : Ow w0 NoB u N F126 x120 q123) (o157 : Ow w0 NoB u N F156 x154 q155) (o198 : Ow w0 NoB u N F200 (f_forget x99 x100) q199) (d640 : Disj F10 F200) (d641 : Disj F11 F200) (d642 : Disj F12 F200) (d643 : Disj F35 F200) (d644 : Disj F82 F200) (d645 : Disj F103 F200) (d646 : Disj F125 F200) (d647 : Disj F126 F200) (d648 : Disj F156 F200) (hNN : NN N0 u0 N u) (hBB : BB σ183.bx.length β0 β) : W 40 (mkL 53 [0, 1, 2, 3, 4, 5, 6, 7, 8, 9, 10, 11, 13]) ac w := by
      exact ox1 hW 12 (S.wq hW hNN hBB [] .nil fun _ _ _ S hB => hK614 _ _ q199 F200 _ _ _ S o14 o15 o16 o36 o84 o105 o128 o129 o157 o198 d640 d641 d642 d643 d644 d645 d646 d647 d648 hNN hB)
     have hK649 ac w u N β (S : St Try.prog Try.f4.ntmps w0 NoB u N β (σ183.dl [10, 11, 12, 13, 14, 15] [(96, .v (B false)), (97, .v (GT.val x99 q101)), (98, .v (I x100)), (100, .v (GT.val x99 q101)), (101, .v (I x100))] 8 []) ac w) (o14 : Ow w0 NoB u N F10 x2 q6) (o15 : Ow w0 NoB u N F11 x3 q7) (o16 : Ow w0 NoB u N F12 x4 q8) (o36 : Ow w0 NoB u N F35 Y1 q34) (o84 : Ow w0 NoB u N F82 x78 q80) (o105 : Ow w0 NoB u N F103 x99 q101) (o128 : Ow w0 NoB u N F125 x119 q122) (o129 : Ow w0 NoB u N F126 x120 q123) (o157 : Ow w0 NoB u N F156 x154 q155) (hNN : NN N0 u0 N u) (hBB : BB σ183.bx.length β0 β) : W 40 (mkL 53 [0, 1, 2, 3, 4, 5, 6, 7, 8, 9, 10, 12, 13]) ac w := by
      refine ox1 hW 11 ?_
      refine id (S.k1 99 (c_impl_Forget w x99 q101 (S.rd o105.rn) x100) fun ac w N q650 F651 S up o652 d653 => ?_)
      have hb654 := fun b h => (⟨(up b (hNN b h).1).1, (up b (hNN b h).1).2.trans (hNN b h).2⟩ : _ ∧ _)
      refine WD.sc S hb654 hBB fun hC => ?_
      have d655 := Disj.w d653 o14.sub
      have d656 := Disj.w d653 o15.sub
      have d657 := Disj.w d653 o16.sub
      have d658 := Disj.w d653 o36.sub
      have d659 := Disj.w d653 o84.sub
      have d660 := Disj.w d653 o105.sub
      have d661 := Disj.w d653 o128.sub
      have d662 := Disj.w d653 o129.sub
      have d663 := Disj.w d653 o157.sub
      replace o14 := o14.up up
      replace o15 := o15.up up
      replace o16 := o16.up up
      replace o36 := o36.up up
      replace o84 := o84.up up
      replace o105 := o105.up up
      replace o128 := o128.up up
      replace o129 := o129.up up
      replace o157 := o157.up up
      clear up d653
      exact S.wh hW [] hC fun _ S => hK614 _ _ q650 F651 _ _ _ S o14 o15 o16 o36 o84 o105 o128 o129 o157 o652 d655 d656 d657 d658 d659 d660 d661 d662 d663 hb654 hBB
     have hK664 ac w u N β (S : St Try.prog Try.f4.ntmps w0 NoB u N β (σ183.dl [10, 11, 12, 13, 15] [(96, .v (B false)), (97, .v (GT.val x99 q101)), (98, .v (I x100)), (101, .v (I x100))] 8 []) ac w) (o14 : Ow w0 NoB u N F10 x2 q6) (o15 : Ow w0 NoB u N F11 x3 q7) (o16 : Ow w0 NoB u N F12 x4 q8) (o36 : Ow w0 NoB u N F35 Y1 q34) (o84 : Ow w0 NoB u N F82 x78 q80) (o105 : Ow w0 NoB u N F103 x99 q101) (o128 : Ow w0 NoB u N F125 x119 q122) (o129 : Ow w0 NoB u N F126 x120 q123) (o157 : Ow w0 NoB u N F156 x154 q155) (hNN : NN N0 u0 N u) (hBB : BB σ183.bx.length β0 β) : W 41 (mkL 53 [0, 1, 2, 3, 4, 5, 6, 7, 8, 9, 10, 13]) ac w := by
      refine ox2 hW 11 12 ?_ (S.wq hW hNN hBB [] .nil fun _ _ _ S hB => hK649 _ _ _ _ _ S o14 o15 o16 o36 o84 o105 o128 o129 o157 hNN hB)
      refine id (S.k1 99 (c_impl_Forget w x99 q101 (S.rd o105.rn) x100) fun ac w N q665 F666 S up o667 d668 => ?_)
      have hb669 := fun b h => (⟨(up b (hNN b h).1).1, (up b (hNN b h).1).2.trans (hNN b h).2⟩ : _ ∧ _)
      refine WD.sc S hb669 hBB fun hC => ?_
      have d670 := Disj.w d668 o14.sub
      have d671 := Disj.w d668 o15.sub
      have d672 := Disj.w d668 o16.sub
      have d673 := Disj.w d668 o36.sub
      have d674 := Disj.w d668 o84.sub
      have d675 := Disj.w d668 o105.sub
      have d676 := Disj.w d668 o128.sub
      have d677 := Disj.w d668 o129.sub
      have d678 := Disj.w d668 o157.sub
      replace o14 := o14.up up
      replace o15 := o15.up up
      replace o16 := o16.up up
      replace o36 := o36.up up
      replace o84 := o84.up up
      replace o105 := o105.up up
      replace o128 := o128.up up
      replace o129 := o129.up up
      replace o157 := o157.up up
      clear up d668
      exact S.wh hW [] hC fun _ S => hK639 _ _ q665 F666 _ _ _ S o14 o15 o16 o36 o84 o105 o128 o129 o157 o667 d670 d671 d672 d673 d674 d675 d676 d677 d678 hb669 hBB
     have hK679 ac w u N β (S : St Try.prog Try.f4.ntmps w0 NoB u N β (σ183.dl [10, 11, 12, 13, 15] [(96, .v (B false)), (98, .v (I x100)), (100, .v (GT.val x99 q101)), (101, .v (I x100))] 8 []) ac w) (o14 : Ow w0 NoB u N F10 x2 q6) (o15 : Ow w0 NoB u N F11 x3 q7) (o16 : Ow w0 NoB u N F12 x4 q8) (o36 : Ow w0 NoB u N F35 Y1 q34) (o84 : Ow w0 NoB u N F82 x78 q80) (o105 : Ow w0 NoB u N F103 x99 q101) (o128 : Ow w0 NoB u N F125 x119 q122) (o129 : Ow w0 NoB u N F126 x120 q123) (o157 : Ow w0 NoB u N F156 x154 q155) (hNN : NN N0 u0 N u) (hBB : BB σ183.bx.length β0 β) : W 41 (mkL 53 [0, 1, 2, 3, 4, 5, 6, 7, 8, 10, 12, 13]) ac w := by
      exact ox1 hW 9 (S.wq hW hNN hBB [] .nil fun _ _ _ S hB => hK649 _ _ _ _ _ S o14 o15 o16 o36 o84 o105 o128 o129 o157 hNN hB)
     have hK680 ac w u N β (S : St Try.prog Try.f4.ntmps w0 NoB u N β (σ183.dl [10, 11, 12, 13, 15] [(96, .v (B false)), (98, .v (I x100)), (101, .v (I x100))] 8 []) ac w) (o14 : Ow w0 NoB u N F10 x2 q6) (o15 : Ow w0 NoB u N F11 x3 q7) (o16 : Ow w0 NoB u N F12 x4 q8) (o36 : Ow w0 NoB u N F35 Y1 q34) (o84 : Ow w0 NoB u N F82 x78 q80) (o105 : Ow w0 NoB u N F103 x99 q101) (o128 : Ow w0 NoB u N F125 x119 q122) (o129 : Ow w0 NoB u N F126 x120 q123) (o157 : Ow w0 NoB u N F156 x154 q155) (hNN : NN N0 u0 N u) (hBB : BB σ183.bx.length β0 β) : W 42 (mkL 53 [0, 1, 2, 3, 4, 5, 6, 7, 8, 10, 13]) ac w := by
      exact ox2 hW 9 12 (S.wq hW hNN hBB [] .nil fun _ _ _ S hB => hK664 _ _ _ _ _ S o14 o15 o16 o36 o84 o105 o128 o129 o157 hNN hB) (S.wq hW hNN hBB [] .nil fun _ _ _ S hB => hK679 _ _ _ _ _ S o14 o15 o16 o36 o84 o105 o128 o129 o157 hNN hB)
     rw [hW]
     exact S.who hW [3, 4, 5, 6, 7, 8, 10, 13] [(3, false), (8, false)] (fun _ => S.rcx) (.cons h177 (.cons h178 .nil)) fun _ S => hK680 _ _ _ _ _ S o14 o15 o16 o36 o84 o105 o128 o129 o157 (fun _ h => ⟨h, rfl⟩) (fun _ _ => rfl)
    clear S o14 o15 o16 o36 o84 o105 o128 o129 o157
    rintro ac w ⟨u, N, β, S, o14, o15, o16, o36, o84, o105, o128, o157⟩
    refine S.ex fun S => ?_
    refine S.gb 14 (.cons (Q_call fun w hw => c_spec_KeptOk w x2 q6 (rd_of o14.rn hw) x3 q7 (rd_of o15.rn hw) x4 q8 (rd_of o16.rn hw)) .nil) (!(f_keptOk x2 x3 x4)) (fun ac w β h681 S => ?_) (fun ac w β h681 S => ?_)
    ·have h682 := not_t h681
     obtain ⟨Y2, hT2⟩ : ∃ z, z = f_keptNew 4 := ⟨_, rfl⟩
     refine S.go 3 .nil fun ac w β S => S.K1 (r := Y2) (d := 146) (by rw [hT2]; exact c_impl_KeptNew w 4) fun ac w N q683 F684 S up o685 d686 => ?_
     clear up d686
     exact S.gf 7 .nil [B ((Y2.known.length : Int) == 4)] (retB k0_laws_FnKept)
    have h687 := not_f h681
    refine S.go 17 (.cons (Q_call fun w hw => c_impl_Ask w Y1 q34 (rd_of o36.rn hw) x5) .nil) fun ac w β S => ?_
    refine drw ?_
    rcases Bool.eq_false_or_eq_true (f_keptOk Y1 x3 x4) with h689 | h689
    ·rcases Bool.eq_false_or_eq_true (f_keptOk (f_forget x2 x5) x3 x4) with h690 | h690
     ·rcases Bool.eq_false_or_eq_true (f_keptOk (f_forgetAll x2) x3 x4) with h691 | h691
      ·rcases Bool.eq_false_or_eq_true ((f_knownIn (f_forgetAll x2)) == 0) with h692 | h692
       ·have g693 : (f_knownIn (f_forgetAll x2)) = 0 := eq_of_beq h692
        rcases Bool.eq_false_or_eq_true (!(f_ask Y1 x5).2) with h694 | h694
        ·have h695 := not_t h694
         let σ696 : Sy := ⟨[(3, .p 0 0), (4, .v (slv x3.length q7.1)), (5, .v (slv x4.length q8.1)), (6, .v (I x5)), (7, .p 1 0), (21, .p 2 0), (22, .v (B (f_ask Y1 x5).2))], [GT.cells x2 q6, GT.cells Y1 q34, GT.cells (f_ask Y1 x5).1 ()]⟩
         obtain ⟨u0, N0, β0, S, o14, o15, o16, o36⟩ : ∃ u0 N0 β0, St Try.prog Try.f4.ntmps w0 NoB u0 N0 β0 σ696 ac w ∧ Ow w0 NoB u0 N0 F10 x2 q6 ∧ Ow w0 NoB u0 N0 F11 x3 q7 ∧ Ow w0 NoB u0 N0 F12 x4 q8 ∧ Ow w0 NoB u0 N0 F35 Y1 q34 := ⟨_, _, _, S.z, o14, o15, o16, o36⟩
         refine wp_region_cut (fun ac w => ∃  u N β, St Try.prog Try.f4.ntmps w0 NoB u N β (σ696.dl [3, 4, 5, 6, 7, 21, 22] [(2, .v (B true))] 0 []) ac w ∧ Ow w0 NoB u N F10 x2 q6 ∧ Ow w0 NoB u N F35 Y1 q34) ?_ ?_
         ·refine S.draw0 (f := 39) 39 (by kernel_rfl) (by kernel_rfl) fun w S => ?_
          refine S.hq 0 [] [] [(156, .v (GT.val Y1 q34))] .nil fun ac S => ?_
          refine S.hq 1 [] [] [(157, .v (slv x3.length q7.1))] .nil fun ac S => ?_
          refine S.hq 2 [] [] [(158, .v (slv x4.length q8.1))] .nil fun ac S => ?_
          refine WD.nameW fun W hW => ?_
          refine WD.castW (l' := mkL 39 [0, 1, 2]) (by kernel_rfl) ?_
          have hK734 ac w u N β (S : St Try.prog Try.f4.ntmps w0 NoB u N β (σ696.dl [3, 4, 5, 6, 7, 21, 22] [(2, .v (B true))] 3 []) ac w) (o14 : Ow w0 NoB u N F10 x2 q6) (o36 : Ow w0 NoB u N F35 Y1 q34) (hNN : NN N0 u0 N u) (hBB : BB σ696.bx.length β0 β) : W 0 (mkL 39 [0, 1, 2, 3, 4, 5, 6, 7, 8, 9, 10, 11, 12, 13, 14, 15, 16, 17, 18, 19, 20, 21, 22, 23, 24, 25, 26, 27, 28, 29, 30, 31, 32, 33, 34, 35, 36, 37, 38]) ac w := by
           exact od hW ⟨rfl, _, _, _, S.z, o14, o36⟩
          have hK735 ac w u N β (S : St Try.prog Try.f4.ntmps w0 NoB u N β (σ696.dl [3, 4, 5, 6, 7, 21, 22] [(181, .v (B true)), (184, .v (B true)), (185, .v undef), (188, .v undef), (189, .v undef)] 3 []) ac w) (o14 : Ow w0 NoB u N F10 x2 q6) (o36 : Ow w0 NoB u N F35 Y1 q34) (hNN : NN N0 u0 N u) (hBB : BB σ696.bx.length β0 β) : W 5 (mkL 39 [0, 1, 2, 3, 4, 5, 6, 7, 8, 9, 10, 11, 12, 13, 14, 15, 16, 17, 18, 19, 20, 21, 22, 23, 24, 25, 26, 27, 28, 29, 30, 31, 32, 33]) ac w := by
           exact ox1 hW 34 (S.wq hW hNN hBB [35, 36, 37, 38] .nil fun _ _ _ S hB => hK734 _ _ _ _ _ S o14 o36 hNN hB)
          have hK736 ac w u N β (S : St Try.prog Try.f4.ntmps w0 NoB u N β (σ696.dl [3, 4, 5, 6, 7, 22] [(181, .v (B true)), (184, .v (B true)), (190, .v undef)] 3 []) ac w) (o14 : Ow w0 NoB u N F10 x2 q6) (o36 : Ow w0 NoB u N F35 Y1 q34) (hNN : NN N0 u0 N u) (hBB : BB σ696.bx.length β0 β) : W 5 (mkL 39 [0, 1, 2, 3, 4, 5, 6, 7, 8, 9, 10, 11, 12, 13, 14, 15, 16, 17, 18, 19, 20, 21, 22, 23, 24, 25, 26, 27, 28, 30, 31, 32, 33, 34]) ac w := by
           exact ox1 hW 29 (S.wq hW hNN hBB [35, 36, 37, 38] .nil fun _ _ _ S hB => hK734 _ _ _ _ _ S o14 o36 hNN hB)
          have hK737 ac w u N β (S : St Try.prog Try.f4.ntmps w0 NoB u N β (σ696.dl [3, 4, 5, 6, 7, 21, 22] [(181, .v (B true)), (184, .v (B true)), (185, .v undef), (186, .v undef), (187, .v undef), (189, .v undef)] 3 []) ac w) (o14 : Ow w0 NoB u N F10 x2 q6) (o36 : Ow w0 NoB u N F35 Y1 q34) (hNN : NN N0 u0 N u) (hBB : BB σ696.bx.length β0 β) : W 6 (mkL 39 [0, 1, 2, 3, 4, 5, 6, 7, 8, 9, 10, 11, 12, 13, 14, 15, 16, 17, 18, 19, 20, 21, 22, 23, 24, 25, 26, 27, 28, 29, 30, 31, 33]) ac w := by
           exact ox1 hW 32 (S.wq hW hNN hBB [] .nil fun _ _ _ S hB => hK735 _ _ _ _ _ S o14 o36 hNN hB)
          have hK738 ac w u N β (S : St Try.prog Try.f4.ntmps w0 NoB u N β (σ696.dl [3, 4, 5, 6, 7, 22] [(181, .v (B true)), (184, .v (B true)), (188, .v undef), (189, .v undef)] 3 []) ac w) (o14 : Ow w0 NoB u N F10 x2 q6) (o36 : Ow w0 NoB u N F35 Y1 q34) (hNN : NN N0 u0 N u) (hBB : BB σ696.bx.length β0 β) : W 6 (mkL 39 [0, 1, 2, 3, 4, 5, 6, 7, 8, 9, 10, 11, 12, 13, 14, 15, 16, 17, 18, 19, 20, 21, 22, 23, 24, 25, 26, 27, 28, 30, 31, 32, 33]) ac w := by
           exact ox2 hW 29 34 (S.wq hW hNN hBB [] .nil fun _ _ _ S hB => hK735 _ _ _ _ _ S o14 o36 hNN hB) (S.wq hW hNN hBB [] .nil fun _ _ _ S hB => hK736 _ _ _ _ _ S o14 o36 hNN hB)
          have hK739 ac w u N β (S : St Try.prog Try.f4.ntmps w0 NoB u N β (σ696.dl [3, 4, 5, 6, 7, 22] [(181, .v (B true)), (184, .v (B true)), (186, .v undef), (187, .v undef), (189, .v undef)] 3 []) ac w) (o14 : Ow w0 NoB u N F10 x2 q6) (o36 : Ow w0 NoB u N F35 Y1 q34) (hNN : NN N0 u0 N u) (hBB : BB σ696.bx.length β0 β) : W 7 (mkL 39 [0, 1, 2, 3, 4, 5, 6, 7, 8, 9, 10, 11, 12, 13, 14, 15, 16, 17, 18, 19, 20, 21, 22, 23, 24, 25, 26, 27, 28, 30, 31, 33]) ac w := by
           exact ox2 hW 29 32 (S.wq hW hNN hBB [] .nil fun _ _ _ S hB => hK737 _ _ _ _ _ S o14 o36 hNN hB) (S.wq hW hNN hBB [] .nil fun _ _ _ S hB => hK738 _ _ _ _ _ S o14 o36 hNN hB)
          have hK740 ac w q731 F732 u N β (S : St Try.prog Try.f4.ntmps w0 NoB u N β (σ696.dl [3, 7] [(175, .v (B true)), (177, .v (GT.val (f_forgetAll x2) q731))] 3 []) ac w) (o14 : Ow w0 NoB u N F10 x2 q6) (o15 : Ow w0 NoB u N F11 x3 q7) (o16 : Ow w0 NoB u N F12 x4 q8) (o36 : Ow w0 NoB u N F35 Y1 q34) (o730 : Ow w0 NoB u N F732 (f_forgetAll x2) q731) (d741 : Disj F10 F732) (d742 : Disj F11 F732) (d743 : Disj F12 F732) (d744 : Disj F35 F732) (hNN : NN N0 u0 N u) (hBB : BB σ696.bx.length β0 β) : W 17 (mkL 39 [0, 1, 2, 3, 4, 5, 6, 7, 8, 9, 10, 11, 12, 13, 14, 15, 16, 17, 18, 19, 20, 21]) ac w := by
           have b745 := knownIn_bd (f_forgetAll x2)
           exact ox1 hW 22 (S.wqo hW hNN hBB [23, 24, 25, 26, 27, 28, 30, 31, 33] [(25, true), (28, true)] (.cons (Q_call fun w hw => c_impl_KnownIn w (f_forgetAll x2) q731 (rd_of o730.rn hw)) .nil) (.cons h692 (.cons h694 .nil)) fun _ _ _ S hB => hK739 _ _ _ _ _ S o14 o36 hNN hB)
          have hK746 ac w u N β (S : St Try.prog Try.f4.ntmps w0 NoB u N β (σ696.dl [3, 7] [(175, .v (B true)), (176, .v (GT.val x2 q6))] 3 []) ac w) (o14 : Ow w0 NoB u N F10 x2 q6) (o15 : Ow w0 NoB u N F11 x3 q7) (o16 : Ow w0 NoB u N F12 x4 q8) (o36 : Ow w0 NoB u N F35 Y1 q34) (hNN : NN N0 u0 N u) (hBB : BB σ696.bx.length β0 β) : W 18 (mkL 39 [0, 1, 2, 3, 4, 5, 6, 7, 8, 9, 10, 11, 12, 13, 14, 15, 16, 17, 18, 19, 20]) ac w := by
           refine ox1 hW 21 ?_
           refine id (S.k1 177 (c_impl_ForgetAll w x2 q6 (S.rd o14.rn)) fun ac w N q747 F748 S up o749 d750 => ?_)
           have hb751 := fun b h => (⟨(up b (hNN b h).1).1, (up b (hNN b h).1).2.trans (hNN b h).2⟩ : _ ∧ _)
           refine WD.sc S hb751 hBB fun hC => ?_
           have d752 := Disj.w d750 o14.sub
           have d753 := Disj.w d750 o15.sub
           have d754 := Disj.w d750 o16.sub
           have d755 := Disj.w d750 o36.sub
           replace o14 := o14.up up
           replace o15 := o15.up up
           replace o16 := o16.up up
           replace o36 := o36.up up
           clear up d750
           exact S.wh hW [] hC fun _ S => hK740 _ _ q747 F748 _ _ _ S o14 o15 o16 o36 o749 d752 d753 d754 d755 hb751 hBB
          have hK756 ac w u N β (S : St Try.prog Try.f4.ntmps w0 NoB u N β (σ696.dl [7] [(175, .v (B true))] 3 []) ac w) (o14 : Ow w0 NoB u N F10 x2 q6) (o15 : Ow w0 NoB u N F11 x3 q7) (o16 : Ow w0 NoB u N F12 x4 q8) (o36 : Ow w0 NoB u N F35 Y1 q34) (hNN : NN N0 u0 N u) (hBB : BB σ696.bx.length β0 β) : W 19 (mkL 39 [0, 1, 2, 3, 4, 5, 6, 7, 8, 9, 10, 11, 12, 13, 14, 15, 16, 17, 18, 19]) ac w := by
           exact ox1 hW 20 (S.wq hW hNN hBB [] .nil fun _ _ _ S hB => hK746 _ _ _ _ _ S o14 o15 o16 o36 hNN hB)
          have hK757 ac w q719 F720 u N β (S : St Try.prog Try.f4.ntmps w0 NoB u N β (σ696.dl [7] [(168, .v (B true)), (170, .v (GT.val (f_forgetAll x2) q719)), (171, .v (slv x3.length q7.1)), (172, .v (slv x4.length q8.1))] 3 []) ac w) (o14 : Ow w0 NoB u N F10 x2 q6) (o15 : Ow w0 NoB u N F11 x3 q7) (o16 : Ow w0 NoB u N F12 x4 q8) (o36 : Ow w0 NoB u N F35 Y1 q34) (o718 : Ow w0 NoB u N F720 (f_forgetAll x2) q719) (d758 : Disj F10 F720) (d759 : Disj F11 F720) (d760 : Disj F12 F720) (d761 : Disj F35 F720) (hNN : NN N0 u0 N u) (hBB : BB σ696.bx.length β0 β) : W 22 (mkL 39 [0, 1, 2, 3, 4, 5, 6, 7, 8, 9, 10, 11, 12, 13, 14, 15, 16]) ac w := by
           exact ox1 hW 17 (S.wqo hW hNN hBB [18, 19] [(19, true)] (.cons (Q_call fun w hw => c_impl_KeptOk w (f_forgetAll x2) q719 (rd_of o718.rn hw) x3 q7 (rd_of o15.rn hw) x4 q8 (rd_of o16.rn hw)) .nil) (.cons h691 .nil) fun _ _ _ S hB => hK756 _ _ _ _ _ S o14 o15 o16 o36 hNN hB)
          have hK762 ac w u N β (S : St Try.prog Try.f4.ntmps w0 NoB u N β (σ696.dl [7] [(168, .v (B true)), (169, .v (GT.val x2 q6)), (171, .v (slv x3.length q7.1)), (172, .v (slv x4.length q8.1))] 3 []) ac w) (o14 : Ow w0 NoB u N F10 x2 q6) (o15 : Ow w0 NoB u N F11 x3 q7) (o16 : Ow w0 NoB u N F12 x4 q8) (o36 : Ow w0 NoB u N F35 Y1 q34) (hNN : NN N0 u0 N u) (hBB : BB σ696.bx.length β0 β) : W 23 (mkL 39 [0, 1, 2, 3, 4, 5, 6, 7, 8, 9, 10, 11, 12, 13, 15, 16]) ac w := by
           refine ox1 hW 14 ?_
           refine id (S.k1 170 (c_impl_ForgetAll w x2 q6 (S.rd o14.rn)) fun ac w N q763 F764 S up o765 d766 => ?_)
           have hb767 := fun b h => (⟨(up b (hNN b h).1).1, (up b (hNN b h).1).2.trans (hNN b h).2⟩ : _ ∧ _)
           refine WD.sc S hb767 hBB fun hC => ?_
           have d768 := Disj.w d766 o14.sub
           have d769 := Disj.w d766 o15.sub
           have d770 := Disj.w d766 o16.sub
           have d771 := Disj.w d766 o36.sub
           replace o14 := o14.up up
           replace o15 := o15.up up
           replace o16 := o16.up up
           replace o36 := o36.up up
           clear up d766
           exact S.wh hW [] hC fun _ S => hK757 _ _ q763 F764 _ _ _ S o14 o15 o16 o36 o765 d768 d769 d770 d771 hb767 hBB
          have hK772 ac w u N β (S : St Try.prog Try.f4.ntmps w0 NoB u N β (σ696.dl [7] [(168, .v (B true)), (171, .v (slv x3.length q7.1)), (172, .v (slv x4.length q8.1))] 3 []) ac w) (o14 : Ow w0 NoB u N F10 x2 q6) (o15 : Ow w0 NoB u N F11 x3 q7) (o16 : Ow w0 NoB u N F12 x4 q8) (o36 : Ow w0 NoB u N F35 Y1 q34) (hNN : NN N0 u0 N u) (hBB : BB σ696.bx.length β0 β) : W 24 (mkL 39 [0, 1, 2, 3, 4, 5, 6, 7, 8, 9, 10, 11, 12, 15, 16]) ac w := by
           exact ox1 hW 13 (S.wq hW hNN hBB [] .nil fun _ _ _ S hB => hK762 _ _ _ _ _ S o14 o15 o16 o36 hNN hB)
          have hK773 ac w q707 F708 u N β (S : St Try.prog Try.f4.ntmps w0 NoB u N β (σ696.dl [7] [(160, .v (B true)), (163, .v (GT.val (f_forget x2 x5) q707)), (164, .v (slv x3.length q7.1)), (165, .v (slv x4.length q8.1))] 3 []) ac w) (o14 : Ow w0 NoB u N F10 x2 q6) (o15 : Ow w0 NoB u N F11 x3 q7) (o16 : Ow w0 NoB u N F12 x4 q8) (o36 : Ow w0 NoB u N F35 Y1 q34) (o706 : Ow w0 NoB u N F708 (f_forget x2 x5) q707) (d774 : Disj F10 F708) (d775 : Disj F11 F708) (d776 : Disj F12 F708) (d777 : Disj F35 F708) (hNN : NN N0 u0 N u) (hBB : BB σ696.bx.length β0 β) : W 29 (mkL 39 [0, 1, 2, 3, 4, 5, 6, 7, 8, 9]) ac w := by
           exact ox1 hW 10 (S.wqo hW hNN hBB [11, 12, 15, 16] [(12, true)] (.cons (Q_call fun w hw => c_impl_KeptOk w (f_forget x2 x5) q707 (rd_of o706.rn hw) x3 q7 (rd_of o15.rn hw) x4 q8 (rd_of o16.rn hw)) .nil) (.cons h690 .nil) fun _ _ _ S hB => hK772 _ _ _ _ _ S o14 o15 o16 o36 hNN hB)
          have hK778 ac w u N β (S : St Try.prog Try.f4.ntmps w0 NoB u N β (σ696.dl [7] [(160, .v (B true)), (161, .v (GT.val x2 q6)), (162, .v (I x5)), (164, .v (slv x3.length q7.1)), (165, .v (slv x4.length q8.1))] 3 []) ac w) (o14 : Ow w0 NoB u N F10 x2 q6) (o15 : Ow w0 NoB u N F11 x3 q7) (o16 : Ow w0 NoB u N F12 x4 q8) (o36 : Ow w0 NoB u N F35 Y1 q34) (hNN : NN N0 u0 N u) (hBB : BB σ696.bx.length β0 β) : W 30 (mkL 39 [0, 1, 2, 3, 4, 5, 6, 8, 9]) ac w := by
           refine ox1 hW 7 ?_
           refine id (S.k1 163 (c_impl_Forget w x2 q6 (S.rd o14.rn) x5) fun ac w N q779 F780 S up o781 d782 => ?_)
           have hb783 := fun b h => (⟨(up b (hNN b h).1).1, (up b (hNN b h).1).2.trans (hNN b h).2⟩ : _ ∧ _)
           refine WD.sc S hb783 hBB fun hC => ?_
           have d784 := Disj.w d782 o14.sub
           have d785 := Disj.w d782 o15.sub
           have d786 := Disj.w d782 o16.sub
           have d787 := Disj.w d782 o36.sub
           replace o14 := o14.up up
           replace o15 := o15.up up
           replace o16 := o16.up up
           replace o36 := o36.up up
           clear up d782
           exact S.wh hW [] hC fun _ S => hK773 _ _ q779 F780 _ _ _ S o14 o15 o16 o36 o781 d784 d785 d786 d787 hb783 hBB
          have hK788 ac w u N β (S : St Try.prog Try.f4.ntmps w0 NoB u N β (σ696.dl [7] [(160, .v (B true)), (162, .v (I x5)), (164, .v (slv x3.length q7.1)), (165, .v (slv x4.length q8.1))] 3 []) ac w) (o14 : Ow w0 NoB u N F10 x2 q6) (o15 : Ow w0 NoB u N F11 x3 q7) (o16 : Ow w0 NoB u N F12 x4 q8) (o36 : Ow w0 NoB u N F35 Y1 q34) (hNN : NN N0 u0 N u) (hBB : BB σ696.bx.length β0 β) : W 31 (mkL 39 [0, 1, 2, 3, 4, 6, 8, 9]) ac w := by
           exact ox1 hW 5 (S.wq hW hNN hBB [] .nil fun _ _ _ S hB => hK778 _ _ _ _ _ S o14 o15 o16 o36 hNN hB)
          have hNN : NN N0 u0 N0 u0 := fun b h => ⟨h, rfl⟩
          have hBB : BB σ696.bx.length β0 β0 := fun _ _ => rfl
          exact ox1 hW 3 (S.wqo hW hNN hBB [4, 6, 8, 9] [(4, true)] (.cons (Q_call fun w hw => c_impl_KeptOk w Y1 q34 (rd_of o36.rn hw) x3 q7 (rd_of o15.rn hw) x4 q8 (rd_of o16.rn hw)) .nil) (.cons h689 .nil) fun _ _ _ S hB => hK788 _ _ _ _ _ S o14 o15 o16 o36 hNN hB)
         clear S o14 o15 o16 o36
         rintro ac w ⟨u, N, β, S, o14, o36⟩
         refine S.ex fun S => ?_
         exact S.gf 2 .nil [B true] (retB k0_laws_FnKept)
        ·have h789 := not_f h694
         let σ790 : Sy := ⟨[(3, .p 0 0), (4, .v (slv x3.length q7.1)), (5, .v (slv x4.length q8.1)), (6, .v (I x5)), (7, .p 1 0), (21, .p 2 0), (22, .v (B (f_ask Y1 x5).2))], [GT.cells x2 q6, GT.cells Y1 q34, GT.cells (f_ask Y1 x5).1 ()]⟩
         obtain ⟨u0, N0, β0, S, o14, o15, o16, o36⟩ : ∃ u0 N0 β0, St Try.prog Try.f4.ntmps w0 NoB u0 N0 β0 σ790 ac w ∧ Ow w0 NoB u0 N0 F10 x2 q6 ∧ Ow w0 NoB u0 N0 F11 x3 q7 ∧ Ow w0 NoB u0 N0 F12 x4 q8 ∧ Ow w0 NoB u0 N0 F35 Y1 q34 := ⟨_, _, _, S.z, o14, o15, o16, o36⟩
         refine wp_region_cut (fun ac w => ∃  u N β, St Try.prog Try.f4.ntmps w0 NoB u N β (σ790.dl [3, 4, 5, 6, 7, 21, 22] [(2, .v (B (decide ((f_ask Y1 x5).1 = (f_composeSlot (f_slotAt x3 x5) x4)))))] 0 []) ac w ∧ Ow w0 NoB u N F10 x2 q6 ∧ Ow w0 NoB u N F35 Y1 q34) ?_ ?_
         ·refine S.draw0 (f := 39) 39 (by kernel_rfl) (by kernel_rfl) fun w S => ?_
          refine S.hq 0 [] [] [(156, .v (GT.val Y1 q34))] .nil fun ac S => ?_
          refine S.hq 1 [] [] [(157, .v (slv x3.length q7.1))] .nil fun ac S => ?_
          refine S.hq 2 [] [] [(158, .v (slv x4.length q8.1))] .nil fun ac S => ?_
          refine WD.nameW fun W hW => ?_
          refine WD.castW (l' := mkL 39 [0, 1, 2]) (by kernel_rfl) ?_
          have hK832 ac w u N β (S : St Try.prog Try.f4.ntmps w0 NoB u N β (σ790.dl [3, 4, 5, 6, 7, 21, 22] [(2, .v (B (decide ((f_ask Y1 x5).1 = (f_composeSlot (f_slotAt x3 x5) x4)))))] 3 []) ac w) (o14 : Ow w0 NoB u N F10 x2 q6) (o36 : Ow w0 NoB u N F35 Y1 q34) (hNN : NN N0 u0 N u) (hBB : BB σ790.bx.length β0 β) : W 0 (mkL 39 [0, 1, 2, 3, 4, 5, 6, 7, 8, 9, 10, 11, 12, 13, 14, 15, 16, 17, 18, 19, 20, 21, 22, 23, 24, 25, 26, 27, 28, 29, 30, 31, 32, 33, 34, 35, 36, 37, 38]) ac w := by
           exact od hW ⟨rfl, _, _, _, S.z, o14, o36⟩
          have hK833 ac w u N β (S : St Try.prog Try.f4.ntmps w0 NoB u N β (σ790.dl [3, 4, 5, 6, 7, 21, 22] [(181, .v (B true)), (184, .v (B false)), (185, .v (GT.val (f_ask Y1 x5).1 ())), (190, .v (GT.val (f_composeSlot (f_slotAt x3 x5) x4) ()))] 3 []) ac w) (o14 : Ow w0 NoB u N F10 x2 q6) (o36 : Ow w0 NoB u N F35 Y1 q34) (hNN : NN N0 u0 N u) (hBB : BB σ790.bx.length β0 β) : W 4 (mkL 39 [0, 1, 2, 3, 4, 5, 6, 7, 8, 9, 10, 11, 12, 13, 14, 15, 16, 17, 18, 19, 20, 21, 22, 23, 24, 25, 26, 27, 28, 29, 30, 31, 32, 33, 34]) ac w := by
           exact ox1 hW 35 (S.wq hW hNN hBB [36, 37, 38] (.cons (Eq_eq_Slot (t := 54) (f_ask Y1 x5).1 (f_composeSlot (f_slotAt x3 x5) x4) (by kernel_rfl)) .nil) fun _ _ _ S hB => hK832 _ _ _ _ _ S o14 o36 hNN hB)
          have hK834 ac w u N β (S : St Try.prog Try.f4.ntmps w0 NoB u N β (σ790.dl [3, 4, 5, 6, 7, 21, 22] [(181, .v (B true)), (184, .v (B false)), (185, .v (GT.val (f_ask Y1 x5).1 ())), (188, .v (GT.val (f_slotAt x3 x5) ())), (189, .v (slv x4.length q8.1))] 3 []) ac w) (o14 : Ow w0 NoB u N F10 x2 q6) (o16 : Ow w0 NoB u N F12 x4 q8) (o36 : Ow w0 NoB u N F35 Y1 q34) (hNN : NN N0 u0 N u) (hBB : BB σ790.bx.length β0 β) : W 5 (mkL 39 [0, 1, 2, 3, 4, 5, 6, 7, 8, 9, 10, 11, 12, 13, 14, 15, 16, 17, 18, 19, 20, 21, 22, 23, 24, 25, 26, 27, 28, 29, 30, 31, 32, 33]) ac w := by
           exact ox1 hW 34 (S.wq hW hNN hBB [] (.cons (Q_call fun w hw => c_spec_ComposeSlot w (f_slotAt x3 x5) x4 q8 (rd_of o16.rn hw)) .nil) fun _ _ _ S hB => hK833 _ _ _ _ _ S o14 o36 hNN hB)
          have hK836 ac w u N β (S : St Try.prog Try.f4.ntmps w0 NoB u N β (σ790.dl [3, 4, 5, 6, 7, 22] [(181, .v (B true)), (184, .v (B false)), (190, .v (GT.val (f_composeSlot (f_slotAt x3 x5) x4) ()))] 3 []) ac w) (o14 : Ow w0 NoB u N F10 x2 q6) (o36 : Ow w0 NoB u N F35 Y1 q34) (hNN : NN N0 u0 N u) (hBB : BB σ790.bx.length β0 β) : W 5 (mkL 39 [0, 1, 2, 3, 4, 5, 6, 7, 8, 9, 10, 11, 12, 13, 14, 15, 16, 17, 18, 19, 20, 21, 22, 23, 24, 25, 26, 27, 28, 30, 31, 32, 33, 34]) ac w := by
           exact ox1 hW 29 (S.wq hW hNN hBB [] .nil fun _ _ _ S hB => hK833 _ _ _ _ _ S o14 o36 hNN hB)
          have hK837 ac w u N β (S : St Try.prog Try.f4.ntmps w0 NoB u N β (σ790.dl [3, 4, 5, 6, 7, 21, 22] [(181, .v (B true)), (184, .v (B false)), (185, .v (GT.val (f_ask Y1 x5).1 ())), (186, .v (slv x3.length q7.1)), (187, .v (I x5)), (189, .v (slv x4.length q8.1))] 3 []) ac w) (o14 : Ow w0 NoB u N F10 x2 q6) (o15 : Ow w0 NoB u N F11 x3 q7) (o16 : Ow w0 NoB u N F12 x4 q8) (o36 : Ow w0 NoB u N F35 Y1 q34) (hNN : NN N0 u0 N u) (hBB : BB σ790.bx.length β0 β) : W 6 (mkL 39 [0, 1, 2, 3, 4, 5, 6, 7, 8, 9, 10, 11, 12, 13, 14, 15, 16, 17, 18, 19, 20, 21, 22, 23, 24, 25, 26, 27, 28, 29, 30, 31, 33]) ac w := by
           exact ox1 hW 32 (S.wq hW hNN hBB [] (.cons (Q_call fun w hw => c_spec_SlotAt w x3 q7 (rd_of o15.rn hw) x5) .nil) fun _ _ _ S hB => hK834 _ _ _ _ _ S o14 o16 o36 hNN hB)
          have hK839 ac w u N β (S : St Try.prog Try.f4.ntmps w0 NoB u N β (σ790.dl [3, 4, 5, 6, 7, 22] [(181, .v (B true)), (184, .v (B false)), (188, .v (GT.val (f_slotAt x3 x5) ())), (189, .v (slv x4.length q8.1))] 3 []) ac w) (o14 : Ow w0 NoB u N F10 x2 q6) (o16 : Ow w0 NoB u N F12 x4 q8) (o36 : Ow w0 NoB u N F35 Y1 q34) (hNN : NN N0 u0 N u) (hBB : BB σ790.bx.length β0 β) : W 6 (mkL 39 [0, 1, 2, 3, 4, 5, 6, 7, 8, 9, 10, 11, 12, 13, 14, 15, 16, 17, 18, 19, 20, 21, 22, 23, 24, 25, 26, 27, 28, 30, 31, 32, 33]) ac w := by
           exact ox2 hW 29 34 (S.wq hW hNN hBB [] .nil fun _ _ _ S hB => hK834 _ _ _ _ _ S o14 o16 o36 hNN hB) (S.wq hW hNN hBB [] (.cons (Q_call fun w hw => c_spec_ComposeSlot w (f_slotAt x3 x5) x4 q8 (rd_of o16.rn hw)) .nil) fun _ _ _ S hB => hK836 _ _ _ _ _ S o14 o36 hNN hB)
          have hK841 ac w u N β (S : St Try.prog Try.f4.ntmps w0 NoB u N β (σ790.dl [3, 4, 5, 6, 7, 22] [(181, .v (B true)), (184, .v (B false)), (186, .v (slv x3.length q7.1)), (187, .v (I x5)), (189, .v (slv x4.length q8.1))] 3 []) ac w) (o14 : Ow w0 NoB u N F10 x2 q6) (o15 : Ow w0 NoB u N F11 x3 q7) (o16 : Ow w0 NoB u N F12 x4 q8) (o36 : Ow w0 NoB u N F35 Y1 q34) (hNN : NN N0 u0 N u) (hBB : BB σ790.bx.length β0 β) : W 7 (mkL 39 [0, 1, 2, 3, 4, 5, 6, 7, 8, 9, 10, 11, 12, 13, 14, 15, 16, 17, 18, 19, 20, 21, 22, 23, 24, 25, 26, 27, 28, 30, 31, 33]) ac w := by
           exact ox2 hW 29 32 (S.wq hW hNN hBB [] .nil fun _ _ _ S hB => hK837 _ _ _ _ _ S o14 o15 o16 o36 hNN hB) (S.wq hW hNN hBB [] (.cons (Q_call fun w hw => c_spec_SlotAt w x3 q7 (rd_of o15.rn hw) x5) .nil) fun _ _ _ S hB => hK839 _ _ _ _ _ S o14 o16 o36 hNN hB)
          have hK843 ac w q825 F826 u N β (S : St Try.prog Try.f4.ntmps w0 NoB u N β (σ790.dl [3, 7] [(175, .v (B true)), (177, .v (GT.val (f_forgetAll x2) q825))] 3 []) ac w) (o14 : Ow w0 NoB u N F10 x2 q6) (o15 : Ow w0 NoB u N F11 x3 q7) (o16 : Ow w0 NoB u N F12 x4 q8) (o36 : Ow w0 NoB u N F35 Y1 q34) (o824 : Ow w0 NoB u N F826 (f_forgetAll x2) q825) (d844 : Disj F10 F826) (d845 : Disj F11 F826) (d846 : Disj F12 F826) (d847 : Disj F35 F826) (hNN : NN N0 u0 N u) (hBB : BB σ790.bx.length β0 β) : W 17 (mkL 39 [0, 1, 2, 3, 4, 5, 6, 7, 8, 9, 10, 11, 12, 13, 14, 15, 16, 17, 18, 19, 20, 21]) ac w := by
           have b848 := knownIn_bd (f_forgetAll x2)
           exact ox1 hW 22 (S.wqo hW hNN hBB [23, 24, 25, 26, 27, 28, 30, 31, 33] [(25, true), (28, false)] (.cons (Q_call fun w hw => c_impl_KnownIn w (f_forgetAll x2) q825 (rd_of o824.rn hw)) .nil) (.cons h692 (.cons h694 .nil)) fun _ _ _ S hB => hK841 _ _ _ _ _ S o14 o15 o16 o36 hNN hB)
          have hK849 ac w u N β (S : St Try.prog Try.f4.ntmps w0 NoB u N β (σ790.dl [3, 7] [(175, .v (B true)), (176, .v (GT.val x2 q6))] 3 []) ac w) (o14 : Ow w0 NoB u N F10 x2 q6) (o15 : Ow w0 NoB u N F11 x3 q7) (o16 : Ow w0 NoB u N F12 x4 q8) (o36 : Ow w0 NoB u N F35 Y1 q34) (hNN : NN N0 u0 N u) (hBB : BB σ790.bx.length β0 β) : W 18 (mkL 39 [0, 1, 2, 3, 4, 5, 6, 7, 8, 9, 10, 11, 12, 13, 14, 15, 16, 17, 18, 19, 20]) ac w := by
           refine ox1 hW 21 ?_
           refine id (S.k1 177 (c_impl_ForgetAll w x2 q6 (S.rd o14.rn)) fun ac w N q850 F851 S up o852 d853 => ?_)
           have hb854 := fun b h => (⟨(up b (hNN b h).1).1, (up b (hNN b h).1).2.trans (hNN b h).2⟩ : _ ∧ _)
           refine WD.sc S hb854 hBB fun hC => ?_
           have d855 := Disj.w d853 o14.sub
           have d856 := Disj.w d853 o15.sub
           have d857 := Disj.w d853 o16.sub
           have d858 := Disj.w d853 o36.sub
           replace o14 := o14.up up
           replace o15 := o15.up up
           replace o16 := o16.up up
           replace o36 := o36.up up
           clear up d853
           exact S.wh hW [] hC fun _ S => hK843 _ _ q850 F851 _ _ _ S o14 o15 o16 o36 o852 d855 d856 d857 d858 hb854 hBB
          have hK859 ac w u N β (S : St Try.prog Try.f4.ntmps w0 NoB u N β (σ790.dl [7] [(175, .v (B true))] 3 []) ac w) (o14 : Ow w0 NoB u N F10 x2 q6) (o15 : Ow w0 NoB u N F11 x3 q7) (o16 : Ow w0 NoB u N F12 x4 q8) (o36 : Ow w0 NoB u N F35 Y1 q34) (hNN : NN N0 u0 N u) (hBB : BB σ790.bx.length β0 β) : W 19 (mkL 39 [0, 1, 2, 3, 4, 5, 6, 7, 8, 9, 10, 11, 12, 13, 14, 15, 16, 17, 18, 19]) ac w := by
           exact ox1 hW 20 (S.wq hW hNN hBB [] .nil fun _ _ _ S hB => hK849 _ _ _ _ _ S o14 o15 o16 o36 hNN hB)
          have hK860 ac w q813 F814 u N β (S : St Try.prog Try.f4.ntmps w0 NoB u N β (σ790.dl [7] [(168, .v (B true)), (170, .v (GT.val (f_forgetAll x2) q813)), (171, .v (slv x3.length q7.1)), (172, .v (slv x4.length q8.1))] 3 []) ac w) (o14 : Ow w0 NoB u N F10 x2 q6) (o15 : Ow w0 NoB u N F11 x3 q7) (o16 : Ow w0 NoB u N F12 x4 q8) (o36 : Ow w0 NoB u N F35 Y1 q34) (o812 : Ow w0 NoB u N F814 (f_forgetAll x2) q813) (d861 : Disj F10 F814) (d862 : Disj F11 F814) (d863 : Disj F12 F814) (d864 : Disj F35 F814) (hNN : NN N0 u0 N u) (hBB : BB σ790.bx.length β0 β) : W 22 (mkL 39 [0, 1, 2, 3, 4, 5, 6, 7, 8, 9, 10, 11, 12, 13, 14, 15, 16]) ac w := by
           exact ox1 hW 17 (S.wqo hW hNN hBB [18, 19] [(19, true)] (.cons (Q_call fun w hw => c_impl_KeptOk w (f_forgetAll x2) q813 (rd_of o812.rn hw) x3 q7 (rd_of o15.rn hw) x4 q8 (rd_of o16.rn hw)) .nil) (.cons h691 .nil) fun _ _ _ S hB => hK859 _ _ _ _ _ S o14 o15 o16 o36 hNN hB)
          have hK865 ac w u N β (S : St Try.prog Try.f4.ntmps w0 NoB u N β (σ790.dl [7] [(168, .v (B true)), (169, .v (GT.val x2 q6)), (171, .v (slv x3.length q7.1)), (172, .v (slv x4.length q8.1))] 3 []) ac w) (o14 : Ow w0 NoB u N F10 x2 q6) (o15 : Ow w0 NoB u N F11 x3 q7) (o16 : Ow w0 NoB u N F12 x4 q8) (o36 : Ow w0 NoB u N F35 Y1 q34) (hNN : NN N0 u0 N u) (hBB : BB σ790.bx.length β0 β) : W 23 (mkL 39 [0, 1, 2, 3, 4, 5, 6, 7, 8, 9, 10, 11, 12, 13, 15, 16]) ac w := by
           refine ox1 hW 14 ?_
           refine id (S.k1 170 (c_impl_ForgetAll w x2 q6 (S.rd o14.rn)) fun ac w N q866 F867 S up o868 d869 => ?_)
           have hb870 := fun b h => (⟨(up b (hNN b h).1).1, (up b (hNN b h).1).2.trans (hNN b h).2⟩ : _ ∧ _)
           refine WD.sc S hb870 hBB fun hC => ?_
           have d871 := Disj.w d869 o14.sub
           have d872 := Disj.w d869 o15.sub
           have d873 := Disj.w d869 o16.sub
           have d874 := Disj.w d869 o36.sub
           replace o14 := o14.up up
           replace o15 := o15.up up
           replace o16 := o16.up up
           replace o36 := o36.up up
           clear up d869
           exact S.wh hW [] hC fun _ S => hK860 _ _ q866 F867 _ _ _ S o14 o15 o16 o36 o868 d871 d872 d873 d874 hb870 hBB
          have hK875 ac w u N β (S : St Try.prog Try.f4.ntmps w0 NoB u N β (σ790.dl [7] [(168, .v (B true)), (171, .v (slv x3.length q7.1)), (172, .v (slv x4.length q8.1))] 3 []) ac w) (o14 : Ow w0 NoB u N F10 x2 q6) (o15 : Ow w0 NoB u N F11 x3 q7) (o16 : Ow w0 NoB u N F12 x4 q8) (o36 : Ow w0 NoB u N F35 Y1 q34) (hNN : NN N0 u0 N u) (hBB : BB σ790.bx.length β0 β) : W 24 (mkL 39 [0, 1, 2, 3, 4, 5, 6, 7, 8, 9, 10, 11, 12, 15, 16]) ac w := by
           exact ox1 hW 13 (S.wq hW hNN hBB [] .nil fun _ _ _ S hB => hK865 _ _ _ _ _ S o14 o15 o16 o36 hNN hB)
          have hK876 ac w q801 F802 u N β (S : St Try.prog Try.f4.ntmps w0 NoB u N β (σ790.dl [7] [(160, .v (B true)), (163, .v (GT.val (f_forget x2 x5) q801)), (164, .v (slv x3.length q7.1)), (165, .v (slv x4.length q8.1))] 3 []) ac w) (o14 : Ow w0 NoB u N F10 x2 q6) (o15 : Ow w0 NoB u N F11 x3 q7) (o16 : Ow w0 NoB u N F12 x4 q8) (o36 : Ow w0 NoB u N F35 Y1 q34) (o800 : Ow w0 NoB u N F802 (f_forget x2 x5) q801) (d877 : Disj F10 F802) (d878 : Disj F11 F802) (d879 : Disj F12 F802) (d880 : Disj F35 F802) (hNN : NN N0 u0 N u) (hBB : BB σ790.bx.length β0 β) : W 29 (mkL 39 [0, 1, 2, 3, 4, 5, 6, 7, 8, 9]) ac w := by
           exact ox1 hW 10 (S.wqo hW hNN hBB [11, 12, 15, 16] [(12, true)] (.cons (Q_call fun w hw => c_impl_KeptOk w (f_forget x2 x5) q801 (rd_of o800.rn hw) x3 q7 (rd_of o15.rn hw) x4 q8 (rd_of o16.rn hw)) .nil) (.cons h690 .nil) fun _ _ _ S hB => hK875 _ _ _ _ _ S o14 o15 o16 o36 hNN hB)
          have hK881 ac w u N β (S : St Try.prog Try.f4.ntmps w0 NoB u N β (σ790.dl [7] [(160, .v (B true)), (161, .v (GT.val x2 q6)), (162, .v (I x5)), (164, .v (slv x3.length q7.1)), (165, .v (slv x4.length q8.1))] 3 []) ac w) (o14 : Ow w0 NoB u N F10 x2 q6) (o15 : Ow w0 NoB u N F11 x3 q7) (o16 : Ow w0 NoB u N F12 x4 q8) (o36 : Ow w0 NoB u N F35 Y1 q34) (hNN : NN N0 u0 N u) (hBB : BB σ790.bx.length β0 β) : W 30 (mkL 39 [0, 1, 2, 3, 4, 5, 6, 8, 9]) ac w := by
           refine ox1 hW 7 ?_
           refine id (S.k1 163 (c_impl_Forget w x2 q6 (S.rd o14.rn) x5) fun ac w N q882 F883 S up o884 d885 => ?_)
           have hb886 := fun b h => (⟨(up b (hNN b h).1).1, (up b (hNN b h).1).2.trans (hNN b h).2⟩ : _ ∧ _)
           refine WD.sc S hb886 hBB fun hC => ?_
           have d887 := Disj.w d885 o14.sub
           have d888 := Disj.w d885 o15.sub
           have d889 := Disj.w d885 o16.sub
           have d890 := Disj.w d885 o36.sub
           replace o14 := o14.up up
           replace o15 := o15.up up
           replace o16 := o16.up up
           replace o36 := o36.up up
           clear up d885
           exact S.wh hW [] hC fun _ S => hK876 _ _ q882 F883 _ _ _ S o14 o15 o16 o36 o884 d887 d888 d889 d890 hb886 hBB
          have hK891 ac w u N β (S : St Try.prog Try.f4.ntmps w0 NoB u N β (σ790.dl [7] [(160, .v (B true)), (162, .v (I x5)), (164, .v (slv x3.length q7.1)), (165, .v (slv x4.length q8.1))] 3 []) ac w) (o14 : Ow w0 NoB u N F10 x2 q6) (o15 : Ow w0 NoB u N F11 x3 q7) (o16 : Ow w0 NoB u N F12 x4 q8) (o36 : Ow w0 NoB u N F35 Y1 q34) (hNN : NN N0 u0 N u) (hBB : BB σ790.bx.length β0 β) : W 31 (mkL 39 [0, 1, 2, 3, 4, 6, 8, 9]) ac w := by
           exact ox1 hW 5 (S.wq hW hNN hBB [] .nil fun _ _ _ S hB => hK881 _ _ _ _ _ S o14 o15 o16 o36 hNN hB)
          have hNN : NN N0 u0 N0 u0 := fun b h => ⟨h, rfl⟩
          have hBB : BB σ790.bx.length β0 β0 := fun _ _ => rfl
          exact ox1 hW 3 (S.wqo hW hNN hBB [4, 6, 8, 9] [(4, true)] (.cons (Q_call fun w hw => c_impl_KeptOk w Y1 q34 (rd_of o36.rn hw) x3 q7 (rd_of o15.rn hw) x4 q8 (rd_of o16.rn hw)) .nil) (.cons h689 .nil) fun _ _ _ S hB => hK891 _ _ _ _ _ S o14 o15 o16 o36 hNN hB)
         clear S o14 o15 o16 o36
         rintro ac w ⟨u, N, β, S, o14, o36⟩
         refine S.ex fun S => ?_
         exact S.gf 2 .nil [B (decide ((f_ask Y1 x5).1 = (f_composeSlot (f_slotAt x3 x5) x4)))] (retB k0_laws_FnKept)
       ·exfalso; clear S; (subst_vars; rw [forgetAll_no (by assumption)] at h692; cases h692)
      ·exfalso; clear S; first | (subst_vars; rw [fill_ok (by assumption)] at h691; cases h691) | (subst_vars; rw [forget_ok (by assumption)] at h691; cases h691) | (subst_vars; rw [forgetAll_ok (by assumption)] at h691; cases h691)
     ·exfalso; clear S; first | (subst_vars; rw [fill_ok (by assumption)] at h690; cases h690) | (subst_vars; rw [forget_ok (by assumption)] at h690; cases h690) | (subst_vars; rw [forgetAll_ok (by assumption)] at h690; cases h690)
    ·exfalso; clear S; first | (subst_vars; rw [fill_ok (by assumption)] at h689; cases h689) | (subst_vars; rw [forget_ok (by assumption)] at h689; cases h689) | (subst_vars; rw [forgetAll_ok (by assumption)] at h689; cases h689)

end Go.Proofs.Ytgonaioedbphgaa
