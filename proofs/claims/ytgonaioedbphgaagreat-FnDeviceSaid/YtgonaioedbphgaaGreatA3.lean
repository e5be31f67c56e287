/- The walks: what each function that the laws reach computes (part 1). -/
import Derived.Test.YtgonaioedbphgaaGreatA1
import Derived.Test.YtgonaioedbphgaaGreatA2
import Derived.Test.YtgonaioedbphgaaGreatProg
import Derived.KernelRfl
namespace Go.Proofs.YtgonaioedbphgaaGreat
open Go
set_option linter.unusedVariables false
set_option linter.unusedSimpArgs false
set_option maxRecDepth 100000
set_option maxHeartbeats 2000000

theorem c_laws_big (w0 : World) (code : List TByte) (pcode : LP TByte) (hcode : GT.rd KR (Lt w0.heap.size) w0 code pcode) : Calls Tryz.prog 6 [slv code.length pcode.1].toArray w0 (fun e w' => e = .returned (B (decide (((code.length : Nat) : Int) > 1048576))) ∧ Chg NoB w0 w') := by
 refine Calls.run NoB Tryz.func6 ?_
 intro ac β S
 have hlecode : code.length ≤ 9223372036854775807 := LRd.le hcode
 exact S.gf 14 .nil [B (decide ((code.length : Int) > 1048576))] (retB (by clear S; rfl))

theorem c_spec_l04Page (w0 : World) (bs : List TByte) (pbs : LP TByte) (G F : Bl) (q : LP TCur) (hc : Cu bs pbs G F w0 q) : Calls Tryz.prog 193 [pt q.1.b (q.1.off + 0 * 3)].toArray w0 (RetD1 bs pbs G F q w0 (fun (r : List Int) => r.length = 4)) := by
 refine Calls.run F Tryz.func193 ?_
 intro ac β S
 have oc := hc.oc
 refine S.go 7 .nil fun ac w β S => S.B0 (α := Int) (d := 5) fun ac w N q1 F2 S up o3 d4 => ?_
 have d5 := Disj.w d4 oc.sub
 replace oc := oc.up up
 clear up d4
 refine S.go 10 .nil fun ac w β S => ?_
 refine lp (fun mm ac w => ∃ (k : Nat) (acc : List Int) (q6 : _) (F7 : _) (u : _) (N : _) (β : _), mm = 4 - k ∧ (k ≤ 4) ∧ (acc.length = k) ∧ St Tryz.prog Tryz.f193.ntmps w0 F u N β ⟨[(0, .v (pt q.1.b (q.1.off + 0 * 3))), (3, .v (slv acc.length q6.1)), (4, .v (I (k : Int)))], []⟩ ac w ∧ Ow w0 F u N F7 acc q6 ∧ Oc bs pbs G w0 F u N F q ∧ Disj F7 F) _ ⟨0, ([] : List Int), q1, F2, _, _, _, rfl, o0, (by rfl), S.z, o3, oc, (Disj.symm d5)⟩ ?_
 clear S o3 oc
 rintro f10 mm hf11 ac w ⟨k, acc, q6, F7, u, N, β, rfl, hk, hl, S, o8, oc, d9⟩
 refine S.rs fun S => ?_
 refine S.gd 7 .nil (decide ((k : Int) < 4)) (fun ac w β h12 g13 S => ?_) (fun ac w β h12 g13 S => ?_)
 ·refine S.go 8 .nil fun ac w β S => S.KD1 (d := 12) oc (c_spec_l01Below w bs pbs G F q (S.cu oc) 100 (show In64 100 from ⟨by decide, by decide⟩)) fun ac w N x14 q15 F16 S h19 up o17 d18 ocn => ?_
  replace o8 := o8.upF d9 up
  replace oc := ocn
  clear up d18
  have i20 : In64 x14 := o17.own
  have l21 := i20.lo; have l22 := i20.hi
  refine S.B1 (α := Int) (x := x14) (p := ()) (F := NoB) i20 (fun b h => False.elim h) (fun b h => False.elim h) (d := 13) fun ac w N q23 F24 S up o25 d26 => ?_
  replace o8 := o8.up up
  replace oc := oc.up up
  clear up d26
  refine S.AF (α := Int) o8 o25.rn (fun _ _ h => h) (by' := 8) (d := 14) (lx := acc.length) (ly := 1) rfl rfl (show _ ≤ 4194304 by simp only [List.length_append, List.length_cons, List.length_nil]; omega) fun ac w N q29 F30 S up o31 d32 => ?_
  have d33 := d32 _ (Disj.symm d9) oc.sub
  replace oc := oc.upF (Disj.symm d9) up
  clear up d32
  refine S.ge 9 (.cons (qp (k : Int) 1) .nil) f10 fun ac w β S => hf11.of (4 - (k + 1)) _ _ (by omega) ⟨k + 1, (acc ++ [x14]), q29, F30, _, _, _, rfl, ?_, ?_, S.z, o31, oc, (Disj.symm d33)⟩
  ·exact oz
  ·clear S; (simp; omega)
 refine S.gr 13 .nil [slv acc.length q6.1] fun ac w β S => ?_
 exact retD1_of S (show acc.length = 4 by clear S; omega) rfl o8 d9 oc

theorem c_spec_l04Mem (w0 : World) (bs : List TByte) (pbs : LP TByte) (G F : Bl) (q : LP TCur) (hc : Cu bs pbs G F w0 q) (pages : Int) (hpages : In64 pages) (pre0 : 0 ≤ pages ∧ pages ≤ 1000) : Calls Tryz.prog 160 [pt q.1.b (q.1.off + 0 * 3), I pages].toArray w0 (RetD1 bs pbs G F q w0 (fun (r : List (List Int)) => r.length = pages.toNat ∧ ∀ j, j < r.length → (el r j).length = 4)) := by
 refine Calls.run F Tryz.func160 ?_
 intro ac β S
 have oc := hc.oc
 have hlopages := hpages.lo; have hhipages := hpages.hi
 refine S.go 7 .nil fun ac w β S => S.B0 (α := List Int) (d := 7) fun ac w N q1 F2 S up o3 d4 => ?_
 have d5 := Disj.w d4 oc.sub
 replace oc := oc.up up
 clear up d4
 refine S.go 10 .nil fun ac w β S => ?_
 refine lp (fun mm ac w => ∃ (k : Nat) (acc : List (List Int)) (q6 : _) (F7 : _) (u : _) (N : _) (β : _), mm = pages.toNat - k ∧ (k ≤ pages.toNat) ∧ (acc.length = k) ∧ (∀ j, j < acc.length → (el acc j).length = 4) ∧ St Tryz.prog Tryz.f160.ntmps w0 F u N β ⟨[(0, .v (pt q.1.b (q.1.off + 0 * 3))), (1, .v (I pages)), (5, .v (slv acc.length q6.1)), (6, .v (I (k : Int)))], []⟩ ac w ∧ Ow w0 F u N F7 acc q6 ∧ Oc bs pbs G w0 F u N F q ∧ Disj F7 F) _ ⟨0, ([] : List (List Int)), q1, F2, _, _, _, rfl, o0, (by rfl), (by (intro j hj; exact absurd hj (Nat.not_lt_zero _))), S.z, o3, oc, (Disj.symm d5)⟩ ?_
 clear S o3 oc
 rintro f10 mm hf11 ac w ⟨k, acc, q6, F7, u, N, β, rfl, hk, hl, he, S, o8, oc, d9⟩
 refine S.rs fun S => ?_
 refine S.gd 8 .nil (decide ((k : Int) < pages)) (fun ac w β h12 g13 S => ?_) (fun ac w β h12 g13 S => ?_)
 ·refine S.go 8 .nil fun ac w β S => S.KD1 (d := 15) oc (c_spec_l04Page w bs pbs G F q (S.cu oc)) fun ac w N x14 q15 F16 S h19 up o17 d18 ocn => ?_
  have d20 := Disj.w d18 o8.sub
  have d21 := Disj.w d18 oc.sub
  replace o8 := o8.upF d9 up
  replace oc := ocn
  clear up d18
  have l22 := LRd.le o17.rn
  refine S.B1 (α := List Int) (x := x14) (p := q15) o17.own o17.sub o17.young (d := 16) fun ac w N q23 F24 S up o25 d26 => ?_
  have d27 := d26 _ d20 o8.sub
  have d28 := d26 _ d21 oc.sub
  replace o8 := o8.up up
  replace oc := oc.up up
  clear up d26
  refine S.AO (α := List Int) o8 o25 d27 (by' := 24) (d := 17) (lx := acc.length) (ly := 1) rfl rfl (show _ ≤ 4194304 by simp only [List.length_append, List.length_cons, List.length_nil]; omega) fun ac w N q29 F30 S up o31 d32 => ?_
  have d33 := d32 _ (Disj.symm d9) d28 oc.sub
  replace oc := oc.upF (Disj.symm d9) up
  clear up d32
  refine S.ge 9 (.cons (qp (k : Int) 1) .nil) f10 fun ac w β S => hf11.of (pages.toNat - (k + 1)) _ _ (by omega) ⟨k + 1, (acc ++ [x14]), q29, F30, _, _, _, rfl, ?_, ?_, ?_, S.z, o31, oc, (Disj.symm d33)⟩
  ·exact oz
  ·clear S; (simp; omega)
  ·clear S; exact all_app he (by assumption)
 refine S.gr 13 .nil [slv acc.length q6.1] fun ac w β S => ?_
 exact retD1_of S (show acc.length = pages.toNat ∧ ∀ j, j < acc.length → (el acc j).length = 4 by clear S; exact ⟨by omega, he⟩) rfl o8 d9 oc

theorem c_spec_l01PickInt (w0 : World) (bs : List TByte) (pbs : LP TByte) (G F : Bl) (q : LP TCur) (hc : Cu bs pbs G F w0 q) (list : List Int) (plist : LP Int) (Glist : Bl) (hlist : GT.rd KK Glist w0 list plist) (glist : ∀ b, Glist b → b < w0.heap.size ∧ ¬ F b) (pre0 : 0 < list.length) : Calls Tryz.prog 99 [pt q.1.b (q.1.off + 0 * 3), slv list.length plist.1].toArray w0 (RetD1 bs pbs G F q w0 (fun (r : Int) => ∃ k, k < list.length ∧ r = el list k)) := by
 refine Calls.run F Tryz.func99 ?_
 intro ac β S
 have oc := hc.oc
 have hlelist : list.length ≤ 4194304 := LRd.le hlist
 refine S.go 11 .nil fun ac w β S => S.KD1 (d := 9) oc (c_spec_l01Below w bs pbs G F q (S.cu oc) (list.length : Int) ⟨by omega, by omega⟩) fun ac w N x1 q2 F3 S h6 up o4 d5 ocn => ?_
 replace oc := ocn
 clear up d5
 have i7 : In64 x1 := o4.own
 have l8 := i7.lo; have l9 := i7.hi
 refine S.gr 6 (.cons (qt (S.argG hlist glist) x1 Tryz.underlying26) (.cons (qx (S.argG hlist glist) 3 x1.toNat) .nil)) [I (el list x1.toNat)] fun ac w β S => ?_
 exact retD1_of (F1 := NoB) (p := ()) S (show ∃ k, k < list.length ∧ (el list x1.toNat) = el list k by clear S; first | exact ⟨_, by omega, rfl⟩ | trivial) rfl ⟨(LRd.el (S.argG hlist glist) x1.toNat (by omega)), fun _ h => False.elim h, fun _ h => False.elim h⟩ (fun b h _ => False.elim h) oc

theorem c_spec_l10Ins (w0 : World) (bs : List TByte) (pbs : LP TByte) (G F : Bl) (q : LP TCur) (hc : Cu bs pbs G F w0 q) : Calls Tryz.prog 195 [pt q.1.b (q.1.off + 0 * 3)].toArray w0 (RetD1 bs pbs G F q w0 (fun (r : TIns) => True)) := by
 refine Calls.run F Tryz.func195 ?_
 intro ac β S
 have oc := hc.oc
 refine S.go 8 .nil fun ac w β S => S.BF ([1, 2, 3, 3, 3, 4, 4, 4, 5, 6, 8] : List Int) () (d := 5) (List.forall_mem_cons.2 ⟨fun _ => (show In64 1 from ⟨by decide, by decide⟩), List.forall_mem_cons.2 ⟨fun _ => (show In64 2 from ⟨by decide, by decide⟩), List.forall_mem_cons.2 ⟨fun _ => (show In64 3 from ⟨by decide, by decide⟩), List.forall_mem_cons.2 ⟨fun _ => (show In64 3 from ⟨by decide, by decide⟩), List.forall_mem_cons.2 ⟨fun _ => (show In64 3 from ⟨by decide, by decide⟩), List.forall_mem_cons.2 ⟨fun _ => (show In64 4 from ⟨by decide, by decide⟩), List.forall_mem_cons.2 ⟨fun _ => (show In64 4 from ⟨by decide, by decide⟩), List.forall_mem_cons.2 ⟨fun _ => (show In64 4 from ⟨by decide, by decide⟩), List.forall_mem_cons.2 ⟨fun _ => (show In64 5 from ⟨by decide, by decide⟩), List.forall_mem_cons.2 ⟨fun _ => (show In64 6 from ⟨by decide, by decide⟩), List.forall_mem_cons.2 ⟨fun _ => (show In64 8 from ⟨by decide, by decide⟩), List.forall_mem_nil _⟩⟩⟩⟩⟩⟩⟩⟩⟩⟩⟩) (show 11 ≤ 4194304 by decide) fun ac w N q1 F2 S up o3 d4 => ?_
 have d5 := Disj.w d4 oc.sub
 replace oc := oc.up up
 clear up d4
 refine S.KD1 (d := 6) oc (c_spec_l01PickInt w bs pbs G F q (S.cu oc) ([1, 2, 3, 3, 3, 4, 4, 4, 5, 6, 8] : List Int) q1 F2 (GT.own_rd (S.ownw o3)) (fun b hb => ⟨(S.sep b (o3.sub b hb)).1, (Disj.symm d5) b hb⟩) (by first | omega | decide | (simp; done))) fun ac w N x6 q7 F8 S h11 up o9 d10 ocn => ?_
 replace oc := ocn
 clear up d10
 have i12 : In64 x6 := o9.own
 have l13 := i12.lo; have l14 := i12.hi
 refine S.gd 20 (.cons (Q_sem (s := Instr.build 40 [(0, I x6)].toArray) (v := .agg [I x6, I 0].toArray) (fun w => by kernel_rfl)) .nil) (x6 == 3) (fun ac w β h15 g16 S => ?_) (fun ac w β h15 g16 S => ?_)
 ·refine S.go 6 .nil fun ac w β S => S.KD1 (d := 17) oc (c_spec_l01Below w bs pbs G F q (S.cu oc) 16 (show In64 16 from ⟨by decide, by decide⟩)) fun ac w N x17 q18 F19 S h22 up o20 d21 ocn => ?_
  replace oc := ocn
  clear up d21
  have i23 : In64 x17 := o20.own
  have l24 := i23.lo; have l25 := i23.hi
  refine S.gr 12 .nil [GT.val (⟨x6, x17⟩ : TIns) ()] fun ac w β S => ?_
  exact retD1_of (F1 := NoB) (p := ()) S (show True by clear S; trivial) rfl ⟨(show RIns (⟨x6, x17⟩ : TIns) from ⟨i12, i23⟩), fun _ h => False.elim h, fun _ h => False.elim h⟩ (fun b h _ => False.elim h) oc
 refine S.gd 6 .nil (x6 == 4) (fun ac w β h26 g27 S => ?_) (fun ac w β h26 g27 S => ?_)
 ·refine S.go 3 .nil fun ac w β S => S.KD1 (d := 17) oc (c_spec_l01Below w bs pbs G F q (S.cu oc) 16 (show In64 16 from ⟨by decide, by decide⟩)) fun ac w N x28 q29 F30 S h33 up o31 d32 ocn => ?_
  replace oc := ocn
  clear up d32
  have i34 : In64 x28 := o31.own
  have l35 := i34.lo; have l36 := i34.hi
  refine S.gr 12 .nil [GT.val (⟨x6, x28⟩ : TIns) ()] fun ac w β S => ?_
  exact retD1_of (F1 := NoB) (p := ()) S (show True by clear S; trivial) rfl ⟨(show RIns (⟨x6, x28⟩ : TIns) from ⟨i12, i34⟩), fun _ h => False.elim h, fun _ h => False.elim h⟩ (fun b h _ => False.elim h) oc
 refine S.gd 7 .nil (x6 == 8) (fun ac w β h37 g38 S => ?_) (fun ac w β h37 g38 S => ?_)
 ·refine S.go 3 .nil fun ac w β S => S.KD1 (d := 22) oc (c_spec_l01Below w bs pbs G F q (S.cu oc) 4 (show In64 4 from ⟨by decide, by decide⟩)) fun ac w N x39 q40 F41 S h44 up o42 d43 ocn => ?_
  replace oc := ocn
  clear up d43
  have i45 : In64 x39 := o42.own
  have l46 := i45.lo; have l47 := i45.hi
  refine S.gr 12 .nil [GT.val (⟨x6, x39⟩ : TIns) ()] fun ac w β S => ?_
  exact retD1_of (F1 := NoB) (p := ()) S (show True by clear S; trivial) rfl ⟨(show RIns (⟨x6, x39⟩ : TIns) from ⟨i12, i45⟩), fun _ h => False.elim h, fun _ h => False.elim h⟩ (fun b h _ => False.elim h) oc
 refine S.go 3 .nil fun ac w β S => S.KD1 (d := 11) oc (c_spec_l01Below w bs pbs G F q (S.cu oc) 100 (show In64 100 from ⟨by decide, by decide⟩)) fun ac w N x48 q49 F50 S h53 up o51 d52 ocn => ?_
 replace oc := ocn
 clear up d52
 have i54 : In64 x48 := o51.own
 have l55 := i54.lo; have l56 := i54.hi
 refine S.gr 12 .nil [GT.val (⟨x6, x48⟩ : TIns) ()] fun ac w β S => ?_
 exact retD1_of (F1 := NoB) (p := ()) S (show True by clear S; trivial) rfl ⟨(show RIns (⟨x6, x48⟩ : TIns) from ⟨i12, i54⟩), fun _ h => False.elim h, fun _ h => False.elim h⟩ (fun b h _ => False.elim h) oc

theorem c_spec_l01Once (w0 : World) (bs : List TByte) (pbs : LP TByte) (G F : Bl) (q : LP TCur) (hc : Cu bs pbs G F w0 q) (n : Int) (hn : In64 n) : Calls Tryz.prog 161 [pt q.1.b (q.1.off + 0 * 3), I n].toArray w0 (RetD1 bs pbs G F q w0 (fun (r : Bool) => True)) := by
 refine Calls.run F Tryz.func161 ?_
 intro ac β S
 have oc := hc.oc
 have hlon := hn.lo; have hhin := hn.hi
 refine S.go 9 .nil fun ac w β S => S.KD1 (d := 7) oc (c_spec_l01Below w bs pbs G F q (S.cu oc) n hn) fun ac w N x1 q2 F3 S h6 up o4 d5 ocn => ?_
 replace oc := ocn
 clear up d5
 have i7 : In64 x1 := o4.own
 have l8 := i7.lo; have l9 := i7.hi
 refine S.gr 5 .nil [B (x1 == 0)] fun ac w β S => ?_
 exact retD1_of (F1 := NoB) (p := ()) S (show True by clear S; trivial) rfl ⟨trivial, fun _ h => False.elim h, fun _ h => False.elim h⟩ (fun b h _ => False.elim h) oc

theorem c_spec_l10Prog (w0 : World) (bs : List TByte) (pbs : LP TByte) (G F : Bl) (q : LP TCur) (hc : Cu bs pbs G F w0 q) : Calls Tryz.prog 166 [pt q.1.b (q.1.off + 0 * 3)].toArray w0 (RetD1 bs pbs G F q w0 (fun (r : List TIns) => 3 ≤ r.length ∧ r.length ≤ 9)) := by
 refine Calls.run F Tryz.func166 ?_
 intro ac β S
 have oc := hc.oc
 refine S.go 7 .nil fun ac w β S => S.B0 (α := TIns) (d := 5) fun ac w N q1 F2 S up o3 d4 => ?_
 have d5 := Disj.w d4 oc.sub
 replace oc := oc.up up
 clear up d4
 refine S.go 10 .nil fun ac w β S => ?_
 refine lp (fun mm ac w => ∃ (k : Nat) (acc : List TIns) (q6 : _) (F7 : _) (u : _) (N : _) (β : _), mm = 8 - k ∧ (k ≤ 8) ∧ (acc.length = k) ∧ St Tryz.prog Tryz.f166.ntmps w0 F u N β ⟨[(0, .v (pt q.1.b (q.1.off + 0 * 3))), (3, .v (slv acc.length q6.1)), (4, .v (I (k : Int)))], []⟩ ac w ∧ Ow w0 F u N F7 acc q6 ∧ Oc bs pbs G w0 F u N F q ∧ Disj F7 F) _ ⟨0, ([] : List TIns), q1, F2, _, _, _, rfl, o0, (by rfl), S.z, o3, oc, (Disj.symm d5)⟩ ?_
 clear S o3 oc
 rintro f10 mm hf11 ac w ⟨k, acc, q6, F7, u, N, β, rfl, hk, hl, S, o8, oc, d9⟩
 refine S.rs fun S => ?_
 refine S.go 5 .nil fun ac w β S => S.KD1 (d := 8) oc (c_spec_l01Below w bs pbs G F q (S.cu oc) 7 (show In64 7 from ⟨by decide, by decide⟩)) fun ac w N x12 q13 F14 S h17 up o15 d16 ocn => ?_
 replace o8 := o8.upF d9 up
 replace oc := ocn
 clear up d16
 have i18 : In64 x12 := o15.own
 have l19 := i18.lo; have l20 := i18.hi
 refine S.gd 4 (.cons (qp 2 x12) .nil) (decide ((k : Int) < (2 + x12))) (fun ac w β h21 g22 S => ?_) (fun ac w β h21 g22 S => ?_)
 ·refine S.go 8 .nil fun ac w β S => S.KD1 (d := 15) oc (c_spec_l10Ins w bs pbs G F q (S.cu oc)) fun ac w N x23 q24 F25 S h28 up o26 d27 ocn => ?_
  replace o8 := o8.upF d9 up
  replace oc := ocn
  clear up d27
  have i29 : RIns x23 := o26.own
  refine S.B1 (α := TIns) (x := x23) (p := ()) (F := NoB) i29 (fun b h => False.elim h) (fun b h => False.elim h) (d := 16) fun ac w N q30 F31 S up o32 d33 => ?_
  replace o8 := o8.up up
  replace oc := oc.up up
  clear up d33
  refine S.AF (α := TIns) o8 o32.rn (fun _ _ h => h) (by' := 16) (d := 17) (lx := acc.length) (ly := 1) rfl rfl (show _ ≤ 4194304 by simp only [List.length_append, List.length_cons, List.length_nil]; omega) fun ac w N q36 F37 S up o38 d39 => ?_
  have d40 := d39 _ (Disj.symm d9) oc.sub
  replace oc := oc.upF (Disj.symm d9) up
  clear up d39
  refine S.ge 9 (.cons (qp (k : Int) 1) .nil) f10 fun ac w β S => hf11.of (8 - (k + 1)) _ _ (by omega) ⟨k + 1, (acc ++ [x23]), q36, F37, _, _, _, rfl, ?_, ?_, S.z, o38, oc, (Disj.symm d40)⟩
  ·exact oz
  ·clear S; (simp; omega)
 refine S.go 10 .nil fun ac w β S => S.KD1 (d := 19) oc (c_spec_l01Once w bs pbs G F q (S.cu oc) 3 (show In64 3 from ⟨by decide, by decide⟩)) fun ac w N x42 q43 F44 S h47 up o45 d46 ocn => ?_
 replace o8 := o8.upF d9 up
 replace oc := ocn
 clear up d46
 refine S.gb 2 .nil x42 (fun ac w β h48 S => ?_) (fun ac w β h48 S => ?_)
 ·refine S.go 4 (.cons (Q_sem (s := Instr.build 40 [(0, I 7)].toArray) (v := .agg [I 7, I 0].toArray) (fun w => by kernel_rfl)) .nil) fun ac w β S => S.B1 (α := TIns) (x := (⟨7, 0⟩ : TIns)) (p := ()) (F := NoB) (show RIns (⟨7, 0⟩ : TIns) from ⟨(show In64 7 from ⟨by decide, by decide⟩), (show In64 0 from ⟨by decide, by decide⟩)⟩) (fun b h => False.elim h) (fun b h => False.elim h) (d := 22) fun ac w N q49 F50 S up o51 d52 => ?_
  replace o8 := o8.up up
  replace oc := oc.up up
  clear up d52
  refine S.AF (α := TIns) o8 o51.rn (fun _ _ h => h) (by' := 16) (d := 23) (lx := acc.length) (ly := 1) rfl rfl (show _ ≤ 4194304 by simp only [List.length_append, List.length_cons, List.length_nil]; omega) fun ac w N q55 F56 S up o57 d58 => ?_
  have d59 := d58 _ (Disj.symm d9) oc.sub
  replace oc := oc.upF (Disj.symm d9) up
  clear up d58
  refine S.gr 10 .nil [slv (acc ++ [(⟨7, 0⟩ : TIns)]).length q55.1] fun ac w β S => ?_
  exact retD1_of S (show 3 ≤ (acc ++ [(⟨7, 0⟩ : TIns)]).length ∧ (acc ++ [(⟨7, 0⟩ : TIns)]).length ≤ 9 by clear S; (simp; omega)) rfl o57 (Disj.symm d59) oc
 refine S.go 4 (.cons (Q_sem (s := Instr.build 40 [(0, I 8)].toArray) (v := .agg [I 8, I 0].toArray) (fun w => by kernel_rfl)) .nil) fun ac w β S => S.B1 (α := TIns) (x := (⟨8, 0⟩ : TIns)) (p := ()) (F := NoB) (show RIns (⟨8, 0⟩ : TIns) from ⟨(show In64 8 from ⟨by decide, by decide⟩), (show In64 0 from ⟨by decide, by decide⟩)⟩) (fun b h => False.elim h) (fun b h => False.elim h) (d := 26) fun ac w N q61 F62 S up o63 d64 => ?_
 replace o8 := o8.up up
 replace oc := oc.up up
 clear up d64
 refine S.AF (α := TIns) o8 o63.rn (fun _ _ h => h) (by' := 16) (d := 27) (lx := acc.length) (ly := 1) rfl rfl (show _ ≤ 4194304 by simp only [List.length_append, List.length_cons, List.length_nil]; omega) fun ac w N q67 F68 S up o69 d70 => ?_
 have d71 := d70 _ (Disj.symm d9) oc.sub
 replace oc := oc.upF (Disj.symm d9) up
 clear up d70
 refine S.gr 10 .nil [slv (acc ++ [(⟨8, 0⟩ : TIns)]).length q67.1] fun ac w β S => ?_
 exact retD1_of S (show 3 ≤ (acc ++ [(⟨8, 0⟩ : TIns)]).length ∧ (acc ++ [(⟨8, 0⟩ : TIns)]).length ≤ 9 by clear S; (simp; omega)) rfl o69 (Disj.symm d71) oc

theorem k0_spec_Brought {p : Prop} (h : p := by clear S; (unfold f_brought; (repeat' split) <;> first | rfl | omega | (exfalso; simp_all; omega))) : p := h
theorem c_spec_Brought (w0 : World) (n : Int) (a : Int) (b : Int) : Calls Tryz.prog 109 [I n, I a, I b].toArray w0 (fun e w' => e = .returned (I (f_brought n a b)) ∧ Chg NoB w0 w') := by
 refine Calls.run NoB Tryz.func109 ?_
 intro ac β S
 refine S.gd 12 .nil (decide (b < a)) (fun ac w β h1 g2 S => ?_) (fun ac w β h1 g2 S => ?_)
 ·exact S.gf 14 .nil [I a] (retI k0_spec_Brought)
 refine S.gd 6 .nil (decide (n < a)) (fun ac w β h3 g4 S => ?_) (fun ac w β h3 g4 S => ?_)
 ·exact S.gf 8 .nil [I a] (retI k0_spec_Brought)
 refine S.gd 11 .nil (decide (n > b)) (fun ac w β h5 g6 S => ?_) (fun ac w β h5 g6 S => ?_)
 ·exact S.gf 8 .nil [I b] (retI k0_spec_Brought)
 exact S.gf 10 .nil [I n] (retI k0_spec_Brought)

theorem c_spec_NoSlot (w0 : World)  : Calls Tryz.prog 111 [].toArray w0 (fun e w' => e = .returned (GT.val (⟨-1, 0⟩ : TSlot) ()) ∧ Chg NoB w0 w') := by
 refine Calls.run NoB Tryz.func111 ?_
 intro ac β S
 exact S.gf 12 (.cons (Q_sem (s := Instr.build 44 [(0, I (-1))].toArray) (v := .agg [I (-1), I 0].toArray) (fun w => by kernel_rfl)) .nil) [GT.val (⟨(-1), 0⟩ : TSlot) ()] (retV (p := ()) (by clear S; first | rfl | (simp [id, *]; done) | (simp [id, *]; omega) | (simp_all [id]; done) | (simp_all [id]; omega)))

theorem c_spec_TableNew (w0 : World) (n : Int) : Calls Tryz.prog 110 [I n].toArray w0 (Ret1 NoB w0 ((List.replicate (f_brought n 0 24).toNat (⟨-1, 0⟩ : TSlot)) : List TSlot)) := by
 refine Calls.run NoB Tryz.func110 ?_
 intro ac β S
 refine S.go 7 .nil fun ac w β S => S.B0 (α := TSlot) (d := 5) fun ac w N q1 F2 S up o3 d4 => ?_
 clear up d4
 refine S.go 12 (.cons (Q_call fun w hw => c_spec_Brought w n 0 24) .nil) fun ac w β S => ?_
 refine lp (fun mm ac w => ∃ (i : Int) (acc : List TSlot) (q5 : _) (F6 : _) (u : _) (N : _) (β : _), mm = i.toNat ∧ (0 ≤ i ∧ i ≤ f_brought n 0 24) ∧ (acc = List.replicate (f_brought n 0 24 - i).toNat (⟨-1, 0⟩ : TSlot)) ∧ St Tryz.prog Tryz.f110.ntmps w0 NoB u N β ⟨[(3, .v (slv acc.length q5.1)), (4, .v (I i))], []⟩ ac w ∧ Ow w0 NoB u N F6 acc q5) _ ⟨(f_brought n 0 24), ([] : List TSlot), q1, F2, _, _, _, rfl, (by (have hb := brought_bd n); omega), (by (rw [show (f_brought n 0 24 - f_brought n 0 24).toNat = 0 by omega]; rfl)), S.z, o3⟩ ?_
 clear S o3
 rintro f8 mm hf9 ac w ⟨i, acc, q5, F6, u, N, β, rfl, hi, hacc, S, o7⟩
 refine S.rs fun S => ?_
 have hb := brought_bd n
 have hlacc : acc.length ≤ 24 := by rw [hacc, List.length_replicate]; omega
 refine S.gd 7 .nil (decide (i > 0)) (fun ac w β h10 g11 S => ?_) (fun ac w β h10 g11 S => ?_)
 ·refine S.go 8 (.cons (Q_call fun w hw => c_spec_NoSlot w ) .nil) fun ac w β S => S.B1 (α := TSlot) (x := (⟨-1, 0⟩ : TSlot)) (p := ()) (F := NoB) (show RSlot ⟨-1, 0⟩ from ⟨⟨by decide, by decide⟩, ⟨by decide, by decide⟩⟩) (fun b h => False.elim h) (fun b h => False.elim h) (d := 14) fun ac w N q12 F13 S up o14 d15 => ?_
  replace o7 := o7.up up
  clear up d15
  refine S.AF (α := TSlot) o7 o14.rn (fun _ _ h => h) (by' := 16) (d := 15) (lx := acc.length) (ly := 1) rfl rfl (show _ ≤ 4194304 by simp only [List.length_append, List.length_cons, List.length_nil]; omega) fun ac w N q17 F18 S up o19 d20 => ?_
  clear up d20
  refine S.ge 9 (.cons (qm i 1) .nil) f8 fun ac w β S => hf9.of (i - 1).toNat _ _ (by omega) ⟨(i - 1), (acc ++ [((⟨-1, 0⟩ : TSlot))]), q17, F18, _, _, _, rfl, ?_, ?_, S.z, o19⟩
  ·clear S; omega
  ·clear S; (rw [hacc]; exact (repl_next (by omega)).symm)
 refine S.gr 13 .nil [slv acc.length q5.1] fun ac w β S => ?_
 exact ret1_of S (show (List.replicate (f_brought n 0 24).toNat (⟨-1, 0⟩ : TSlot)) = acc by clear S; (rw [hacc, show i = 0 by omega, Int.sub_zero])) rfl o7

theorem c_spec_GuestNew (w0 : World) (p : List TIns) (pp : LP TIns) (hp : RD w0 p pp) : Calls Tryz.prog 50 [slv p.length pp.1].toArray w0 (Ret1 NoB w0 (f_guestNew p : TGuest)) := by
 refine Calls.run NoB Tryz.func50 ?_
 intro ac β S
 have hlep : p.length ≤ 4194304 := LRd.le hp
 refine S.go 7 .nil fun ac w β S => S.B0 (α := TIns) (d := 3) fun ac w N q1 F2 S up o3 d4 => ?_
 clear up d4
 have b9 : p.length ≤ 4194304 := LRd.le (S.arg hp)
 refine S.go 1 .nil fun ac w β S => S.AF0 (α := TIns) o3 (S.arg hp) (fun _ _ h => h) (by' := 16) (d := 5) (lx := 0) (ly := p.length) rfl fun ac w N q5 F6 S up o7 d8 => ?_
 clear up d8
 have b10 := (List.length_replicate : (List.replicate (f_brought 4 0 24).toNat (⟨-1, 0⟩ : TSlot)).length = (f_brought 4 0 24).toNat)
 refine S.K1 (r := (List.replicate (f_brought 4 0 24).toNat (⟨-1, 0⟩ : TSlot))) (d := 6) (c_spec_TableNew w 4) fun ac w N q11 F12 S up o13 d14 => ?_
 have d15 := Disj.w d14 o7.sub
 replace o7 := o7.up up
 clear up d14
 have b16 := (List.length_replicate : (List.replicate (f_brought 4 0 24).toNat (⟨-1, 0⟩ : TSlot)).length = (f_brought 4 0 24).toNat)
 refine S.K1 (r := (List.replicate (f_brought 4 0 24).toNat (⟨-1, 0⟩ : TSlot))) (d := 7) (c_spec_TableNew w 4) fun ac w N q17 F18 S up o19 d20 => ?_
 have d21 := Disj.w d20 o7.sub
 have d22 := Disj.w d20 o13.sub
 replace o7 := o7.up up
 replace o13 := o13.up up
 clear up d20
 refine S.gr 5 (.cons (Q_sem (s := Instr.build 51 [(0, slv p.length q5.1), (3, slv (List.replicate (f_brought 4 0 24).toNat (⟨-1, 0⟩ : TSlot)).length q11.1), (4, slv (List.replicate (f_brought 4 0 24).toNat (⟨-1, 0⟩ : TSlot)).length q17.1)].toArray) (v := .agg [slv p.length q5.1, I 0, I 0, slv (List.replicate (f_brought 4 0 24).toNat (⟨-1, 0⟩ : TSlot)).length q11.1, slv (List.replicate (f_brought 4 0 24).toNat (⟨-1, 0⟩ : TSlot)).length q17.1, I 0, I 0, B false, I 0, I 0, I 0, B false, I 0, B false, slv ([] : List Int).length (GT.pdflt (α := List Int)).1].toArray) (fun w => by kernel_rfl)) .nil) [GT.val (⟨p, 0, 0, (List.replicate (f_brought 4 0 24).toNat (⟨-1, 0⟩ : TSlot)), (List.replicate (f_brought 4 0 24).toNat (⟨-1, 0⟩ : TSlot)), (⟨0, 0, false⟩ : TCtl), 0, (⟨0, 0, false, 0⟩ : TExit), false, ([] : List Int)⟩ : TGuest) (⟨q5, q11, q17, (GT.pdflt (α := List Int))⟩ : PGuest)] fun ac w β S => ?_
 have o23 := S.nilOw (α := Int)
 have o24 := ow_Guest (x := (⟨p, 0, 0, (List.replicate (f_brought 4 0 24).toNat (⟨-1, 0⟩ : TSlot)), (List.replicate (f_brought 4 0 24).toNat (⟨-1, 0⟩ : TSlot)), (⟨0, 0, false⟩ : TCtl), 0, (⟨0, 0, false, 0⟩ : TExit), false, ([] : List Int)⟩ : TGuest)) (p := (⟨q5, q11, q17, (GT.pdflt (α := List Int))⟩ : PGuest)) o7 o13 o19 o23 d15 d21 (fun b _ h => False.elim h) d22 (fun b _ h => False.elim h) (fun b _ h => False.elim h) (show In64 0 from ⟨by decide, by decide⟩) (show In64 0 from ⟨by decide, by decide⟩) (show RCtl (⟨0, 0, false⟩ : TCtl) from ⟨(show In64 0 from ⟨by decide, by decide⟩), (show In64 0 from ⟨by decide, by decide⟩)⟩) (show In64 0 from ⟨by decide, by decide⟩) (show RExit (⟨0, 0, false, 0⟩ : TExit) from ⟨(show In64 0 from ⟨by decide, by decide⟩), (show In64 0 from ⟨by decide, by decide⟩), (show In64 0 from ⟨by decide, by decide⟩)⟩)
 exact ret1_of S (show f_guestNew p = (⟨p, 0, 0, (List.replicate (f_brought 4 0 24).toNat (⟨-1, 0⟩ : TSlot)), (List.replicate (f_brought 4 0 24).toNat (⟨-1, 0⟩ : TSlot)), (⟨0, 0, false⟩ : TCtl), 0, (⟨0, 0, false, 0⟩ : TExit), false, ([] : List Int)⟩ : TGuest) by clear S; (first | rfl | (simp [f_guestNew]; rfl))) rfl o24

theorem c_spec_l03Slot (w0 : World) (bs : List TByte) (pbs : LP TByte) (G F : Bl) (q : LP TCur) (hc : Cu bs pbs G F w0 q) (pages : Int) (hpages : In64 pages) : Calls Tryz.prog 197 [pt q.1.b (q.1.off + 0 * 3), I pages].toArray w0 (RetD1 bs pbs G F q w0 (fun (r : TSlot) => True)) := by
 refine Calls.run F Tryz.func197 ?_
 intro ac β S
 have oc := hc.oc
 have hlopages := hpages.lo; have hhipages := hpages.hi
 refine S.go 9 .nil fun ac w β S => S.KD1 (d := 6) oc (c_spec_l01Once w bs pbs G F q (S.cu oc) 5 (show In64 5 from ⟨by decide, by decide⟩)) fun ac w N x1 q2 F3 S h6 up o4 d5 ocn => ?_
 replace oc := ocn
 clear up d5
 refine S.gb 2 .nil x1 (fun ac w β h7 S => ?_) (fun ac w β h7 S => ?_)
 ·refine S.gr 8 (.cons (Q_call fun w hw => c_spec_NoSlot w ) .nil) [GT.val (⟨-1, 0⟩ : TSlot) ()] fun ac w β S => ?_
  exact retD1_of (F1 := NoB) (p := ()) S (show True by clear S; trivial) rfl ⟨(show RSlot ⟨-1, 0⟩ from ⟨⟨by decide, by decide⟩, ⟨by decide, by decide⟩⟩), fun _ h => False.elim h, fun _ h => False.elim h⟩ (fun b h _ => False.elim h) oc
 refine S.go 7 .nil fun ac w β S => S.KD1 (d := 10) oc (c_spec_l01Below w bs pbs G F q (S.cu oc) pages hpages) fun ac w N x8 q9 F10 S h13 up o11 d12 ocn => ?_
 replace oc := ocn
 clear up d12
 have i14 : In64 x8 := o11.own
 have l15 := i14.lo; have l16 := i14.hi
 refine S.go 1 .nil fun ac w β S => S.BF ([3, 3, 3, 1, 2] : List Int) () (d := 12) (List.forall_mem_cons.2 ⟨fun _ => (show In64 3 from ⟨by decide, by decide⟩), List.forall_mem_cons.2 ⟨fun _ => (show In64 3 from ⟨by decide, by decide⟩), List.forall_mem_cons.2 ⟨fun _ => (show In64 3 from ⟨by decide, by decide⟩), List.forall_mem_cons.2 ⟨fun _ => (show In64 1 from ⟨by decide, by decide⟩), List.forall_mem_cons.2 ⟨fun _ => (show In64 2 from ⟨by decide, by decide⟩), List.forall_mem_nil _⟩⟩⟩⟩⟩) (show 5 ≤ 4194304 by decide) fun ac w N q17 F18 S up o19 d20 => ?_
 have d21 := Disj.w d20 oc.sub
 replace oc := oc.up up
 clear up d20
 refine S.KD1 (d := 13) oc (c_spec_l01PickInt w bs pbs G F q (S.cu oc) ([3, 3, 3, 1, 2] : List Int) q17 F18 (GT.own_rd (S.ownw o19)) (fun b hb => ⟨(S.sep b (o19.sub b hb)).1, (Disj.symm d21) b hb⟩) (by first | omega | decide | (simp; done))) fun ac w N x22 q23 F24 S h27 up o25 d26 ocn => ?_
 replace oc := ocn
 clear up d26
 have i28 : In64 x22 := o25.own
 have l29 := i28.lo; have l30 := i28.hi
 refine S.gr 5 (.cons (Q_sem (s := Instr.build 44 [(0, I x8), (1, I x22)].toArray) (v := .agg [I x8, I x22].toArray) (fun w => by kernel_rfl)) .nil) [GT.val (⟨x8, x22⟩ : TSlot) ()] fun ac w β S => ?_
 exact retD1_of (F1 := NoB) (p := ()) S (show True by clear S; trivial) rfl ⟨(show RSlot (⟨x8, x22⟩ : TSlot) from ⟨i14, i28⟩), fun _ h => False.elim h, fun _ h => False.elim h⟩ (fun b h _ => False.elim h) oc

theorem c_spec_l03Table (w0 : World) (bs : List TByte) (pbs : LP TByte) (G F : Bl) (q : LP TCur) (hc : Cu bs pbs G F w0 q) (size : Int) (hsize : In64 size) (pages : Int) (hpages : In64 pages) (pre0 : 0 ≤ size ∧ size ≤ 1000) : Calls Tryz.prog 167 [pt q.1.b (q.1.off + 0 * 3), I size, I pages].toArray w0 (RetD1 bs pbs G F q w0 (fun (r : List TSlot) => r.length = size.toNat)) := by
 refine Calls.run F Tryz.func167 ?_
 intro ac β S
 have oc := hc.oc
 have hlosize := hsize.lo; have hhisize := hsize.hi
 have hlopages := hpages.lo; have hhipages := hpages.hi
 refine S.go 7 .nil fun ac w β S => S.B0 (α := TSlot) (d := 9) fun ac w N q1 F2 S up o3 d4 => ?_
 have d5 := Disj.w d4 oc.sub
 replace oc := oc.up up
 clear up d4
 refine S.go 10 .nil fun ac w β S => ?_
 refine lp (fun mm ac w => ∃ (k : Nat) (acc : List TSlot) (q6 : _) (F7 : _) (u : _) (N : _) (β : _), mm = size.toNat - k ∧ (k ≤ size.toNat) ∧ (acc.length = k) ∧ St Tryz.prog Tryz.f167.ntmps w0 F u N β ⟨[(0, .v (pt q.1.b (q.1.off + 0 * 3))), (1, .v (I size)), (2, .v (I pages)), (7, .v (slv acc.length q6.1)), (8, .v (I (k : Int)))], []⟩ ac w ∧ Ow w0 F u N F7 acc q6 ∧ Oc bs pbs G w0 F u N F q ∧ Disj F7 F) _ ⟨0, ([] : List TSlot), q1, F2, _, _, _, rfl, o0, (by rfl), S.z, o3, oc, (Disj.symm d5)⟩ ?_
 clear S o3 oc
 rintro f10 mm hf11 ac w ⟨k, acc, q6, F7, u, N, β, rfl, hk, hl, S, o8, oc, d9⟩
 refine S.rs fun S => ?_
 refine S.gd 8 .nil (decide ((k : Int) < size)) (fun ac w β h12 g13 S => ?_) (fun ac w β h12 g13 S => ?_)
 ·refine S.go 9 .nil fun ac w β S => S.KD1 (d := 18) oc (c_spec_l03Slot w bs pbs G F q (S.cu oc) pages hpages) fun ac w N x14 q15 F16 S h19 up o17 d18 ocn => ?_
  replace o8 := o8.upF d9 up
  replace oc := ocn
  clear up d18
  have i20 : RSlot x14 := o17.own
  refine S.B1 (α := TSlot) (x := x14) (p := ()) (F := NoB) i20 (fun b h => False.elim h) (fun b h => False.elim h) (d := 19) fun ac w N q21 F22 S up o23 d24 => ?_
  replace o8 := o8.up up
  replace oc := oc.up up
  clear up d24
  refine S.AF (α := TSlot) o8 o23.rn (fun _ _ h => h) (by' := 16) (d := 20) (lx := acc.length) (ly := 1) rfl rfl (show _ ≤ 4194304 by simp only [List.length_append, List.length_cons, List.length_nil]; omega) fun ac w N q27 F28 S up o29 d30 => ?_
  have d31 := d30 _ (Disj.symm d9) oc.sub
  replace oc := oc.upF (Disj.symm d9) up
  clear up d30
  refine S.ge 9 (.cons (qp (k : Int) 1) .nil) f10 fun ac w β S => hf11.of (size.toNat - (k + 1)) _ _ (by omega) ⟨k + 1, (acc ++ [x14]), q27, F28, _, _, _, rfl, ?_, ?_, S.z, o29, oc, (Disj.symm d31)⟩
  ·exact oz
  ·clear S; (simp; omega)
 refine S.gr 13 .nil [slv acc.length q6.1] fun ac w β S => ?_
 exact retD1_of S (show acc.length = size.toNat by clear S; omega) rfl o8 d9 oc

theorem c_spec_l11Ctl (w0 : World) (bs : List TByte) (pbs : LP TByte) (G F : Bl) (q : LP TCur) (hc : Cu bs pbs G F w0 q) : Calls Tryz.prog 168 [pt q.1.b (q.1.off + 0 * 3)].toArray w0 (RetD1 bs pbs G F q w0 (fun (r : TCtl) => True)) := by
 refine Calls.run F Tryz.func168 ?_
 intro ac β S
 have oc := hc.oc
 refine S.go 8 .nil fun ac w β S => S.KD1 (d := 5) oc (c_spec_l01Below w bs pbs G F q (S.cu oc) 4 (show In64 4 from ⟨by decide, by decide⟩)) fun ac w N x1 q2 F3 S h6 up o4 d5 ocn => ?_
 replace oc := ocn
 clear up d5
 have i7 : In64 x1 := o4.own
 have l8 := i7.lo; have l9 := i7.hi
 refine S.go 1 .nil fun ac w β S => S.KD1 (d := 7) oc (c_spec_l01Once w bs pbs G F q (S.cu oc) 4 (show In64 4 from ⟨by decide, by decide⟩)) fun ac w N x10 q11 F12 S h15 up o13 d14 ocn => ?_
 replace oc := ocn
 clear up d14
 refine S.gb 12 (.cons (Q_sem (s := Instr.build 47 [(0, I x1), (2, B (!x10))].toArray) (v := .agg [I x1, I 0, B (!x10)].toArray) (fun w => by kernel_rfl)) .nil) (!x10) (fun ac w β h16 S => ?_) (fun ac w β h16 S => ?_)
 ·have h17 := not_t h16
  refine S.gd 5 .nil (x1 != 2) (fun ac w β h18 g19 S => ?_) (fun ac w β h18 g19 S => ?_)
  ·refine S.go 1 .nil fun ac w β S => S.KD1 (d := 19) oc (c_spec_l01Once w bs pbs G F q (S.cu oc) 2 (show In64 2 from ⟨by decide, by decide⟩)) fun ac w N x20 q21 F22 S h25 up o23 d24 ocn => ?_
   replace oc := ocn
   clear up d24
   refine S.gb 3 .nil x20 (fun ac w β h26 S => ?_) (fun ac w β h26 S => ?_)
   ·refine S.go 3 .nil fun ac w β S => S.KD1 (d := 22) oc (c_spec_l01Below w bs pbs G F q (S.cu oc) 256 (show In64 256 from ⟨by decide, by decide⟩)) fun ac w N x27 q28 F29 S h32 up o30 d31 ocn => ?_
    replace oc := ocn
    clear up d31
    have i33 : In64 x27 := o30.own
    have l34 := i33.lo; have l35 := i33.hi
    refine S.gr 11 .nil [GT.val (⟨x1, x27, (!x10)⟩ : TCtl) ()] fun ac w β S => ?_
    exact retD1_of (F1 := NoB) (p := ()) S (show True by clear S; trivial) rfl ⟨(show RCtl (⟨x1, x27, (!x10)⟩ : TCtl) from ⟨i7, i33⟩), fun _ h => False.elim h, fun _ h => False.elim h⟩ (fun b h _ => False.elim h) oc
   refine S.gr 10 .nil [GT.val (⟨x1, 0, (!x10)⟩ : TCtl) ()] fun ac w β S => ?_
   exact retD1_of (F1 := NoB) (p := ()) S (show True by clear S; trivial) rfl ⟨(show RCtl (⟨x1, 0, (!x10)⟩ : TCtl) from ⟨i7, (show In64 0 from ⟨by decide, by decide⟩)⟩), fun _ h => False.elim h, fun _ h => False.elim h⟩ (fun b h _ => False.elim h) oc
  refine S.gr 15 .nil [GT.val (⟨x1, 0, (!x10)⟩ : TCtl) ()] fun ac w β S => ?_
  exact retD1_of (F1 := NoB) (p := ()) S (show True by clear S; trivial) rfl ⟨(show RCtl (⟨x1, 0, (!x10)⟩ : TCtl) from ⟨i7, (show In64 0 from ⟨by decide, by decide⟩)⟩), fun _ h => False.elim h, fun _ h => False.elim h⟩ (fun b h _ => False.elim h) oc
 have h36 := not_f h16
 refine S.gr 20 .nil [GT.val (⟨x1, 0, (!x10)⟩ : TCtl) ()] fun ac w β S => ?_
 exact retD1_of (F1 := NoB) (p := ()) S (show True by clear S; trivial) rfl ⟨(show RCtl (⟨x1, 0, (!x10)⟩ : TCtl) from ⟨i7, (show In64 0 from ⟨by decide, by decide⟩)⟩), fun _ h => False.elim h, fun _ h => False.elim h⟩ (fun b h _ => False.elim h) oc

theorem c_spec_FaultExit (w0 : World) (page : Int) (hpage : In64 page) (write : Bool) : Calls Tryz.prog 198 [I page, B write].toArray w0 (fun e w' => e = .returned (GT.val (f_faultExit page write) ()) ∧ Chg NoB w0 w') := by
 refine Calls.run NoB Tryz.func198 ?_
 intro ac β S
 have hlopage := hpage.lo; have hhipage := hpage.hi
 exact S.gf 14 (.cons (Q_sem (s := Instr.build 49 [(0, I 1), (1, I page), (2, B write)].toArray) (v := .agg [I 1, I page, B write, I 0].toArray) (fun w => by kernel_rfl)) .nil) [GT.val (⟨1, page, write, 0⟩ : TExit) ()] (retV (p := ()) (by clear S; rfl))

theorem c_spec_CallExit (w0 : World) (n : Int) (hn : In64 n) : Calls Tryz.prog 199 [I n].toArray w0 (fun e w' => e = .returned (GT.val (f_callExit n) ()) ∧ Chg NoB w0 w') := by
 refine Calls.run NoB Tryz.func199 ?_
 intro ac β S
 have hlon := hn.lo; have hhin := hn.hi
 exact S.gf 13 (.cons (Q_sem (s := Instr.build 49 [(0, I 2), (3, I n)].toArray) (v := .agg [I 2, I 0, B false, I n].toArray) (fun w => by kernel_rfl)) .nil) [GT.val (⟨2, 0, false, n⟩ : TExit) ()] (retV (p := ()) (by clear S; rfl))

theorem c_spec_OutExit (w0 : World) (n : Int) (hn : In64 n) : Calls Tryz.prog 200 [I n].toArray w0 (fun e w' => e = .returned (GT.val (f_outExit n) ()) ∧ Chg NoB w0 w') := by
 refine Calls.run NoB Tryz.func200 ?_
 intro ac β S
 have hlon := hn.lo; have hhin := hn.hi
 exact S.gf 13 (.cons (Q_sem (s := Instr.build 49 [(0, I 3), (3, I n)].toArray) (v := .agg [I 3, I 0, B false, I n].toArray) (fun w => by kernel_rfl)) .nil) [GT.val (⟨3, 0, false, n⟩ : TExit) ()] (retV (p := ()) (by clear S; rfl))

theorem c_spec_l13Exit (w0 : World) (bs : List TByte) (pbs : LP TByte) (G F : Bl) (q : LP TCur) (hc : Cu bs pbs G F w0 q) : Calls Tryz.prog 169 [pt q.1.b (q.1.off + 0 * 3)].toArray w0 (RetD1 bs pbs G F q w0 (fun (r : TExit) => True)) := by
 refine Calls.run F Tryz.func169 ?_
 intro ac β S
 have oc := hc.oc
 refine S.go 9 .nil fun ac w β S => S.KD1 (d := 4) oc (c_spec_l01Below w bs pbs G F q (S.cu oc) 5 (show In64 5 from ⟨by decide, by decide⟩)) fun ac w N x1 q2 F3 S h6 up o4 d5 ocn => ?_
 replace oc := ocn
 clear up d5
 have i7 : In64 x1 := o4.own
 have l8 := i7.lo; have l9 := i7.hi
 refine S.gd 9 .nil (x1 == 0) (fun ac w β h10 g11 S => ?_) (fun ac w β h10 g11 S => ?_)
 ·refine S.go 4 .nil fun ac w β S => S.KD1 (d := 8) oc (c_spec_l01Below w bs pbs G F q (S.cu oc) 4 (show In64 4 from ⟨by decide, by decide⟩)) fun ac w N x12 q13 F14 S h17 up o15 d16 ocn => ?_
  replace oc := ocn
  clear up d16
  have i18 : In64 x12 := o15.own
  have l19 := i18.lo; have l20 := i18.hi
  refine S.go 1 .nil fun ac w β S => S.KD1 (d := 10) oc (c_spec_l01Once w bs pbs G F q (S.cu oc) 2 (show In64 2 from ⟨by decide, by decide⟩)) fun ac w N x21 q22 F23 S h26 up o24 d25 ocn => ?_
  replace oc := ocn
  clear up d25
  refine S.gr 5 (.cons (Q_call fun w hw => c_spec_FaultExit w x12 i18 x21) .nil) [GT.val (f_faultExit x12 x21) ()] fun ac w β S => ?_
  exact retD1_of (F1 := NoB) (p := ()) S (show True by clear S; trivial) rfl ⟨(faultExit_r i18 x21), fun _ h => False.elim h, fun _ h => False.elim h⟩ (fun b h _ => False.elim h) oc
 refine S.gd 7 .nil (x1 == 1) (fun ac w β h27 g28 S => ?_) (fun ac w β h27 g28 S => ?_)
 ·refine S.go 4 .nil fun ac w β S => S.KD1 (d := 15) oc (c_spec_l01Below w bs pbs G F q (S.cu oc) 100 (show In64 100 from ⟨by decide, by decide⟩)) fun ac w N x29 q30 F31 S h34 up o32 d33 ocn => ?_
  replace oc := ocn
  clear up d33
  have i35 : In64 x29 := o32.own
  have l36 := i35.lo; have l37 := i35.hi
  refine S.gr 5 (.cons (Q_call fun w hw => c_spec_CallExit w x29 i35) .nil) [GT.val (f_callExit x29) ()] fun ac w β S => ?_
  exact retD1_of (F1 := NoB) (p := ()) S (show True by clear S; trivial) rfl ⟨(callExit_r i35), fun _ h => False.elim h, fun _ h => False.elim h⟩ (fun b h _ => False.elim h) oc
 refine S.gd 7 .nil (x1 == 2) (fun ac w β h38 g39 S => ?_) (fun ac w β h38 g39 S => ?_)
 ·refine S.go 4 .nil fun ac w β S => S.KD1 (d := 20) oc (c_spec_l01Below w bs pbs G F q (S.cu oc) 100 (show In64 100 from ⟨by decide, by decide⟩)) fun ac w N x40 q41 F42 S h45 up o43 d44 ocn => ?_
  replace oc := ocn
  clear up d44
  have i46 : In64 x40 := o43.own
  have l47 := i46.lo; have l48 := i46.hi
  refine S.gr 5 (.cons (Q_call fun w hw => c_spec_OutExit w x40 i46) .nil) [GT.val (f_outExit x40) ()] fun ac w β S => ?_
  exact retD1_of (F1 := NoB) (p := ()) S (show True by clear S; trivial) rfl ⟨(outExit_r i46), fun _ h => False.elim h, fun _ h => False.elim h⟩ (fun b h _ => False.elim h) oc
 refine S.gd 7 .nil (x1 == 3) (fun ac w β h49 g50 S => ?_) (fun ac w β h49 g50 S => ?_)
 ·refine S.gr 8 (.cons (Q_sem (s := Instr.build 49 [(0, I 4)].toArray) (v := .agg [I 4, I 0, B false, I 0].toArray) (fun w => by kernel_rfl)) .nil) [GT.val (⟨4, 0, false, 0⟩ : TExit) ()] fun ac w β S => ?_
  exact retD1_of (F1 := NoB) (p := ()) S (show True by clear S; trivial) rfl ⟨(show RExit (⟨4, 0, false, 0⟩ : TExit) from ⟨(show In64 4 from ⟨by decide, by decide⟩), (show In64 0 from ⟨by decide, by decide⟩), (show In64 0 from ⟨by decide, by decide⟩)⟩), fun _ h => False.elim h, fun _ h => False.elim h⟩ (fun b h _ => False.elim h) oc
 refine S.gr 11 (.cons (Q_sem (s := Instr.build 49 [].toArray) (v := .agg [I 0, I 0, B false, I 0].toArray) (fun w => by kernel_rfl)) .nil) [GT.val (⟨0, 0, false, 0⟩ : TExit) ()] fun ac w β S => ?_
 exact retD1_of (F1 := NoB) (p := ()) S (show True by clear S; trivial) rfl ⟨(show RExit (⟨0, 0, false, 0⟩ : TExit) from ⟨(show In64 0 from ⟨by decide, by decide⟩), (show In64 0 from ⟨by decide, by decide⟩), (show In64 0 from ⟨by decide, by decide⟩)⟩), fun _ h => False.elim h, fun _ h => False.elim h⟩ (fun b h _ => False.elim h) oc

theorem c_spec_l15Guest (w0 : World) (bs : List TByte) (pbs : LP TByte) (G F : Bl) (q : LP TCur) (hc : Cu bs pbs G F w0 q) : Calls Tryz.prog 97 [pt q.1.b (q.1.off + 0 * 3)].toArray w0 (RetD1 bs pbs G F q w0 (fun (r : TGuest) => r.seen.length ≤ 4)) := by
 refine Calls.run F Tryz.func97 ?_
 intro ac β S
 have oc := hc.oc
 refine S.go 8 .nil fun ac w β S => S.KD1 (d := 6) oc (c_spec_l10Prog w bs pbs G F q (S.cu oc)) fun ac w N x1 q2 F3 S h6 up o4 d5 ocn => ?_
 replace oc := ocn
 clear up d5
 have l8 := LRd.le o4.rn
 refine S.K1 (r := f_guestNew x1) (d := 7) (c_spec_GuestNew w x1 q2 (S.rd o4.rn)) fun ac w N q9 F10 S up o11 d12 => ?_
 have d13 := Disj.w d12 oc.sub
 replace oc := oc.up up
 clear up d12
 have i27 : In64 (f_guestNew x1).pend := RGuest.pend (d := (f_guestNew x1)) o11.rn
 have i28 : RExit (f_guestNew x1).exit := RGuest.exit (d := (f_guestNew x1)) o11.rn
 obtain ⟨F15, F20, F23, F29, o16, o21, o24, o30, s17, _, _, s31, _, _, d34, _, _, _⟩ := sp_Guest o11
 refine S.go 7 .nil fun ac w β S => S.KD1 (d := 9) oc (c_spec_l03Table w bs pbs G F q (S.cu oc) 4 (show In64 4 from ⟨by decide, by decide⟩) 8 (show In64 8 from ⟨by decide, by decide⟩) (by omega)) fun ac w N x38 q39 F40 S h43 up o41 d42 ocn => ?_
 have d44 := Disj.w d42 o16.sub
 have d47 := Disj.w d42 o30.sub
 have d48 := Disj.w d42 oc.sub
 replace o16 := o16.upF (Disj.part (Disj.symm d13) s17) up
 replace o30 := o30.upF (Disj.part (Disj.symm d13) s31) up
 replace oc := ocn
 clear up d42
 have l49 := LRd.le o41.rn
 refine S.go 7 .nil fun ac w β S => S.KD1 (d := 12) oc (c_spec_l03Table w bs pbs G F q (S.cu oc) 4 (show In64 4 from ⟨by decide, by decide⟩) 8 (show In64 8 from ⟨by decide, by decide⟩) (by omega)) fun ac w N x50 q51 F52 S h55 up o53 d54 ocn => ?_
 have d56 := Disj.w d54 o16.sub
 have d58 := Disj.w d54 o30.sub
 have d59 := Disj.w d54 o41.sub
 have d60 := Disj.w d54 oc.sub
 replace o16 := o16.upF (Disj.part (Disj.symm d13) s17) up
 replace o30 := o30.upF (Disj.part (Disj.symm d13) s31) up
 replace o41 := o41.upF (Disj.symm d48) up
 replace oc := ocn
 clear up d54
 have l61 := LRd.le o53.rn
 refine S.go 7 .nil fun ac w β S => S.KD1 (d := 15) oc (c_spec_l01Below w bs pbs G F q (S.cu oc) 100 (show In64 100 from ⟨by decide, by decide⟩)) fun ac w N x62 q63 F64 S h67 up o65 d66 ocn => ?_
 replace o16 := o16.upF (Disj.part (Disj.symm d13) s17) up
 replace o30 := o30.upF (Disj.part (Disj.symm d13) s31) up
 replace o41 := o41.upF (Disj.symm d48) up
 replace o53 := o53.upF (Disj.symm d60) up
 replace oc := ocn
 clear up d66
 have i68 : In64 x62 := o65.own
 have l69 := i68.lo; have l70 := i68.hi
 refine S.go 7 .nil fun ac w β S => S.KD1 (d := 18) oc (c_spec_l01Below w bs pbs G F q (S.cu oc) 4 (show In64 4 from ⟨by decide, by decide⟩)) fun ac w N x71 q72 F73 S h76 up o74 d75 ocn => ?_
 replace o16 := o16.upF (Disj.part (Disj.symm d13) s17) up
 replace o30 := o30.upF (Disj.part (Disj.symm d13) s31) up
 replace o41 := o41.upF (Disj.symm d48) up
 replace o53 := o53.upF (Disj.symm d60) up
 replace oc := ocn
 clear up d75
 have i77 : In64 x71 := o74.own
 have l78 := i77.lo; have l79 := i77.hi
 refine S.go 7 .nil fun ac w β S => S.KD1 (d := 21) oc (c_spec_l11Ctl w bs pbs G F q (S.cu oc)) fun ac w N x80 q81 F82 S h85 up o83 d84 ocn => ?_
 replace o16 := o16.upF (Disj.part (Disj.symm d13) s17) up
 replace o30 := o30.upF (Disj.part (Disj.symm d13) s31) up
 replace o41 := o41.upF (Disj.symm d48) up
 replace o53 := o53.upF (Disj.symm d60) up
 replace oc := ocn
 clear up d84
 have i86 : RCtl x80 := o83.own
 refine S.go 8 .nil fun ac w β S => S.KD1 (d := 24) oc (c_spec_l01Once w bs pbs G F q (S.cu oc) 3 (show In64 3 from ⟨by decide, by decide⟩)) fun ac w N x87 q88 F89 S h92 up o90 d91 ocn => ?_
 replace o16 := o16.upF (Disj.part (Disj.symm d13) s17) up
 replace o30 := o30.upF (Disj.part (Disj.symm d13) s31) up
 replace o41 := o41.upF (Disj.symm d48) up
 replace o53 := o53.upF (Disj.symm d60) up
 replace oc := ocn
 clear up d91
 refine S.gb 2 .nil x87 (fun ac w β h93 S => ?_) (fun ac w β h93 S => ?_)
 ·refine S.go 3 .nil fun ac w β S => S.KD1 (d := 26) oc (c_spec_l01Below w bs pbs G F q (S.cu oc) 256 (show In64 256 from ⟨by decide, by decide⟩)) fun ac w N x94 q95 F96 S h99 up o97 d98 ocn => ?_
  replace o16 := o16.upF (Disj.part (Disj.symm d13) s17) up
  replace o30 := o30.upF (Disj.part (Disj.symm d13) s31) up
  replace o41 := o41.upF (Disj.symm d48) up
  replace o53 := o53.upF (Disj.symm d60) up
  replace oc := ocn
  clear up d98
  have i100 : In64 x94 := o97.own
  have l101 := i100.lo; have l102 := i100.hi
  refine S.go 8 .nil fun ac w β S => S.KD1 (d := 29) oc (c_spec_l01Once w bs pbs G F q (S.cu oc) 4 (show In64 4 from ⟨by decide, by decide⟩)) fun ac w N x103 q104 F105 S h108 up o106 d107 ocn => ?_
  replace o16 := o16.upF (Disj.part (Disj.symm d13) s17) up
  replace o30 := o30.upF (Disj.part (Disj.symm d13) s31) up
  replace o41 := o41.upF (Disj.symm d48) up
  replace o53 := o53.upF (Disj.symm d60) up
  replace oc := ocn
  clear up d107
  refine S.gb 2 .nil x103 (fun ac w β h109 S => ?_) (fun ac w β h109 S => ?_)
  ·refine S.go 3 .nil fun ac w β S => S.KD1 (d := 31) oc (c_spec_l13Exit w bs pbs G F q (S.cu oc)) fun ac w N x110 q111 F112 S h115 up o113 d114 ocn => ?_
   replace o16 := o16.upF (Disj.part (Disj.symm d13) s17) up
   replace o30 := o30.upF (Disj.part (Disj.symm d13) s31) up
   replace o41 := o41.upF (Disj.symm d48) up
   replace o53 := o53.upF (Disj.symm d60) up
   replace oc := ocn
   clear up d114
   have i116 : RExit x110 := o113.own
   refine S.go 7 .nil fun ac w β S => S.KD1 (d := 34) oc (c_spec_l01Once w bs pbs G F q (S.cu oc) 12 (show In64 12 from ⟨by decide, by decide⟩)) fun ac w N x117 q118 F119 S h122 up o120 d121 ocn => ?_
   replace o16 := o16.upF (Disj.part (Disj.symm d13) s17) up
   replace o30 := o30.upF (Disj.part (Disj.symm d13) s31) up
   replace o41 := o41.upF (Disj.symm d48) up
   replace o53 := o53.upF (Disj.symm d60) up
   replace oc := ocn
   clear up d121
   refine S.go 11 .nil fun ac w β S => ?_
   refine lp (fun mm ac w => ∃ (k : Nat) (sn : List Int) (q123 : _) (F124 : _) (u : _) (N : _) (β : _), mm = 4 - k ∧ (k ≤ 4) ∧ (sn.length = k) ∧ St Tryz.prog Tryz.f97.ntmps w0 F u N β ⟨[(0, .v (pt q.1.b (q.1.off + 0 * 3))), (2, .p 0 0), (3, .p 1 0), (4, .v (I (k : Int)))], [Zc TGuest, [slv (f_guestNew x1).prog.length q9.prog.1, I x62, I x71, slv x38.length q39.1, slv x50.length q51.1, I x80.traps, I x80.post, B x80.opn, I x94, I x110.kind, I x110.page, B x110.wr, I x110.n, B x117, slv sn.length q123.1]]⟩ ac w ∧ Ow w0 F u N F124 sn q123 ∧ Ow w0 F u N F15 (f_guestNew x1).prog q9.prog ∧ Ow w0 F u N F40 x38 q39 ∧ Ow w0 F u N F52 x50 q51 ∧ Oc bs pbs G w0 F u N F q ∧ Disj F124 F15 ∧ Disj F124 F40 ∧ Disj F124 F52 ∧ Disj F124 F) _ ⟨0, (f_guestNew x1).seen, q9.seen, F29, _, _, _, rfl, o0, (by rfl), S.z, o30, o16, o41, o53, oc, (Disj.symm d34), d47, d58, (Disj.part (Disj.symm d13) s31)⟩ ?_
   clear S o16 o30 o41 o53 oc
   rintro f130 mm hf131 ac w ⟨k, sn, q123, F124, u, N, β, rfl, hk, hl, S, o125, o16, o41, o53, oc, d126, d127, d128, d129⟩
   refine S.rs fun S => ?_
   refine S.go 5 .nil fun ac w β S => S.KD1 (d := 38) oc (c_spec_l01Below w bs pbs G F q (S.cu oc) 4 (show In64 4 from ⟨by decide, by decide⟩)) fun ac w N x132 q133 F134 S h137 up o135 d136 ocn => ?_
   replace o125 := o125.upF d129 up
   replace o16 := o16.upF (Disj.part (Disj.symm d13) s17) up
   replace o41 := o41.upF (Disj.symm d48) up
   replace o53 := o53.upF (Disj.symm d60) up
   replace oc := ocn
   clear up d136
   have i138 : In64 x132 := o135.own
   have l139 := i138.lo; have l140 := i138.hi
   refine S.gd 3 .nil (decide ((k : Int) < x132)) (fun ac w β h141 g142 S => ?_) (fun ac w β h141 g142 S => ?_)
   ·refine S.go 5 .nil fun ac w β S => ?_
    refine drw ?_
    let σ143 : Sy := ⟨[(0, .v (pt q.1.b (q.1.off + 0 * 3))), (2, .p 0 0), (3, .p 1 0), (4, .v (I (k : Int))), (39, .v (B true))], [Zc TGuest, [slv (f_guestNew x1).prog.length q9.prog.1, I x62, I x71, slv x38.length q39.1, slv x50.length q51.1, I x80.traps, I x80.post, B x80.opn, I x94, I x110.kind, I x110.page, B x110.wr, I x110.n, B x117, slv sn.length q123.1]]⟩
    obtain ⟨u0, N0, β0, S, o125, o16, o41, o53, oc⟩ : ∃ u0 N0 β0, St Tryz.prog Tryz.f97.ntmps w0 F u0 N0 β0 σ143 ac w ∧ Ow w0 F u0 N0 F124 sn q123 ∧ Ow w0 F u0 N0 F15 (f_guestNew x1).prog q9.prog ∧ Ow w0 F u0 N0 F40 x38 q39 ∧ Ow w0 F u0 N0 F52 x50 q51 ∧ Oc bs pbs G w0 F u0 N0 F q := ⟨_, _, _, S.z, o125, o16, o41, o53, oc⟩
    refine wp_region_cut (fun ac w => ∃  (x149 : Int) (q198 : GT.Ptr (List Int)) (F199 : Bl) (u : _) (N : _) (β : _), St Tryz.prog Tryz.f97.ntmps w0 F u N β (σ143.dl [39] [] 2 [(1, [slv (f_guestNew x1).prog.length q9.prog.1, I x62, I x71, slv x38.length q39.1, slv x50.length q51.1, I x80.traps, I x80.post, B x80.opn, I x94, I x110.kind, I x110.page, B x110.wr, I x110.n, B x117, slv (sn ++ [x149]).length q198.1])]) ac w ∧ Ow w0 F u N F15 (f_guestNew x1).prog q9.prog ∧ Ow w0 F u N F40 x38 q39 ∧ Ow w0 F u N F52 x50 q51 ∧ Oc bs pbs G w0 F u N F q ∧ Ow w0 F u N F199 (sn ++ [x149]) q198 ∧ Disj F15 F199 ∧ Disj F40 F199 ∧ Disj F52 F199 ∧ Disj F F199 ∧ In64 x62 ∧ In64 x71 ∧ In64 x94 ∧ RCtl x80 ∧ RExit x110 ∧ (((100 : Int) ≤ 0 → x149 = 0) ∧ ((0 : Int) < 100 → 0 ≤ x149 ∧ x149 < 100)) ∧ (In64 x149)) ?_ ?_
    ·refine S.draw0 (f := 8) 3 (by kernel_rfl) (by kernel_rfl) fun w S => ?_
     refine S.hq 2 [2] [] [(44, .v (pt q.1.b (q.1.off + 0 * 3)))] .nil fun ac S => ?_
     refine WD.nameW fun W hW => ?_
     refine WD.castW (l' := mkL 8 [2]) (by kernel_rfl) ?_
     have hK200 ac w (x149 : Int) q198 F199 u N β (S : St Tryz.prog Tryz.f97.ntmps w0 F u N β (σ143.dl [39] [] 2 [(1, [slv (f_guestNew x1).prog.length q9.prog.1, I x62, I x71, slv x38.length q39.1, slv x50.length q51.1, I x80.traps, I x80.post, B x80.opn, I x94, I x110.kind, I x110.page, B x110.wr, I x110.n, B x117, slv (sn ++ [x149]).length q198.1])]) ac w) (o16 : Ow w0 F u N F15 (f_guestNew x1).prog q9.prog) (o41 : Ow w0 F u N F40 x38 q39) (o53 : Ow w0 F u N F52 x50 q51) (oc : Oc bs pbs G w0 F u N F q) (o197 : Ow w0 F u N F199 (sn ++ [x149]) q198) (d201 : Disj F15 F199) (d202 : Disj F40 F199) (d203 : Disj F52 F199) (d204 : Disj F F199) (i144 : In64 x62) (i145 : In64 x71) (i147 : In64 x94) (i146 : RCtl x80) (i148 : RExit x110) (h154 : (((100 : Int) ≤ 0 → x149 = 0) ∧ ((0 : Int) < 100 → 0 ≤ x149 ∧ x149 < 100))) (i155 : (In64 x149)) : W 0 (mkL 8 [0, 1, 2, 3, 4, 5, 6, 7]) ac w := by
      have l205 := i155.lo; have l206 := i155.hi
      exact od hW ⟨rfl, x149, q198, F199, _, _, _, S.z, o16, o41, o53, oc, o197, d201, d202, d203, d204, i144, i145, i147, i146, i148, h154, i155⟩
     have hK207 ac w (x149 : Int) q195 F196 u N β (S : St Tryz.prog Tryz.f97.ntmps w0 F u N β (σ143.dl [39] [(47, .v (slv (sn ++ [x149]).length q195.1)), (48, .p 1 14)] 2 []) ac w) (o16 : Ow w0 F u N F15 (f_guestNew x1).prog q9.prog) (o41 : Ow w0 F u N F40 x38 q39) (o53 : Ow w0 F u N F52 x50 q51) (oc : Oc bs pbs G w0 F u N F q) (o194 : Ow w0 F u N F196 (sn ++ [x149]) q195) (d208 : Disj F15 F196) (d209 : Disj F40 F196) (d210 : Disj F52 F196) (d211 : Disj F F196) (i144 : In64 x62) (i145 : In64 x71) (i147 : In64 x94) (i146 : RCtl x80) (i148 : RExit x110) (h154 : (((100 : Int) ≤ 0 → x149 = 0) ∧ ((0 : Int) < 100 → 0 ≤ x149 ∧ x149 < 100))) (i155 : (In64 x149)) : W 1 (mkL 8 [0, 1, 2, 3, 4, 5, 6]) ac w := by
      have l212 := i155.lo; have l213 := i155.hi
      exact ox1 hW 7 (S.wl hW [] .nil fun _ _ _ S => hK200 _ _ x149 q195 F196 _ _ _ S o16 o41 o53 oc o194 d208 d209 d210 d211 i144 i145 i147 i146 i148 h154 i155)
     have hK214 ac w (x149 : Int) q174 F175 u N β (S : St Tryz.prog Tryz.f97.ntmps w0 F u N β (σ143.dl [39] [(43, .v (slv sn.length q123.1)), (46, .v (slv 1 q174.1))] 2 []) ac w) (o125 : Ow w0 F u N F124 sn q123) (o16 : Ow w0 F u N F15 (f_guestNew x1).prog q9.prog) (o41 : Ow w0 F u N F40 x38 q39) (o53 : Ow w0 F u N F52 x50 q51) (oc : Oc bs pbs G w0 F u N F q) (o173 : Ow w0 F u N F175 ([x149]) q174) (d215 : Disj F124 F175) (d216 : Disj F15 F175) (d217 : Disj F40 F175) (d218 : Disj F52 F175) (d219 : Disj F F175) (i144 : In64 x62) (i145 : In64 x71) (i147 : In64 x94) (i146 : RCtl x80) (i148 : RExit x110) (h154 : (((100 : Int) ≤ 0 → x149 = 0) ∧ ((0 : Int) < 100 → 0 ≤ x149 ∧ x149 < 100))) (i155 : (In64 x149)) : W 3 (mkL 8 [0, 1, 2, 3, 4]) ac w := by
      have l220 := i155.lo; have l221 := i155.hi
      refine ox1 hW 5 ?_
      refine id (S.appFlat (α := Int) o125 o173.rn (fun _ _ h => h) (by' := 8) (d := 47) (lx := sn.length) (ly := 1) rfl rfl (by kernel_rfl) (show _ ≤ 4194304 by simp only [List.length_append, List.length_cons, List.length_nil]; omega) fun ac w N q222 F223 S up o224 d225 => ?_)
      refine WD.sl fun hC => ?_
      have d226 := d225 _ (Disj.symm d126) o16.sub
      have d227 := d225 _ (Disj.symm d127) o41.sub
      have d228 := d225 _ (Disj.symm d128) o53.sub
      have d229 := d225 _ (Disj.symm d129) oc.sub
      replace o16 := o16.upF (Disj.symm d126) up
      replace o41 := o41.upF (Disj.symm d127) up
      replace o53 := o53.upF (Disj.symm d128) up
      replace oc := oc.upF (Disj.symm d129) up
      replace o173 := o173.upF (Disj.symm d215) up
      clear up d225
      exact S.wh hW [6] hC fun _ S => hK207 _ _ x149 q222 F223 _ _ _ S o16 o41 o53 oc o224 d226 d227 d228 d229 i144 i145 i147 i146 i148 h154 i155
     have hK231 ac w (x149 : Int) u N β (S : St Tryz.prog Tryz.f97.ntmps w0 F u N β (σ143.dl [39] [(43, .v (slv sn.length q123.1)), (45, .v (I x149))] 2 []) ac w) (o125 : Ow w0 F u N F124 sn q123) (o16 : Ow w0 F u N F15 (f_guestNew x1).prog q9.prog) (o41 : Ow w0 F u N F40 x38 q39) (o53 : Ow w0 F u N F52 x50 q51) (oc : Oc bs pbs G w0 F u N F q) (i144 : In64 x62) (i145 : In64 x71) (i147 : In64 x94) (i146 : RCtl x80) (i148 : RExit x110) (h154 : (((100 : Int) ≤ 0 → x149 = 0) ∧ ((0 : Int) < 100 → 0 ≤ x149 ∧ x149 < 100))) (i155 : (In64 x149)) : W 4 (mkL 8 [0, 1, 2, 3]) ac w := by
      have l232 := i155.lo; have l233 := i155.hi
      refine ox1 hW 4 ?_
      refine id (S.bs1 (α := Int) (x := x149) (p := ()) (F := NoB) i155 (fun b h => False.elim h) (fun b h => False.elim h) (d := 46) (by kernel_rfl) fun ac w N q234 F235 S up o236 d237 => ?_)
      refine WD.sl fun hC => ?_
      have d238 := d237 _ (fun b _ h => False.elim h) o125.sub
      have d239 := d237 _ (fun b _ h => False.elim h) o16.sub
      have d240 := d237 _ (fun b _ h => False.elim h) o41.sub
      have d241 := d237 _ (fun b _ h => False.elim h) o53.sub
      have d242 := d237 _ (fun b _ h => False.elim h) oc.sub
      replace o125 := o125.up up
      replace o16 := o16.up up
      replace o41 := o41.up up
      replace o53 := o53.up up
      replace oc := oc.up up
      clear up d237
      exact S.wh hW [] hC fun _ S => hK214 _ _ x149 q234 F235 _ _ _ S o125 o16 o41 o53 oc o236 d238 d239 d240 d241 d242 i144 i145 i147 i146 i148 h154 i155
     have hK243 ac w (x149 : Int) q174 F175 u N β (S : St Tryz.prog Tryz.f97.ntmps w0 F u N β (σ143.dl [39] [(42, .p 1 14), (46, .v (slv 1 q174.1))] 2 []) ac w) (o125 : Ow w0 F u N F124 sn q123) (o16 : Ow w0 F u N F15 (f_guestNew x1).prog q9.prog) (o41 : Ow w0 F u N F40 x38 q39) (o53 : Ow w0 F u N F52 x50 q51) (oc : Oc bs pbs G w0 F u N F q) (o173 : Ow w0 F u N F175 ([x149]) q174) (d244 : Disj F124 F175) (d245 : Disj F15 F175) (d246 : Disj F40 F175) (d247 : Disj F52 F175) (d248 : Disj F F175) (i144 : In64 x62) (i145 : In64 x71) (i147 : In64 x94) (i146 : RCtl x80) (i148 : RExit x110) (h154 : (((100 : Int) ≤ 0 → x149 = 0) ∧ ((0 : Int) < 100 → 0 ≤ x149 ∧ x149 < 100))) (i155 : (In64 x149)) : W 4 (mkL 8 [0, 2, 3, 4]) ac w := by
      have l249 := i155.lo; have l250 := i155.hi
      exact ox1 hW 1 (S.wl hW [] .nil fun _ _ _ S => hK214 _ _ x149 q174 F175 _ _ _ S o125 o16 o41 o53 oc o173 d244 d245 d246 d247 d248 i144 i145 i147 i146 i148 h154 i155)
     have hK251 ac w u N β (S : St Tryz.prog Tryz.f97.ntmps w0 F u N β (σ143.dl [39] [(43, .v (slv sn.length q123.1)), (44, .v (pt q.1.b (q.1.off + 0 * 3)))] 2 []) ac w) (o125 : Ow w0 F u N F124 sn q123) (o16 : Ow w0 F u N F15 (f_guestNew x1).prog q9.prog) (o41 : Ow w0 F u N F40 x38 q39) (o53 : Ow w0 F u N F52 x50 q51) (oc : Oc bs pbs G w0 F u N F q) (i144 : In64 x62) (i145 : In64 x71) (i147 : In64 x94) (i146 : RCtl x80) (i148 : RExit x110) (hNN : NN N0 u0 N u) (hBB : BB σ143.bx.length β0 β) : W 5 (mkL 8 [0, 1, 2]) ac w := by
      refine ox1 hW 3 ?_
      refine id (S.callD1 (d := 45) oc (c_spec_l01Below w bs pbs G F q (S.cu oc) 100 (show In64 100 from ⟨by decide, by decide⟩)) fun ac w N x149 q252 F253 S h154 up o254 d255 ocn => ?_)
      refine WD.sl fun hC => ?_
      replace o125 := o125.upF d129 up
      replace o16 := o16.upF (Disj.part (Disj.symm d13) s17) up
      replace o41 := o41.upF (Disj.symm d48) up
      replace o53 := o53.upF (Disj.symm d60) up
      replace oc := ocn
      clear up d255
      have i155 : In64 x149 := o254.own
      have l256 := i155.lo; have l257 := i155.hi
      exact S.wh hW [] hC fun _ S => hK231 _ _ x149 _ _ _ S o125 o16 o41 o53 oc i144 i145 i147 i146 i148 h154 i155
     have hK258 ac w (x149 : Int) u N β (S : St Tryz.prog Tryz.f97.ntmps w0 F u N β (σ143.dl [39] [(42, .p 1 14), (45, .v (I x149))] 2 []) ac w) (o125 : Ow w0 F u N F124 sn q123) (o16 : Ow w0 F u N F15 (f_guestNew x1).prog q9.prog) (o41 : Ow w0 F u N F40 x38 q39) (o53 : Ow w0 F u N F52 x50 q51) (oc : Oc bs pbs G w0 F u N F q) (i144 : In64 x62) (i145 : In64 x71) (i147 : In64 x94) (i146 : RCtl x80) (i148 : RExit x110) (h154 : (((100 : Int) ≤ 0 → x149 = 0) ∧ ((0 : Int) < 100 → 0 ≤ x149 ∧ x149 < 100))) (i155 : (In64 x149)) : W 5 (mkL 8 [0, 2, 3]) ac w := by
      have l259 := i155.lo; have l260 := i155.hi
      refine ox2 hW 1 4 (S.wl hW [] .nil fun _ _ _ S => hK231 _ _ x149 _ _ _ S o125 o16 o41 o53 oc i144 i145 i147 i146 i148 h154 i155) ?_
      refine id (S.bs1 (α := Int) (x := x149) (p := ()) (F := NoB) i155 (fun b h => False.elim h) (fun b h => False.elim h) (d := 46) (by kernel_rfl) fun ac w N q261 F262 S up o263 d264 => ?_)
      refine WD.sl fun hC => ?_
      have d265 := d264 _ (fun b _ h => False.elim h) o125.sub
      have d266 := d264 _ (fun b _ h => False.elim h) o16.sub
      have d267 := d264 _ (fun b _ h => False.elim h) o41.sub
      have d268 := d264 _ (fun b _ h => False.elim h) o53.sub
      have d269 := d264 _ (fun b _ h => False.elim h) oc.sub
      replace o125 := o125.up up
      replace o16 := o16.up up
      replace o41 := o41.up up
      replace o53 := o53.up up
      replace oc := oc.up up
      clear up d264
      exact S.wh hW [] hC fun _ S => hK243 _ _ x149 q261 F262 _ _ _ S o125 o16 o41 o53 oc o263 d265 d266 d267 d268 d269 i144 i145 i147 i146 i148 h154 i155
     have hK270 ac w u N β (S : St Tryz.prog Tryz.f97.ntmps w0 F u N β (σ143.dl [39] [(42, .p 1 14), (44, .v (pt q.1.b (q.1.off + 0 * 3)))] 2 []) ac w) (o125 : Ow w0 F u N F124 sn q123) (o16 : Ow w0 F u N F15 (f_guestNew x1).prog q9.prog) (o41 : Ow w0 F u N F40 x38 q39) (o53 : Ow w0 F u N F52 x50 q51) (oc : Oc bs pbs G w0 F u N F q) (hNN : NN N0 u0 N u) (hBB : BB σ143.bx.length β0 β) : W 6 (mkL 8 [0, 2]) ac w := by
      refine ox2 hW 1 3 (S.wq hW hNN hBB [] .nil fun _ _ _ S hB => hK251 _ _ _ _ _ S o125 o16 o41 o53 oc i68 i77 i100 i86 i116 hNN hB) ?_
      refine id (S.callD1 (d := 45) oc (c_spec_l01Below w bs pbs G F q (S.cu oc) 100 (show In64 100 from ⟨by decide, by decide⟩)) fun ac w N x149 q271 F272 S h154 up o273 d274 ocn => ?_)
      refine WD.sl fun hC => ?_
      replace o125 := o125.upF d129 up
      replace o16 := o16.upF (Disj.part (Disj.symm d13) s17) up
      replace o41 := o41.upF (Disj.symm d48) up
      replace o53 := o53.upF (Disj.symm d60) up
      replace oc := ocn
      clear up d274
      have i155 : In64 x149 := o273.own
      have l275 := i155.lo; have l276 := i155.hi
      exact S.wh hW [] hC fun _ S => hK258 _ _ x149 _ _ _ S o125 o16 o41 o53 oc i68 i77 i100 i86 i116 h154 i155
     rw [hW]
     exact S.wh hW [0] (fun _ => S.rcx) fun _ S => hK270 _ _ _ _ _ S o125 o16 o41 o53 oc (fun _ h => ⟨h, rfl⟩) (fun _ _ => rfl)
    clear S o125 o16 o41 o53 oc
    rintro ac w ⟨x149, q198, F199, u, N, β, S, o16, o41, o53, oc, o197, d277, d278, d279, d280, i144, i145, i147, i146, i148, h154, i155⟩
    have l281 := i155.lo; have l282 := i155.hi
    refine S.ex fun S => ?_
    refine S.ge 7 (.cons (qp (k : Int) 1) .nil) f130 fun ac w β S => hf131.of (4 - (k + 1)) _ _ (by omega) ⟨k + 1, (sn ++ [x149]), q198, F199, _, _, _, rfl, ?_, ?_, S.z, o197, o16, o41, o53, oc, (Disj.symm d277), (Disj.symm d278), (Disj.symm d279), (Disj.symm d280)⟩
    ·exact oz
    ·clear S; (simp; omega)
   refine S.gr 13 .nil [GT.val (⟨(f_guestNew x1).prog, x62, x71, x38, x50, x80, x94, x110, x117, sn⟩ : TGuest) (⟨q9.prog, q39, q51, q123⟩ : PGuest)] fun ac w β S => ?_
   have o283 := ow_Guest (x := (⟨(f_guestNew x1).prog, x62, x71, x38, x50, x80, x94, x110, x117, sn⟩ : TGuest)) (p := (⟨q9.prog, q39, q51, q123⟩ : PGuest)) o16 o41 o53 o125 d44 d56 (Disj.symm d126) d59 (Disj.symm d127) (Disj.symm d128) i68 i77 i86 i100 i116
   exact retD1_of S (show (⟨(f_guestNew x1).prog, x62, x71, x38, x50, x80, x94, x110, x117, sn⟩ : TGuest).seen.length ≤ 4 by clear S; (show sn.length ≤ 4; omega)) rfl o283 (Disj.or (Disj.part (Disj.symm d13) s17) (Disj.or (Disj.symm d48) (Disj.or (Disj.symm d60) (Disj.or d129 Disj.nob)))) oc
  refine S.go 6 .nil fun ac w β S => S.KD1 (d := 34) oc (c_spec_l01Once w bs pbs G F q (S.cu oc) 12 (show In64 12 from ⟨by decide, by decide⟩)) fun ac w N x284 q285 F286 S h289 up o287 d288 ocn => ?_
  replace o16 := o16.upF (Disj.part (Disj.symm d13) s17) up
  replace o30 := o30.upF (Disj.part (Disj.symm d13) s31) up
  replace o41 := o41.upF (Disj.symm d48) up
  replace o53 := o53.upF (Disj.symm d60) up
  replace oc := ocn
  clear up d288
  refine S.go 11 .nil fun ac w β S => ?_
  refine lp (fun mm ac w => ∃ (k : Nat) (sn : List Int) (q290 : _) (F291 : _) (u : _) (N : _) (β : _), mm = 4 - k ∧ (k ≤ 4) ∧ (sn.length = k) ∧ St Tryz.prog Tryz.f97.ntmps w0 F u N β ⟨[(0, .v (pt q.1.b (q.1.off + 0 * 3))), (2, .p 0 0), (3, .p 1 0), (4, .v (I (k : Int)))], [Zc TGuest, [slv (f_guestNew x1).prog.length q9.prog.1, I x62, I x71, slv x38.length q39.1, slv x50.length q51.1, I x80.traps, I x80.post, B x80.opn, I x94, I (f_guestNew x1).exit.kind, I (f_guestNew x1).exit.page, B (f_guestNew x1).exit.wr, I (f_guestNew x1).exit.n, B x284, slv sn.length q290.1]]⟩ ac w ∧ Ow w0 F u N F291 sn q290 ∧ Ow w0 F u N F15 (f_guestNew x1).prog q9.prog ∧ Ow w0 F u N F40 x38 q39 ∧ Ow w0 F u N F52 x50 q51 ∧ Oc bs pbs G w0 F u N F q ∧ Disj F291 F15 ∧ Disj F291 F40 ∧ Disj F291 F52 ∧ Disj F291 F) _ ⟨0, (f_guestNew x1).seen, q9.seen, F29, _, _, _, rfl, o0, (by rfl), S.z, o30, o16, o41, o53, oc, (Disj.symm d34), d47, d58, (Disj.part (Disj.symm d13) s31)⟩ ?_
  clear S o16 o30 o41 o53 oc
  rintro f297 mm hf298 ac w ⟨k, sn, q290, F291, u, N, β, rfl, hk, hl, S, o292, o16, o41, o53, oc, d293, d294, d295, d296⟩
  refine S.rs fun S => ?_
  refine S.go 5 .nil fun ac w β S => S.KD1 (d := 38) oc (c_spec_l01Below w bs pbs G F q (S.cu oc) 4 (show In64 4 from ⟨by decide, by decide⟩)) fun ac w N x299 q300 F301 S h304 up o302 d303 ocn => ?_
  replace o292 := o292.upF d296 up
  replace o16 := o16.upF (Disj.part (Disj.symm d13) s17) up
  replace o41 := o41.upF (Disj.symm d48) up
  replace o53 := o53.upF (Disj.symm d60) up
  replace oc := ocn
  clear up d303
  have i305 : In64 x299 := o302.own
  have l306 := i305.lo; have l307 := i305.hi
  refine S.gd 3 .nil (decide ((k : Int) < x299)) (fun ac w β h308 g309 S => ?_) (fun ac w β h308 g309 S => ?_)
  ·refine S.go 5 .nil fun ac w β S => ?_
   refine drw ?_
   let σ310 : Sy := ⟨[(0, .v (pt q.1.b (q.1.off + 0 * 3))), (2, .p 0 0), (3, .p 1 0), (4, .v (I (k : Int))), (39, .v (B true))], [Zc TGuest, [slv (f_guestNew x1).prog.length q9.prog.1, I x62, I x71, slv x38.length q39.1, slv x50.length q51.1, I x80.traps, I x80.post, B x80.opn, I x94, I (f_guestNew x1).exit.kind, I (f_guestNew x1).exit.page, B (f_guestNew x1).exit.wr, I (f_guestNew x1).exit.n, B x284, slv sn.length q290.1]]⟩
   obtain ⟨u0, N0, β0, S, o292, o16, o41, o53, oc⟩ : ∃ u0 N0 β0, St Tryz.prog Tryz.f97.ntmps w0 F u0 N0 β0 σ310 ac w ∧ Ow w0 F u0 N0 F291 sn q290 ∧ Ow w0 F u0 N0 F15 (f_guestNew x1).prog q9.prog ∧ Ow w0 F u0 N0 F40 x38 q39 ∧ Ow w0 F u0 N0 F52 x50 q51 ∧ Oc bs pbs G w0 F u0 N0 F q := ⟨_, _, _, S.z, o292, o16, o41, o53, oc⟩
   refine wp_region_cut (fun ac w => ∃  (x316 : Int) (q365 : GT.Ptr (List Int)) (F366 : Bl) (u : _) (N : _) (β : _), St Tryz.prog Tryz.f97.ntmps w0 F u N β (σ310.dl [39] [] 2 [(1, [slv (f_guestNew x1).prog.length q9.prog.1, I x62, I x71, slv x38.length q39.1, slv x50.length q51.1, I x80.traps, I x80.post, B x80.opn, I x94, I (f_guestNew x1).exit.kind, I (f_guestNew x1).exit.page, B (f_guestNew x1).exit.wr, I (f_guestNew x1).exit.n, B x284, slv (sn ++ [x316]).length q365.1])]) ac w ∧ Ow w0 F u N F15 (f_guestNew x1).prog q9.prog ∧ Ow w0 F u N F40 x38 q39 ∧ Ow w0 F u N F52 x50 q51 ∧ Oc bs pbs G w0 F u N F q ∧ Ow w0 F u N F366 (sn ++ [x316]) q365 ∧ Disj F15 F366 ∧ Disj F40 F366 ∧ Disj F52 F366 ∧ Disj F F366 ∧ In64 x62 ∧ In64 x71 ∧ In64 x94 ∧ RCtl x80 ∧ RExit (f_guestNew x1).exit ∧ (((100 : Int) ≤ 0 → x316 = 0) ∧ ((0 : Int) < 100 → 0 ≤ x316 ∧ x316 < 100)) ∧ (In64 x316)) ?_ ?_
   ·refine S.draw0 (f := 8) 3 (by kernel_rfl) (by kernel_rfl) fun w S => ?_
    refine S.hq 2 [2] [] [(44, .v (pt q.1.b (q.1.off + 0 * 3)))] .nil fun ac S => ?_
    refine WD.nameW fun W hW => ?_
    refine WD.castW (l' := mkL 8 [2]) (by kernel_rfl) ?_
    have hK367 ac w (x316 : Int) q365 F366 u N β (S : St Tryz.prog Tryz.f97.ntmps w0 F u N β (σ310.dl [39] [] 2 [(1, [slv (f_guestNew x1).prog.length q9.prog.1, I x62, I x71, slv x38.length q39.1, slv x50.length q51.1, I x80.traps, I x80.post, B x80.opn, I x94, I (f_guestNew x1).exit.kind, I (f_guestNew x1).exit.page, B (f_guestNew x1).exit.wr, I (f_guestNew x1).exit.n, B x284, slv (sn ++ [x316]).length q365.1])]) ac w) (o16 : Ow w0 F u N F15 (f_guestNew x1).prog q9.prog) (o41 : Ow w0 F u N F40 x38 q39) (o53 : Ow w0 F u N F52 x50 q51) (oc : Oc bs pbs G w0 F u N F q) (o364 : Ow w0 F u N F366 (sn ++ [x316]) q365) (d368 : Disj F15 F366) (d369 : Disj F40 F366) (d370 : Disj F52 F366) (d371 : Disj F F366) (i311 : In64 x62) (i312 : In64 x71) (i314 : In64 x94) (i313 : RCtl x80) (i315 : RExit (f_guestNew x1).exit) (h321 : (((100 : Int) ≤ 0 → x316 = 0) ∧ ((0 : Int) < 100 → 0 ≤ x316 ∧ x316 < 100))) (i322 : (In64 x316)) : W 0 (mkL 8 [0, 1, 2, 3, 4, 5, 6, 7]) ac w := by
     have l372 := i322.lo; have l373 := i322.hi
     exact od hW ⟨rfl, x316, q365, F366, _, _, _, S.z, o16, o41, o53, oc, o364, d368, d369, d370, d371, i311, i312, i314, i313, i315, h321, i322⟩
    have hK374 ac w (x316 : Int) q362 F363 u N β (S : St Tryz.prog Tryz.f97.ntmps w0 F u N β (σ310.dl [39] [(47, .v (slv (sn ++ [x316]).length q362.1)), (48, .p 1 14)] 2 []) ac w) (o16 : Ow w0 F u N F15 (f_guestNew x1).prog q9.prog) (o41 : Ow w0 F u N F40 x38 q39) (o53 : Ow w0 F u N F52 x50 q51) (oc : Oc bs pbs G w0 F u N F q) (o361 : Ow w0 F u N F363 (sn ++ [x316]) q362) (d375 : Disj F15 F363) (d376 : Disj F40 F363) (d377 : Disj F52 F363) (d378 : Disj F F363) (i311 : In64 x62) (i312 : In64 x71) (i314 : In64 x94) (i313 : RCtl x80) (i315 : RExit (f_guestNew x1).exit) (h321 : (((100 : Int) ≤ 0 → x316 = 0) ∧ ((0 : Int) < 100 → 0 ≤ x316 ∧ x316 < 100))) (i322 : (In64 x316)) : W 1 (mkL 8 [0, 1, 2, 3, 4, 5, 6]) ac w := by
     have l379 := i322.lo; have l380 := i322.hi
     exact ox1 hW 7 (S.wl hW [] .nil fun _ _ _ S => hK367 _ _ x316 q362 F363 _ _ _ S o16 o41 o53 oc o361 d375 d376 d377 d378 i311 i312 i314 i313 i315 h321 i322)
    have hK381 ac w (x316 : Int) q341 F342 u N β (S : St Tryz.prog Tryz.f97.ntmps w0 F u N β (σ310.dl [39] [(43, .v (slv sn.length q290.1)), (46, .v (slv 1 q341.1))] 2 []) ac w) (o292 : Ow w0 F u N F291 sn q290) (o16 : Ow w0 F u N F15 (f_guestNew x1).prog q9.prog) (o41 : Ow w0 F u N F40 x38 q39) (o53 : Ow w0 F u N F52 x50 q51) (oc : Oc bs pbs G w0 F u N F q) (o340 : Ow w0 F u N F342 ([x316]) q341) (d382 : Disj F291 F342) (d383 : Disj F15 F342) (d384 : Disj F40 F342) (d385 : Disj F52 F342) (d386 : Disj F F342) (i311 : In64 x62) (i312 : In64 x71) (i314 : In64 x94) (i313 : RCtl x80) (i315 : RExit (f_guestNew x1).exit) (h321 : (((100 : Int) ≤ 0 → x316 = 0) ∧ ((0 : Int) < 100 → 0 ≤ x316 ∧ x316 < 100))) (i322 : (In64 x316)) : W 3 (mkL 8 [0, 1, 2, 3, 4]) ac w := by
     have l387 := i322.lo; have l388 := i322.hi
     refine ox1 hW 5 ?_
     refine id (S.appFlat (α := Int) o292 o340.rn (fun _ _ h => h) (by' := 8) (d := 47) (lx := sn.length) (ly := 1) rfl rfl (by kernel_rfl) (show _ ≤ 4194304 by simp only [List.length_append, List.length_cons, List.length_nil]; omega) fun ac w N q389 F390 S up o391 d392 => ?_)
     refine WD.sl fun hC => ?_
     have d393 := d392 _ (Disj.symm d293) o16.sub
     have d394 := d392 _ (Disj.symm d294) o41.sub
     have d395 := d392 _ (Disj.symm d295) o53.sub
     have d396 := d392 _ (Disj.symm d296) oc.sub
     replace o16 := o16.upF (Disj.symm d293) up
     replace o41 := o41.upF (Disj.symm d294) up
     replace o53 := o53.upF (Disj.symm d295) up
     replace oc := oc.upF (Disj.symm d296) up
     replace o340 := o340.upF (Disj.symm d382) up
     clear up d392
     exact S.wh hW [6] hC fun _ S => hK374 _ _ x316 q389 F390 _ _ _ S o16 o41 o53 oc o391 d393 d394 d395 d396 i311 i312 i314 i313 i315 h321 i322
    have hK398 ac w (x316 : Int) u N β (S : St Tryz.prog Tryz.f97.ntmps w0 F u N β (σ310.dl [39] [(43, .v (slv sn.length q290.1)), (45, .v (I x316))] 2 []) ac w) (o292 : Ow w0 F u N F291 sn q290) (o16 : Ow w0 F u N F15 (f_guestNew x1).prog q9.prog) (o41 : Ow w0 F u N F40 x38 q39) (o53 : Ow w0 F u N F52 x50 q51) (oc : Oc bs pbs G w0 F u N F q) (i311 : In64 x62) (i312 : In64 x71) (i314 : In64 x94) (i313 : RCtl x80) (i315 : RExit (f_guestNew x1).exit) (h321 : (((100 : Int) ≤ 0 → x316 = 0) ∧ ((0 : Int) < 100 → 0 ≤ x316 ∧ x316 < 100))) (i322 : (In64 x316)) : W 4 (mkL 8 [0, 1, 2, 3]) ac w := by
     have l399 := i322.lo; have l400 := i322.hi
     refine ox1 hW 4 ?_
     refine id (S.bs1 (α := Int) (x := x316) (p := ()) (F := NoB) i322 (fun b h => False.elim h) (fun b h => False.elim h) (d := 46) (by kernel_rfl) fun ac w N q401 F402 S up o403 d404 => ?_)
     refine WD.sl fun hC => ?_
     have d405 := d404 _ (fun b _ h => False.elim h) o292.sub
     have d406 := d404 _ (fun b _ h => False.elim h) o16.sub
     have d407 := d404 _ (fun b _ h => False.elim h) o41.sub
     have d408 := d404 _ (fun b _ h => False.elim h) o53.sub
     have d409 := d404 _ (fun b _ h => False.elim h) oc.sub
     replace o292 := o292.up up
     replace o16 := o16.up up
     replace o41 := o41.up up
     replace o53 := o53.up up
     replace oc := oc.up up
     clear up d404
     exact S.wh hW [] hC fun _ S => hK381 _ _ x316 q401 F402 _ _ _ S o292 o16 o41 o53 oc o403 d405 d406 d407 d408 d409 i311 i312 i314 i313 i315 h321 i322
    have hK410 ac w (x316 : Int) q341 F342 u N β (S : St Tryz.prog Tryz.f97.ntmps w0 F u N β (σ310.dl [39] [(42, .p 1 14), (46, .v (slv 1 q341.1))] 2 []) ac w) (o292 : Ow w0 F u N F291 sn q290) (o16 : Ow w0 F u N F15 (f_guestNew x1).prog q9.prog) (o41 : Ow w0 F u N F40 x38 q39) (o53 : Ow w0 F u N F52 x50 q51) (oc : Oc bs pbs G w0 F u N F q) (o340 : Ow w0 F u N F342 ([x316]) q341) (d411 : Disj F291 F342) (d412 : Disj F15 F342) (d413 : Disj F40 F342) (d414 : Disj F52 F342) (d415 : Disj F F342) (i311 : In64 x62) (i312 : In64 x71) (i314 : In64 x94) (i313 : RCtl x80) (i315 : RExit (f_guestNew x1).exit) (h321 : (((100 : Int) ≤ 0 → x316 = 0) ∧ ((0 : Int) < 100 → 0 ≤ x316 ∧ x316 < 100))) (i322 : (In64 x316)) : W 4 (mkL 8 [0, 2, 3, 4]) ac w := by
     have l416 := i322.lo; have l417 := i322.hi
     exact ox1 hW 1 (S.wl hW [] .nil fun _ _ _ S => hK381 _ _ x316 q341 F342 _ _ _ S o292 o16 o41 o53 oc o340 d411 d412 d413 d414 d415 i311 i312 i314 i313 i315 h321 i322)
    have hK418 ac w u N β (S : St Tryz.prog Tryz.f97.ntmps w0 F u N β (σ310.dl [39] [(43, .v (slv sn.length q290.1)), (44, .v (pt q.1.b (q.1.off + 0 * 3)))] 2 []) ac w) (o292 : Ow w0 F u N F291 sn q290) (o16 : Ow w0 F u N F15 (f_guestNew x1).prog q9.prog) (o41 : Ow w0 F u N F40 x38 q39) (o53 : Ow w0 F u N F52 x50 q51) (oc : Oc bs pbs G w0 F u N F q) (i311 : In64 x62) (i312 : In64 x71) (i314 : In64 x94) (i313 : RCtl x80) (i315 : RExit (f_guestNew x1).exit) (hNN : NN N0 u0 N u) (hBB : BB σ310.bx.length β0 β) : W 5 (mkL 8 [0, 1, 2]) ac w := by
     refine ox1 hW 3 ?_
     refine id (S.callD1 (d := 45) oc (c_spec_l01Below w bs pbs G F q (S.cu oc) 100 (show In64 100 from ⟨by decide, by decide⟩)) fun ac w N x316 q419 F420 S h321 up o421 d422 ocn => ?_)
     refine WD.sl fun hC => ?_
     replace o292 := o292.upF d296 up
     replace o16 := o16.upF (Disj.part (Disj.symm d13) s17) up
     replace o41 := o41.upF (Disj.symm d48) up
     replace o53 := o53.upF (Disj.symm d60) up
     replace oc := ocn
     clear up d422
     have i322 : In64 x316 := o421.own
     have l423 := i322.lo; have l424 := i322.hi
     exact S.wh hW [] hC fun _ S => hK398 _ _ x316 _ _ _ S o292 o16 o41 o53 oc i311 i312 i314 i313 i315 h321 i322
    have hK425 ac w (x316 : Int) u N β (S : St Tryz.prog Tryz.f97.ntmps w0 F u N β (σ310.dl [39] [(42, .p 1 14), (45, .v (I x316))] 2 []) ac w) (o292 : Ow w0 F u N F291 sn q290) (o16 : Ow w0 F u N F15 (f_guestNew x1).prog q9.prog) (o41 : Ow w0 F u N F40 x38 q39) (o53 : Ow w0 F u N F52 x50 q51) (oc : Oc bs pbs G w0 F u N F q) (i311 : In64 x62) (i312 : In64 x71) (i314 : In64 x94) (i313 : RCtl x80) (i315 : RExit (f_guestNew x1).exit) (h321 : (((100 : Int) ≤ 0 → x316 = 0) ∧ ((0 : Int) < 100 → 0 ≤ x316 ∧ x316 < 100))) (i322 : (In64 x316)) : W 5 (mkL 8 [0, 2, 3]) ac w := by
     have l426 := i322.lo; have l427 := i322.hi
     refine ox2 hW 1 4 (S.wl hW [] .nil fun _ _ _ S => hK398 _ _ x316 _ _ _ S o292 o16 o41 o53 oc i311 i312 i314 i313 i315 h321 i322) ?_
     refine id (S.bs1 (α := Int) (x := x316) (p := ()) (F := NoB) i322 (fun b h => False.elim h) (fun b h => False.elim h) (d := 46) (by kernel_rfl) fun ac w N q428 F429 S up o430 d431 => ?_)
     refine WD.sl fun hC => ?_
     have d432 := d431 _ (fun b _ h => False.elim h) o292.sub
     have d433 := d431 _ (fun b _ h => False.elim h) o16.sub
     have d434 := d431 _ (fun b _ h => False.elim h) o41.sub
     have d435 := d431 _ (fun b _ h => False.elim h) o53.sub
     have d436 := d431 _ (fun b _ h => False.elim h) oc.sub
     replace o292 := o292.up up
     replace o16 := o16.up up
     replace o41 := o41.up up
     replace o53 := o53.up up
     replace oc := oc.up up
     clear up d431
     exact S.wh hW [] hC fun _ S => hK410 _ _ x316 q428 F429 _ _ _ S o292 o16 o41 o53 oc o430 d432 d433 d434 d435 d436 i311 i312 i314 i313 i315 h321 i322
    have hK437 ac w u N β (S : St Tryz.prog Tryz.f97.ntmps w0 F u N β (σ310.dl [39] [(42, .p 1 14), (44, .v (pt q.1.b (q.1.off + 0 * 3)))] 2 []) ac w) (o292 : Ow w0 F u N F291 sn q290) (o16 : Ow w0 F u N F15 (f_guestNew x1).prog q9.prog) (o41 : Ow w0 F u N F40 x38 q39) (o53 : Ow w0 F u N F52 x50 q51) (oc : Oc bs pbs G w0 F u N F q) (hNN : NN N0 u0 N u) (hBB : BB σ310.bx.length β0 β) : W 6 (mkL 8 [0, 2]) ac w := by
     refine ox2 hW 1 3 (S.wq hW hNN hBB [] .nil fun _ _ _ S hB => hK418 _ _ _ _ _ S o292 o16 o41 o53 oc i68 i77 i100 i86 i28 hNN hB) ?_
     refine id (S.callD1 (d := 45) oc (c_spec_l01Below w bs pbs G F q (S.cu oc) 100 (show In64 100 from ⟨by decide, by decide⟩)) fun ac w N x316 q438 F439 S h321 up o440 d441 ocn => ?_)
     refine WD.sl fun hC => ?_
     replace o292 := o292.upF d296 up
     replace o16 := o16.upF (Disj.part (Disj.symm d13) s17) up
     replace o41 := o41.upF (Disj.symm d48) up
     replace o53 := o53.upF (Disj.symm d60) up
     replace oc := ocn
     clear up d441
     have i322 : In64 x316 := o440.own
     have l442 := i322.lo; have l443 := i322.hi
     exact S.wh hW [] hC fun _ S => hK425 _ _ x316 _ _ _ S o292 o16 o41 o53 oc i68 i77 i100 i86 i28 h321 i322
    rw [hW]
    exact S.wh hW [0] (fun _ => S.rcx) fun _ S => hK437 _ _ _ _ _ S o292 o16 o41 o53 oc (fun _ h => ⟨h, rfl⟩) (fun _ _ => rfl)
   clear S o292 o16 o41 o53 oc
   rintro ac w ⟨x316, q365, F366, u, N, β, S, o16, o41, o53, oc, o364, d444, d445, d446, d447, i311, i312, i314, i313, i315, h321, i322⟩
   have l448 := i322.lo; have l449 := i322.hi
   refine S.ex fun S => ?_
   refine S.ge 7 (.cons (qp (k : Int) 1) .nil) f297 fun ac w β S => hf298.of (4 - (k + 1)) _ _ (by omega) ⟨k + 1, (sn ++ [x316]), q365, F366, _, _, _, rfl, ?_, ?_, S.z, o364, o16, o41, o53, oc, (Disj.symm d444), (Disj.symm d445), (Disj.symm d446), (Disj.symm d447)⟩
   ·exact oz
   ·clear S; (simp; omega)
  refine S.gr 13 .nil [GT.val (⟨(f_guestNew x1).prog, x62, x71, x38, x50, x80, x94, (f_guestNew x1).exit, x284, sn⟩ : TGuest) (⟨q9.prog, q39, q51, q290⟩ : PGuest)] fun ac w β S => ?_
  have o450 := ow_Guest (x := (⟨(f_guestNew x1).prog, x62, x71, x38, x50, x80, x94, (f_guestNew x1).exit, x284, sn⟩ : TGuest)) (p := (⟨q9.prog, q39, q51, q290⟩ : PGuest)) o16 o41 o53 o292 d44 d56 (Disj.symm d293) d59 (Disj.symm d294) (Disj.symm d295) i68 i77 i86 i100 i28
  exact retD1_of S (show (⟨(f_guestNew x1).prog, x62, x71, x38, x50, x80, x94, (f_guestNew x1).exit, x284, sn⟩ : TGuest).seen.length ≤ 4 by clear S; (show sn.length ≤ 4; omega)) rfl o450 (Disj.or (Disj.part (Disj.symm d13) s17) (Disj.or (Disj.symm d48) (Disj.or (Disj.symm d60) (Disj.or d296 Disj.nob)))) oc
 refine S.go 7 .nil fun ac w β S => S.KD1 (d := 29) oc (c_spec_l01Once w bs pbs G F q (S.cu oc) 4 (show In64 4 from ⟨by decide, by decide⟩)) fun ac w N x451 q452 F453 S h456 up o454 d455 ocn => ?_
 replace o16 := o16.upF (Disj.part (Disj.symm d13) s17) up
 replace o30 := o30.upF (Disj.part (Disj.symm d13) s31) up
 replace o41 := o41.upF (Disj.symm d48) up
 replace o53 := o53.upF (Disj.symm d60) up
 replace oc := ocn
 clear up d455
 refine S.gb 2 .nil x451 (fun ac w β h457 S => ?_) (fun ac w β h457 S => ?_)
 ·refine S.go 3 .nil fun ac w β S => S.KD1 (d := 31) oc (c_spec_l13Exit w bs pbs G F q (S.cu oc)) fun ac w N x458 q459 F460 S h463 up o461 d462 ocn => ?_
  replace o16 := o16.upF (Disj.part (Disj.symm d13) s17) up
  replace o30 := o30.upF (Disj.part (Disj.symm d13) s31) up
  replace o41 := o41.upF (Disj.symm d48) up
  replace o53 := o53.upF (Disj.symm d60) up
  replace oc := ocn
  clear up d462
  have i464 : RExit x458 := o461.own
  refine S.go 7 .nil fun ac w β S => S.KD1 (d := 34) oc (c_spec_l01Once w bs pbs G F q (S.cu oc) 12 (show In64 12 from ⟨by decide, by decide⟩)) fun ac w N x465 q466 F467 S h470 up o468 d469 ocn => ?_
  replace o16 := o16.upF (Disj.part (Disj.symm d13) s17) up
  replace o30 := o30.upF (Disj.part (Disj.symm d13) s31) up
  replace o41 := o41.upF (Disj.symm d48) up
  replace o53 := o53.upF (Disj.symm d60) up
  replace oc := ocn
  clear up d469
  refine S.go 11 .nil fun ac w β S => ?_
  refine lp (fun mm ac w => ∃ (k : Nat) (sn : List Int) (q471 : _) (F472 : _) (u : _) (N : _) (β : _), mm = 4 - k ∧ (k ≤ 4) ∧ (sn.length = k) ∧ St Tryz.prog Tryz.f97.ntmps w0 F u N β ⟨[(0, .v (pt q.1.b (q.1.off + 0 * 3))), (2, .p 0 0), (3, .p 1 0), (4, .v (I (k : Int)))], [Zc TGuest, [slv (f_guestNew x1).prog.length q9.prog.1, I x62, I x71, slv x38.length q39.1, slv x50.length q51.1, I x80.traps, I x80.post, B x80.opn, I (f_guestNew x1).pend, I x458.kind, I x458.page, B x458.wr, I x458.n, B x465, slv sn.length q471.1]]⟩ ac w ∧ Ow w0 F u N F472 sn q471 ∧ Ow w0 F u N F15 (f_guestNew x1).prog q9.prog ∧ Ow w0 F u N F40 x38 q39 ∧ Ow w0 F u N F52 x50 q51 ∧ Oc bs pbs G w0 F u N F q ∧ Disj F472 F15 ∧ Disj F472 F40 ∧ Disj F472 F52 ∧ Disj F472 F) _ ⟨0, (f_guestNew x1).seen, q9.seen, F29, _, _, _, rfl, o0, (by rfl), S.z, o30, o16, o41, o53, oc, (Disj.symm d34), d47, d58, (Disj.part (Disj.symm d13) s31)⟩ ?_
  clear S o16 o30 o41 o53 oc
  rintro f478 mm hf479 ac w ⟨k, sn, q471, F472, u, N, β, rfl, hk, hl, S, o473, o16, o41, o53, oc, d474, d475, d476, d477⟩
  refine S.rs fun S => ?_
  refine S.go 5 .nil fun ac w β S => S.KD1 (d := 38) oc (c_spec_l01Below w bs pbs G F q (S.cu oc) 4 (show In64 4 from ⟨by decide, by decide⟩)) fun ac w N x480 q481 F482 S h485 up o483 d484 ocn => ?_
  replace o473 := o473.upF d477 up
  replace o16 := o16.upF (Disj.part (Disj.symm d13) s17) up
  replace o41 := o41.upF (Disj.symm d48) up
  replace o53 := o53.upF (Disj.symm d60) up
  replace oc := ocn
  clear up d484
  have i486 : In64 x480 := o483.own
  have l487 := i486.lo; have l488 := i486.hi
  refine S.gd 3 .nil (decide ((k : Int) < x480)) (fun ac w β h489 g490 S => ?_) (fun ac w β h489 g490 S => ?_)
  ·refine S.go 5 .nil fun ac w β S => ?_
   refine drw ?_
   let σ491 : Sy := ⟨[(0, .v (pt q.1.b (q.1.off + 0 * 3))), (2, .p 0 0), (3, .p 1 0), (4, .v (I (k : Int))), (39, .v (B true))], [Zc TGuest, [slv (f_guestNew x1).prog.length q9.prog.1, I x62, I x71, slv x38.length q39.1, slv x50.length q51.1, I x80.traps, I x80.post, B x80.opn, I (f_guestNew x1).pend, I x458.kind, I x458.page, B x458.wr, I x458.n, B x465, slv sn.length q471.1]]⟩
   obtain ⟨u0, N0, β0, S, o473, o16, o41, o53, oc⟩ : ∃ u0 N0 β0, St Tryz.prog Tryz.f97.ntmps w0 F u0 N0 β0 σ491 ac w ∧ Ow w0 F u0 N0 F472 sn q471 ∧ Ow w0 F u0 N0 F15 (f_guestNew x1).prog q9.prog ∧ Ow w0 F u0 N0 F40 x38 q39 ∧ Ow w0 F u0 N0 F52 x50 q51 ∧ Oc bs pbs G w0 F u0 N0 F q := ⟨_, _, _, S.z, o473, o16, o41, o53, oc⟩
   refine wp_region_cut (fun ac w => ∃  (x497 : Int) (q546 : GT.Ptr (List Int)) (F547 : Bl) (u : _) (N : _) (β : _), St Tryz.prog Tryz.f97.ntmps w0 F u N β (σ491.dl [39] [] 2 [(1, [slv (f_guestNew x1).prog.length q9.prog.1, I x62, I x71, slv x38.length q39.1, slv x50.length q51.1, I x80.traps, I x80.post, B x80.opn, I (f_guestNew x1).pend, I x458.kind, I x458.page, B x458.wr, I x458.n, B x465, slv (sn ++ [x497]).length q546.1])]) ac w ∧ Ow w0 F u N F15 (f_guestNew x1).prog q9.prog ∧ Ow w0 F u N F40 x38 q39 ∧ Ow w0 F u N F52 x50 q51 ∧ Oc bs pbs G w0 F u N F q ∧ Ow w0 F u N F547 (sn ++ [x497]) q546 ∧ Disj F15 F547 ∧ Disj F40 F547 ∧ Disj F52 F547 ∧ Disj F F547 ∧ In64 (f_guestNew x1).pend ∧ In64 x62 ∧ In64 x71 ∧ RCtl x80 ∧ RExit x458 ∧ (((100 : Int) ≤ 0 → x497 = 0) ∧ ((0 : Int) < 100 → 0 ≤ x497 ∧ x497 < 100)) ∧ (In64 x497)) ?_ ?_
   ·refine S.draw0 (f := 8) 3 (by kernel_rfl) (by kernel_rfl) fun w S => ?_
    refine S.hq 2 [2] [] [(44, .v (pt q.1.b (q.1.off + 0 * 3)))] .nil fun ac S => ?_
    refine WD.nameW fun W hW => ?_
    refine WD.castW (l' := mkL 8 [2]) (by kernel_rfl) ?_
    have hK548 ac w (x497 : Int) q546 F547 u N β (S : St Tryz.prog Tryz.f97.ntmps w0 F u N β (σ491.dl [39] [] 2 [(1, [slv (f_guestNew x1).prog.length q9.prog.1, I x62, I x71, slv x38.length q39.1, slv x50.length q51.1, I x80.traps, I x80.post, B x80.opn, I (f_guestNew x1).pend, I x458.kind, I x458.page, B x458.wr, I x458.n, B x465, slv (sn ++ [x497]).length q546.1])]) ac w) (o16 : Ow w0 F u N F15 (f_guestNew x1).prog q9.prog) (o41 : Ow w0 F u N F40 x38 q39) (o53 : Ow w0 F u N F52 x50 q51) (oc : Oc bs pbs G w0 F u N F q) (o545 : Ow w0 F u N F547 (sn ++ [x497]) q546) (d549 : Disj F15 F547) (d550 : Disj F40 F547) (d551 : Disj F52 F547) (d552 : Disj F F547) (i495 : In64 (f_guestNew x1).pend) (i492 : In64 x62) (i493 : In64 x71) (i494 : RCtl x80) (i496 : RExit x458) (h502 : (((100 : Int) ≤ 0 → x497 = 0) ∧ ((0 : Int) < 100 → 0 ≤ x497 ∧ x497 < 100))) (i503 : (In64 x497)) : W 0 (mkL 8 [0, 1, 2, 3, 4, 5, 6, 7]) ac w := by
     have l553 := i503.lo; have l554 := i503.hi
     exact od hW ⟨rfl, x497, q546, F547, _, _, _, S.z, o16, o41, o53, oc, o545, d549, d550, d551, d552, i495, i492, i493, i494, i496, h502, i503⟩
    have hK555 ac w (x497 : Int) q543 F544 u N β (S : St Tryz.prog Tryz.f97.ntmps w0 F u N β (σ491.dl [39] [(47, .v (slv (sn ++ [x497]).length q543.1)), (48, .p 1 14)] 2 []) ac w) (o16 : Ow w0 F u N F15 (f_guestNew x1).prog q9.prog) (o41 : Ow w0 F u N F40 x38 q39) (o53 : Ow w0 F u N F52 x50 q51) (oc : Oc bs pbs G w0 F u N F q) (o542 : Ow w0 F u N F544 (sn ++ [x497]) q543) (d556 : Disj F15 F544) (d557 : Disj F40 F544) (d558 : Disj F52 F544) (d559 : Disj F F544) (i495 : In64 (f_guestNew x1).pend) (i492 : In64 x62) (i493 : In64 x71) (i494 : RCtl x80) (i496 : RExit x458) (h502 : (((100 : Int) ≤ 0 → x497 = 0) ∧ ((0 : Int) < 100 → 0 ≤ x497 ∧ x497 < 100))) (i503 : (In64 x497)) : W 1 (mkL 8 [0, 1, 2, 3, 4, 5, 6]) ac w := by
     have l560 := i503.lo; have l561 := i503.hi
     exact ox1 hW 7 (S.wl hW [] .nil fun _ _ _ S => hK548 _ _ x497 q543 F544 _ _ _ S o16 o41 o53 oc o542 d556 d557 d558 d559 i495 i492 i493 i494 i496 h502 i503)
    have hK562 ac w (x497 : Int) q522 F523 u N β (S : St Tryz.prog Tryz.f97.ntmps w0 F u N β (σ491.dl [39] [(43, .v (slv sn.length q471.1)), (46, .v (slv 1 q522.1))] 2 []) ac w) (o473 : Ow w0 F u N F472 sn q471) (o16 : Ow w0 F u N F15 (f_guestNew x1).prog q9.prog) (o41 : Ow w0 F u N F40 x38 q39) (o53 : Ow w0 F u N F52 x50 q51) (oc : Oc bs pbs G w0 F u N F q) (o521 : Ow w0 F u N F523 ([x497]) q522) (d563 : Disj F472 F523) (d564 : Disj F15 F523) (d565 : Disj F40 F523) (d566 : Disj F52 F523) (d567 : Disj F F523) (i495 : In64 (f_guestNew x1).pend) (i492 : In64 x62) (i493 : In64 x71) (i494 : RCtl x80) (i496 : RExit x458) (h502 : (((100 : Int) ≤ 0 → x497 = 0) ∧ ((0 : Int) < 100 → 0 ≤ x497 ∧ x497 < 100))) (i503 : (In64 x497)) : W 3 (mkL 8 [0, 1, 2, 3, 4]) ac w := by
     have l568 := i503.lo; have l569 := i503.hi
     refine ox1 hW 5 ?_
     refine id (S.appFlat (α := Int) o473 o521.rn (fun _ _ h => h) (by' := 8) (d := 47) (lx := sn.length) (ly := 1) rfl rfl (by kernel_rfl) (show _ ≤ 4194304 by simp only [List.length_append, List.length_cons, List.length_nil]; omega) fun ac w N q570 F571 S up o572 d573 => ?_)
     refine WD.sl fun hC => ?_
     have d574 := d573 _ (Disj.symm d474) o16.sub
     have d575 := d573 _ (Disj.symm d475) o41.sub
     have d576 := d573 _ (Disj.symm d476) o53.sub
     have d577 := d573 _ (Disj.symm d477) oc.sub
     replace o16 := o16.upF (Disj.symm d474) up
     replace o41 := o41.upF (Disj.symm d475) up
     replace o53 := o53.upF (Disj.symm d476) up
     replace oc := oc.upF (Disj.symm d477) up
     replace o521 := o521.upF (Disj.symm d563) up
     clear up d573
     exact S.wh hW [6] hC fun _ S => hK555 _ _ x497 q570 F571 _ _ _ S o16 o41 o53 oc o572 d574 d575 d576 d577 i495 i492 i493 i494 i496 h502 i503
    have hK579 ac w (x497 : Int) u N β (S : St Tryz.prog Tryz.f97.ntmps w0 F u N β (σ491.dl [39] [(43, .v (slv sn.length q471.1)), (45, .v (I x497))] 2 []) ac w) (o473 : Ow w0 F u N F472 sn q471) (o16 : Ow w0 F u N F15 (f_guestNew x1).prog q9.prog) (o41 : Ow w0 F u N F40 x38 q39) (o53 : Ow w0 F u N F52 x50 q51) (oc : Oc bs pbs G w0 F u N F q) (i495 : In64 (f_guestNew x1).pend) (i492 : In64 x62) (i493 : In64 x71) (i494 : RCtl x80) (i496 : RExit x458) (h502 : (((100 : Int) ≤ 0 → x497 = 0) ∧ ((0 : Int) < 100 → 0 ≤ x497 ∧ x497 < 100))) (i503 : (In64 x497)) : W 4 (mkL 8 [0, 1, 2, 3]) ac w := by
     have l580 := i503.lo; have l581 := i503.hi
     refine ox1 hW 4 ?_
     refine id (S.bs1 (α := Int) (x := x497) (p := ()) (F := NoB) i503 (fun b h => False.elim h) (fun b h => False.elim h) (d := 46) (by kernel_rfl) fun ac w N q582 F583 S up o584 d585 => ?_)
     refine WD.sl fun hC => ?_
     have d586 := d585 _ (fun b _ h => False.elim h) o473.sub
     have d587 := d585 _ (fun b _ h => False.elim h) o16.sub
     have d588 := d585 _ (fun b _ h => False.elim h) o41.sub
     have d589 := d585 _ (fun b _ h => False.elim h) o53.sub
     have d590 := d585 _ (fun b _ h => False.elim h) oc.sub
     replace o473 := o473.up up
     replace o16 := o16.up up
     replace o41 := o41.up up
     replace o53 := o53.up up
     replace oc := oc.up up
     clear up d585
     exact S.wh hW [] hC fun _ S => hK562 _ _ x497 q582 F583 _ _ _ S o473 o16 o41 o53 oc o584 d586 d587 d588 d589 d590 i495 i492 i493 i494 i496 h502 i503
    have hK591 ac w (x497 : Int) q522 F523 u N β (S : St Tryz.prog Tryz.f97.ntmps w0 F u N β (σ491.dl [39] [(42, .p 1 14), (46, .v (slv 1 q522.1))] 2 []) ac w) (o473 : Ow w0 F u N F472 sn q471) (o16 : Ow w0 F u N F15 (f_guestNew x1).prog q9.prog) (o41 : Ow w0 F u N F40 x38 q39) (o53 : Ow w0 F u N F52 x50 q51) (oc : Oc bs pbs G w0 F u N F q) (o521 : Ow w0 F u N F523 ([x497]) q522) (d592 : Disj F472 F523) (d593 : Disj F15 F523) (d594 : Disj F40 F523) (d595 : Disj F52 F523) (d596 : Disj F F523) (i495 : In64 (f_guestNew x1).pend) (i492 : In64 x62) (i493 : In64 x71) (i494 : RCtl x80) (i496 : RExit x458) (h502 : (((100 : Int) ≤ 0 → x497 = 0) ∧ ((0 : Int) < 100 → 0 ≤ x497 ∧ x497 < 100))) (i503 : (In64 x497)) : W 4 (mkL 8 [0, 2, 3, 4]) ac w := by
     have l597 := i503.lo; have l598 := i503.hi
     exact ox1 hW 1 (S.wl hW [] .nil fun _ _ _ S => hK562 _ _ x497 q522 F523 _ _ _ S o473 o16 o41 o53 oc o521 d592 d593 d594 d595 d596 i495 i492 i493 i494 i496 h502 i503)
    have hK599 ac w u N β (S : St Tryz.prog Tryz.f97.ntmps w0 F u N β (σ491.dl [39] [(43, .v (slv sn.length q471.1)), (44, .v (pt q.1.b (q.1.off + 0 * 3)))] 2 []) ac w) (o473 : Ow w0 F u N F472 sn q471) (o16 : Ow w0 F u N F15 (f_guestNew x1).prog q9.prog) (o41 : Ow w0 F u N F40 x38 q39) (o53 : Ow w0 F u N F52 x50 q51) (oc : Oc bs pbs G w0 F u N F q) (i495 : In64 (f_guestNew x1).pend) (i492 : In64 x62) (i493 : In64 x71) (i494 : RCtl x80) (i496 : RExit x458) (hNN : NN N0 u0 N u) (hBB : BB σ491.bx.length β0 β) : W 5 (mkL 8 [0, 1, 2]) ac w := by
     refine ox1 hW 3 ?_
     refine id (S.callD1 (d := 45) oc (c_spec_l01Below w bs pbs G F q (S.cu oc) 100 (show In64 100 from ⟨by decide, by decide⟩)) fun ac w N x497 q600 F601 S h502 up o602 d603 ocn => ?_)
     refine WD.sl fun hC => ?_
     replace o473 := o473.upF d477 up
     replace o16 := o16.upF (Disj.part (Disj.symm d13) s17) up
     replace o41 := o41.upF (Disj.symm d48) up
     replace o53 := o53.upF (Disj.symm d60) up
     replace oc := ocn
     clear up d603
     have i503 : In64 x497 := o602.own
     have l604 := i503.lo; have l605 := i503.hi
     exact S.wh hW [] hC fun _ S => hK579 _ _ x497 _ _ _ S o473 o16 o41 o53 oc i495 i492 i493 i494 i496 h502 i503
    have hK606 ac w (x497 : Int) u N β (S : St Tryz.prog Tryz.f97.ntmps w0 F u N β (σ491.dl [39] [(42, .p 1 14), (45, .v (I x497))] 2 []) ac w) (o473 : Ow w0 F u N F472 sn q471) (o16 : Ow w0 F u N F15 (f_guestNew x1).prog q9.prog) (o41 : Ow w0 F u N F40 x38 q39) (o53 : Ow w0 F u N F52 x50 q51) (oc : Oc bs pbs G w0 F u N F q) (i495 : In64 (f_guestNew x1).pend) (i492 : In64 x62) (i493 : In64 x71) (i494 : RCtl x80) (i496 : RExit x458) (h502 : (((100 : Int) ≤ 0 → x497 = 0) ∧ ((0 : Int) < 100 → 0 ≤ x497 ∧ x497 < 100))) (i503 : (In64 x497)) : W 5 (mkL 8 [0, 2, 3]) ac w := by
     have l607 := i503.lo; have l608 := i503.hi
     refine ox2 hW 1 4 (S.wl hW [] .nil fun _ _ _ S => hK579 _ _ x497 _ _ _ S o473 o16 o41 o53 oc i495 i492 i493 i494 i496 h502 i503) ?_
     refine id (S.bs1 (α := Int) (x := x497) (p := ()) (F := NoB) i503 (fun b h => False.elim h) (fun b h => False.elim h) (d := 46) (by kernel_rfl) fun ac w N q609 F610 S up o611 d612 => ?_)
     refine WD.sl fun hC => ?_
     have d613 := d612 _ (fun b _ h => False.elim h) o473.sub
     have d614 := d612 _ (fun b _ h => False.elim h) o16.sub
     have d615 := d612 _ (fun b _ h => False.elim h) o41.sub
     have d616 := d612 _ (fun b _ h => False.elim h) o53.sub
     have d617 := d612 _ (fun b _ h => False.elim h) oc.sub
     replace o473 := o473.up up
     replace o16 := o16.up up
     replace o41 := o41.up up
     replace o53 := o53.up up
     replace oc := oc.up up
     clear up d612
     exact S.wh hW [] hC fun _ S => hK591 _ _ x497 q609 F610 _ _ _ S o473 o16 o41 o53 oc o611 d613 d614 d615 d616 d617 i495 i492 i493 i494 i496 h502 i503
    have hK618 ac w u N β (S : St Tryz.prog Tryz.f97.ntmps w0 F u N β (σ491.dl [39] [(42, .p 1 14), (44, .v (pt q.1.b (q.1.off + 0 * 3)))] 2 []) ac w) (o473 : Ow w0 F u N F472 sn q471) (o16 : Ow w0 F u N F15 (f_guestNew x1).prog q9.prog) (o41 : Ow w0 F u N F40 x38 q39) (o53 : Ow w0 F u N F52 x50 q51) (oc : Oc bs pbs G w0 F u N F q) (hNN : NN N0 u0 N u) (hBB : BB σ491.bx.length β0 β) : W 6 (mkL 8 [0, 2]) ac w := by
     refine ox2 hW 1 3 (S.wq hW hNN hBB [] .nil fun _ _ _ S hB => hK599 _ _ _ _ _ S o473 o16 o41 o53 oc i27 i68 i77 i86 i464 hNN hB) ?_
     refine id (S.callD1 (d := 45) oc (c_spec_l01Below w bs pbs G F q (S.cu oc) 100 (show In64 100 from ⟨by decide, by decide⟩)) fun ac w N x497 q619 F620 S h502 up o621 d622 ocn => ?_)
     refine WD.sl fun hC => ?_
     replace o473 := o473.upF d477 up
     replace o16 := o16.upF (Disj.part (Disj.symm d13) s17) up
     replace o41 := o41.upF (Disj.symm d48) up
     replace o53 := o53.upF (Disj.symm d60) up
     replace oc := ocn
     clear up d622
     have i503 : In64 x497 := o621.own
     have l623 := i503.lo; have l624 := i503.hi
     exact S.wh hW [] hC fun _ S => hK606 _ _ x497 _ _ _ S o473 o16 o41 o53 oc i27 i68 i77 i86 i464 h502 i503
    rw [hW]
    exact S.wh hW [0] (fun _ => S.rcx) fun _ S => hK618 _ _ _ _ _ S o473 o16 o41 o53 oc (fun _ h => ⟨h, rfl⟩) (fun _ _ => rfl)
   clear S o473 o16 o41 o53 oc
   rintro ac w ⟨x497, q546, F547, u, N, β, S, o16, o41, o53, oc, o545, d625, d626, d627, d628, i495, i492, i493, i494, i496, h502, i503⟩
   have l629 := i503.lo; have l630 := i503.hi
   refine S.ex fun S => ?_
   refine S.ge 7 (.cons (qp (k : Int) 1) .nil) f478 fun ac w β S => hf479.of (4 - (k + 1)) _ _ (by omega) ⟨k + 1, (sn ++ [x497]), q546, F547, _, _, _, rfl, ?_, ?_, S.z, o545, o16, o41, o53, oc, (Disj.symm d625), (Disj.symm d626), (Disj.symm d627), (Disj.symm d628)⟩
   ·exact oz
   ·clear S; (simp; omega)
  refine S.gr 13 .nil [GT.val (⟨(f_guestNew x1).prog, x62, x71, x38, x50, x80, (f_guestNew x1).pend, x458, x465, sn⟩ : TGuest) (⟨q9.prog, q39, q51, q471⟩ : PGuest)] fun ac w β S => ?_
  have o631 := ow_Guest (x := (⟨(f_guestNew x1).prog, x62, x71, x38, x50, x80, (f_guestNew x1).pend, x458, x465, sn⟩ : TGuest)) (p := (⟨q9.prog, q39, q51, q471⟩ : PGuest)) o16 o41 o53 o473 d44 d56 (Disj.symm d474) d59 (Disj.symm d475) (Disj.symm d476) i68 i77 i86 i27 i464
  exact retD1_of S (show (⟨(f_guestNew x1).prog, x62, x71, x38, x50, x80, (f_guestNew x1).pend, x458, x465, sn⟩ : TGuest).seen.length ≤ 4 by clear S; (show sn.length ≤ 4; omega)) rfl o631 (Disj.or (Disj.part (Disj.symm d13) s17) (Disj.or (Disj.symm d48) (Disj.or (Disj.symm d60) (Disj.or d477 Disj.nob)))) oc
 refine S.go 6 .nil fun ac w β S => S.KD1 (d := 34) oc (c_spec_l01Once w bs pbs G F q (S.cu oc) 12 (show In64 12 from ⟨by decide, by decide⟩)) fun ac w N x632 q633 F634 S h637 up o635 d636 ocn => ?_
 replace o16 := o16.upF (Disj.part (Disj.symm d13) s17) up
 replace o30 := o30.upF (Disj.part (Disj.symm d13) s31) up
 replace o41 := o41.upF (Disj.symm d48) up
 replace o53 := o53.upF (Disj.symm d60) up
 replace oc := ocn
 clear up d636
 refine S.go 11 .nil fun ac w β S => ?_
 refine lp (fun mm ac w => ∃ (k : Nat) (sn : List Int) (q638 : _) (F639 : _) (u : _) (N : _) (β : _), mm = 4 - k ∧ (k ≤ 4) ∧ (sn.length = k) ∧ St Tryz.prog Tryz.f97.ntmps w0 F u N β ⟨[(0, .v (pt q.1.b (q.1.off + 0 * 3))), (2, .p 0 0), (3, .p 1 0), (4, .v (I (k : Int)))], [Zc TGuest, [slv (f_guestNew x1).prog.length q9.prog.1, I x62, I x71, slv x38.length q39.1, slv x50.length q51.1, I x80.traps, I x80.post, B x80.opn, I (f_guestNew x1).pend, I (f_guestNew x1).exit.kind, I (f_guestNew x1).exit.page, B (f_guestNew x1).exit.wr, I (f_guestNew x1).exit.n, B x632, slv sn.length q638.1]]⟩ ac w ∧ Ow w0 F u N F639 sn q638 ∧ Ow w0 F u N F15 (f_guestNew x1).prog q9.prog ∧ Ow w0 F u N F40 x38 q39 ∧ Ow w0 F u N F52 x50 q51 ∧ Oc bs pbs G w0 F u N F q ∧ Disj F639 F15 ∧ Disj F639 F40 ∧ Disj F639 F52 ∧ Disj F639 F) _ ⟨0, (f_guestNew x1).seen, q9.seen, F29, _, _, _, rfl, o0, (by rfl), S.z, o30, o16, o41, o53, oc, (Disj.symm d34), d47, d58, (Disj.part (Disj.symm d13) s31)⟩ ?_
 clear S o16 o30 o41 o53 oc
 rintro f645 mm hf646 ac w ⟨k, sn, q638, F639, u, N, β, rfl, hk, hl, S, o640, o16, o41, o53, oc, d641, d642, d643, d644⟩
 refine S.rs fun S => ?_
 refine S.go 5 .nil fun ac w β S => S.KD1 (d := 38) oc (c_spec_l01Below w bs pbs G F q (S.cu oc) 4 (show In64 4 from ⟨by decide, by decide⟩)) fun ac w N x647 q648 F649 S h652 up o650 d651 ocn => ?_
 replace o640 := o640.upF d644 up
 replace o16 := o16.upF (Disj.part (Disj.symm d13) s17) up
 replace o41 := o41.upF (Disj.symm d48) up
 replace o53 := o53.upF (Disj.symm d60) up
 replace oc := ocn
 clear up d651
 have i653 : In64 x647 := o650.own
 have l654 := i653.lo; have l655 := i653.hi
 refine S.gd 3 .nil (decide ((k : Int) < x647)) (fun ac w β h656 g657 S => ?_) (fun ac w β h656 g657 S => ?_)
 ·refine S.go 5 .nil fun ac w β S => ?_
  refine drw ?_
  let σ658 : Sy := ⟨[(0, .v (pt q.1.b (q.1.off + 0 * 3))), (2, .p 0 0), (3, .p 1 0), (4, .v (I (k : Int))), (39, .v (B true))], [Zc TGuest, [slv (f_guestNew x1).prog.length q9.prog.1, I x62, I x71, slv x38.length q39.1, slv x50.length q51.1, I x80.traps, I x80.post, B x80.opn, I (f_guestNew x1).pend, I (f_guestNew x1).exit.kind, I (f_guestNew x1).exit.page, B (f_guestNew x1).exit.wr, I (f_guestNew x1).exit.n, B x632, slv sn.length q638.1]]⟩
  obtain ⟨u0, N0, β0, S, o640, o16, o41, o53, oc⟩ : ∃ u0 N0 β0, St Tryz.prog Tryz.f97.ntmps w0 F u0 N0 β0 σ658 ac w ∧ Ow w0 F u0 N0 F639 sn q638 ∧ Ow w0 F u0 N0 F15 (f_guestNew x1).prog q9.prog ∧ Ow w0 F u0 N0 F40 x38 q39 ∧ Ow w0 F u0 N0 F52 x50 q51 ∧ Oc bs pbs G w0 F u0 N0 F q := ⟨_, _, _, S.z, o640, o16, o41, o53, oc⟩
  refine wp_region_cut (fun ac w => ∃  (x664 : Int) (q713 : GT.Ptr (List Int)) (F714 : Bl) (u : _) (N : _) (β : _), St Tryz.prog Tryz.f97.ntmps w0 F u N β (σ658.dl [39] [] 2 [(1, [slv (f_guestNew x1).prog.length q9.prog.1, I x62, I x71, slv x38.length q39.1, slv x50.length q51.1, I x80.traps, I x80.post, B x80.opn, I (f_guestNew x1).pend, I (f_guestNew x1).exit.kind, I (f_guestNew x1).exit.page, B (f_guestNew x1).exit.wr, I (f_guestNew x1).exit.n, B x632, slv (sn ++ [x664]).length q713.1])]) ac w ∧ Ow w0 F u N F15 (f_guestNew x1).prog q9.prog ∧ Ow w0 F u N F40 x38 q39 ∧ Ow w0 F u N F52 x50 q51 ∧ Oc bs pbs G w0 F u N F q ∧ Ow w0 F u N F714 (sn ++ [x664]) q713 ∧ Disj F15 F714 ∧ Disj F40 F714 ∧ Disj F52 F714 ∧ Disj F F714 ∧ In64 (f_guestNew x1).pend ∧ In64 x62 ∧ In64 x71 ∧ RCtl x80 ∧ RExit (f_guestNew x1).exit ∧ (((100 : Int) ≤ 0 → x664 = 0) ∧ ((0 : Int) < 100 → 0 ≤ x664 ∧ x664 < 100)) ∧ (In64 x664)) ?_ ?_
  ·refine S.draw0 (f := 8) 3 (by kernel_rfl) (by kernel_rfl) fun w S => ?_
   refine S.hq 2 [2] [] [(44, .v (pt q.1.b (q.1.off + 0 * 3)))] .nil fun ac S => ?_
   refine WD.nameW fun W hW => ?_
   refine WD.castW (l' := mkL 8 [2]) (by kernel_rfl) ?_
   have hK715 ac w (x664 : Int) q713 F714 u N β (S : St Tryz.prog Tryz.f97.ntmps w0 F u N β (σ658.dl [39] [] 2 [(1, [slv (f_guestNew x1).prog.length q9.prog.1, I x62, I x71, slv x38.length q39.1, slv x50.length q51.1, I x80.traps, I x80.post, B x80.opn, I (f_guestNew x1).pend, I (f_guestNew x1).exit.kind, I (f_guestNew x1).exit.page, B (f_guestNew x1).exit.wr, I (f_guestNew x1).exit.n, B x632, slv (sn ++ [x664]).length q713.1])]) ac w) (o16 : Ow w0 F u N F15 (f_guestNew x1).prog q9.prog) (o41 : Ow w0 F u N F40 x38 q39) (o53 : Ow w0 F u N F52 x50 q51) (oc : Oc bs pbs G w0 F u N F q) (o712 : Ow w0 F u N F714 (sn ++ [x664]) q713) (d716 : Disj F15 F714) (d717 : Disj F40 F714) (d718 : Disj F52 F714) (d719 : Disj F F714) (i662 : In64 (f_guestNew x1).pend) (i659 : In64 x62) (i660 : In64 x71) (i661 : RCtl x80) (i663 : RExit (f_guestNew x1).exit) (h669 : (((100 : Int) ≤ 0 → x664 = 0) ∧ ((0 : Int) < 100 → 0 ≤ x664 ∧ x664 < 100))) (i670 : (In64 x664)) : W 0 (mkL 8 [0, 1, 2, 3, 4, 5, 6, 7]) ac w := by
    have l720 := i670.lo; have l721 := i670.hi
    exact od hW ⟨rfl, x664, q713, F714, _, _, _, S.z, o16, o41, o53, oc, o712, d716, d717, d718, d719, i662, i659, i660, i661, i663, h669, i670⟩
   have hK722 ac w (x664 : Int) q710 F711 u N β (S : St Tryz.prog Tryz.f97.ntmps w0 F u N β (σ658.dl [39] [(47, .v (slv (sn ++ [x664]).length q710.1)), (48, .p 1 14)] 2 []) ac w) (o16 : Ow w0 F u N F15 (f_guestNew x1).prog q9.prog) (o41 : Ow w0 F u N F40 x38 q39) (o53 : Ow w0 F u N F52 x50 q51) (oc : Oc bs pbs G w0 F u N F q) (o709 : Ow w0 F u N F711 (sn ++ [x664]) q710) (d723 : Disj F15 F711) (d724 : Disj F40 F711) (d725 : Disj F52 F711) (d726 : Disj F F711) (i662 : In64 (f_guestNew x1).pend) (i659 : In64 x62) (i660 : In64 x71) (i661 : RCtl x80) (i663 : RExit (f_guestNew x1).exit) (h669 : (((100 : Int) ≤ 0 → x664 = 0) ∧ ((0 : Int) < 100 → 0 ≤ x664 ∧ x664 < 100))) (i670 : (In64 x664)) : W 1 (mkL 8 [0, 1, 2, 3, 4, 5, 6]) ac w := by
    have l727 := i670.lo; have l728 := i670.hi
    exact ox1 hW 7 (S.wl hW [] .nil fun _ _ _ S => hK715 _ _ x664 q710 F711 _ _ _ S o16 o41 o53 oc o709 d723 d724 d725 d726 i662 i659 i660 i661 i663 h669 i670)
   have hK729 ac w (x664 : Int) q689 F690 u N β (S : St Tryz.prog Tryz.f97.ntmps w0 F u N β (σ658.dl [39] [(43, .v (slv sn.length q638.1)), (46, .v (slv 1 q689.1))] 2 []) ac w) (o640 : Ow w0 F u N F639 sn q638) (o16 : Ow w0 F u N F15 (f_guestNew x1).prog q9.prog) (o41 : Ow w0 F u N F40 x38 q39) (o53 : Ow w0 F u N F52 x50 q51) (oc : Oc bs pbs G w0 F u N F q) (o688 : Ow w0 F u N F690 ([x664]) q689) (d730 : Disj F639 F690) (d731 : Disj F15 F690) (d732 : Disj F40 F690) (d733 : Disj F52 F690) (d734 : Disj F F690) (i662 : In64 (f_guestNew x1).pend) (i659 : In64 x62) (i660 : In64 x71) (i661 : RCtl x80) (i663 : RExit (f_guestNew x1).exit) (h669 : (((100 : Int) ≤ 0 → x664 = 0) ∧ ((0 : Int) < 100 → 0 ≤ x664 ∧ x664 < 100))) (i670 : (In64 x664)) : W 3 (mkL 8 [0, 1, 2, 3, 4]) ac w := by
    have l735 := i670.lo; have l736 := i670.hi
    refine ox1 hW 5 ?_
    refine id (S.appFlat (α := Int) o640 o688.rn (fun _ _ h => h) (by' := 8) (d := 47) (lx := sn.length) (ly := 1) rfl rfl (by kernel_rfl) (show _ ≤ 4194304 by simp only [List.length_append, List.length_cons, List.length_nil]; omega) fun ac w N q737 F738 S up o739 d740 => ?_)
    refine WD.sl fun hC => ?_
    have d741 := d740 _ (Disj.symm d641) o16.sub
    have d742 := d740 _ (Disj.symm d642) o41.sub
    have d743 := d740 _ (Disj.symm d643) o53.sub
    have d744 := d740 _ (Disj.symm d644) oc.sub
    replace o16 := o16.upF (Disj.symm d641) up
    replace o41 := o41.upF (Disj.symm d642) up
    replace o53 := o53.upF (Disj.symm d643) up
    replace oc := oc.upF (Disj.symm d644) up
    replace o688 := o688.upF (Disj.symm d730) up
    clear up d740
    exact S.wh hW [6] hC fun _ S => hK722 _ _ x664 q737 F738 _ _ _ S o16 o41 o53 oc o739 d741 d742 d743 d744 i662 i659 i660 i661 i663 h669 i670
   have hK746 ac w (x664 : Int) u N β (S : St Tryz.prog Tryz.f97.ntmps w0 F u N β (σ658.dl [39] [(43, .v (slv sn.length q638.1)), (45, .v (I x664))] 2 []) ac w) (o640 : Ow w0 F u N F639 sn q638) (o16 : Ow w0 F u N F15 (f_guestNew x1).prog q9.prog) (o41 : Ow w0 F u N F40 x38 q39) (o53 : Ow w0 F u N F52 x50 q51) (oc : Oc bs pbs G w0 F u N F q) (i662 : In64 (f_guestNew x1).pend) (i659 : In64 x62) (i660 : In64 x71) (i661 : RCtl x80) (i663 : RExit (f_guestNew x1).exit) (h669 : (((100 : Int) ≤ 0 → x664 = 0) ∧ ((0 : Int) < 100 → 0 ≤ x664 ∧ x664 < 100))) (i670 : (In64 x664)) : W 4 (mkL 8 [0, 1, 2, 3]) ac w := by
    have l747 := i670.lo; have l748 := i670.hi
    refine ox1 hW 4 ?_
    refine id (S.bs1 (α := Int) (x := x664) (p := ()) (F := NoB) i670 (fun b h => False.elim h) (fun b h => False.elim h) (d := 46) (by kernel_rfl) fun ac w N q749 F750 S up o751 d752 => ?_)
    refine WD.sl fun hC => ?_
    have d753 := d752 _ (fun b _ h => False.elim h) o640.sub
    have d754 := d752 _ (fun b _ h => False.elim h) o16.sub
    have d755 := d752 _ (fun b _ h => False.elim h) o41.sub
    have d756 := d752 _ (fun b _ h => False.elim h) o53.sub
    have d757 := d752 _ (fun b _ h => False.elim h) oc.sub
    replace o640 := o640.up up
    replace o16 := o16.up up
    replace o41 := o41.up up
    replace o53 := o53.up up
    replace oc := oc.up up
    clear up d752
    exact S.wh hW [] hC fun _ S => hK729 _ _ x664 q749 F750 _ _ _ S o640 o16 o41 o53 oc o751 d753 d754 d755 d756 d757 i662 i659 i660 i661 i663 h669 i670
   have hK758 ac w (x664 : Int) q689 F690 u N β (S : St Tryz.prog Tryz.f97.ntmps w0 F u N β (σ658.dl [39] [(42, .p 1 14), (46, .v (slv 1 q689.1))] 2 []) ac w) (o640 : Ow w0 F u N F639 sn q638) (o16 : Ow w0 F u N F15 (f_guestNew x1).prog q9.prog) (o41 : Ow w0 F u N F40 x38 q39) (o53 : Ow w0 F u N F52 x50 q51) (oc : Oc bs pbs G w0 F u N F q) (o688 : Ow w0 F u N F690 ([x664]) q689) (d759 : Disj F639 F690) (d760 : Disj F15 F690) (d761 : Disj F40 F690) (d762 : Disj F52 F690) (d763 : Disj F F690) (i662 : In64 (f_guestNew x1).pend) (i659 : In64 x62) (i660 : In64 x71) (i661 : RCtl x80) (i663 : RExit (f_guestNew x1).exit) (h669 : (((100 : Int) ≤ 0 → x664 = 0) ∧ ((0 : Int) < 100 → 0 ≤ x664 ∧ x664 < 100))) (i670 : (In64 x664)) : W 4 (mkL 8 [0, 2, 3, 4]) ac w := by
    have l764 := i670.lo; have l765 := i670.hi
    exact ox1 hW 1 (S.wl hW [] .nil fun _ _ _ S => hK729 _ _ x664 q689 F690 _ _ _ S o640 o16 o41 o53 oc o688 d759 d760 d761 d762 d763 i662 i659 i660 i661 i663 h669 i670)
   have hK766 ac w u N β (S : St Tryz.prog Tryz.f97.ntmps w0 F u N β (σ658.dl [39] [(43, .v (slv sn.length q638.1)), (44, .v (pt q.1.b (q.1.off + 0 * 3)))] 2 []) ac w) (o640 : Ow w0 F u N F639 sn q638) (o16 : Ow w0 F u N F15 (f_guestNew x1).prog q9.prog) (o41 : Ow w0 F u N F40 x38 q39) (o53 : Ow w0 F u N F52 x50 q51) (oc : Oc bs pbs G w0 F u N F q) (i662 : In64 (f_guestNew x1).pend) (i659 : In64 x62) (i660 : In64 x71) (i661 : RCtl x80) (i663 : RExit (f_guestNew x1).exit) (hNN : NN N0 u0 N u) (hBB : BB σ658.bx.length β0 β) : W 5 (mkL 8 [0, 1, 2]) ac w := by
    refine ox1 hW 3 ?_
    refine id (S.callD1 (d := 45) oc (c_spec_l01Below w bs pbs G F q (S.cu oc) 100 (show In64 100 from ⟨by decide, by decide⟩)) fun ac w N x664 q767 F768 S h669 up o769 d770 ocn => ?_)
    refine WD.sl fun hC => ?_
    replace o640 := o640.upF d644 up
    replace o16 := o16.upF (Disj.part (Disj.symm d13) s17) up
    replace o41 := o41.upF (Disj.symm d48) up
    replace o53 := o53.upF (Disj.symm d60) up
    replace oc := ocn
    clear up d770
    have i670 : In64 x664 := o769.own
    have l771 := i670.lo; have l772 := i670.hi
    exact S.wh hW [] hC fun _ S => hK746 _ _ x664 _ _ _ S o640 o16 o41 o53 oc i662 i659 i660 i661 i663 h669 i670
   have hK773 ac w (x664 : Int) u N β (S : St Tryz.prog Tryz.f97.ntmps w0 F u N β (σ658.dl [39] [(42, .p 1 14), (45, .v (I x664))] 2 []) ac w) (o640 : Ow w0 F u N F639 sn q638) (o16 : Ow w0 F u N F15 (f_guestNew x1).prog q9.prog) (o41 : Ow w0 F u N F40 x38 q39) (o53 : Ow w0 F u N F52 x50 q51) (oc : Oc bs pbs G w0 F u N F q) (i662 : In64 (f_guestNew x1).pend) (i659 : In64 x62) (i660 : In64 x71) (i661 : RCtl x80) (i663 : RExit (f_guestNew x1).exit) (h669 : (((100 : Int) ≤ 0 → x664 = 0) ∧ ((0 : Int) < 100 → 0 ≤ x664 ∧ x664 < 100))) (i670 : (In64 x664)) : W 5 (mkL 8 [0, 2, 3]) ac w := by
    have l774 := i670.lo; have l775 := i670.hi
    refine ox2 hW 1 4 (S.wl hW [] .nil fun _ _ _ S => hK746 _ _ x664 _ _ _ S o640 o16 o41 o53 oc i662 i659 i660 i661 i663 h669 i670) ?_
    refine id (S.bs1 (α := Int) (x := x664) (p := ()) (F := NoB) i670 (fun b h => False.elim h) (fun b h => False.elim h) (d := 46) (by kernel_rfl) fun ac w N q776 F777 S up o778 d779 => ?_)
    refine WD.sl fun hC => ?_
    have d780 := d779 _ (fun b _ h => False.elim h) o640.sub
    have d781 := d779 _ (fun b _ h => False.elim h) o16.sub
    have d782 := d779 _ (fun b _ h => False.elim h) o41.sub
    have d783 := d779 _ (fun b _ h => False.elim h) o53.sub
    have d784 := d779 _ (fun b _ h => False.elim h) oc.sub
    replace o640 := o640.up up
    replace o16 := o16.up up
    replace o41 := o41.up up
    replace o53 := o53.up up
    replace oc := oc.up up
    clear up d779
    exact S.wh hW [] hC fun _ S => hK758 _ _ x664 q776 F777 _ _ _ S o640 o16 o41 o53 oc o778 d780 d781 d782 d783 d784 i662 i659 i660 i661 i663 h669 i670
   have hK785 ac w u N β (S : St Tryz.prog Tryz.f97.ntmps w0 F u N β (σ658.dl [39] [(42, .p 1 14), (44, .v (pt q.1.b (q.1.off + 0 * 3)))] 2 []) ac w) (o640 : Ow w0 F u N F639 sn q638) (o16 : Ow w0 F u N F15 (f_guestNew x1).prog q9.prog) (o41 : Ow w0 F u N F40 x38 q39) (o53 : Ow w0 F u N F52 x50 q51) (oc : Oc bs pbs G w0 F u N F q) (hNN : NN N0 u0 N u) (hBB : BB σ658.bx.length β0 β) : W 6 (mkL 8 [0, 2]) ac w := by
    refine ox2 hW 1 3 (S.wq hW hNN hBB [] .nil fun _ _ _ S hB => hK766 _ _ _ _ _ S o640 o16 o41 o53 oc i27 i68 i77 i86 i28 hNN hB) ?_
    refine id (S.callD1 (d := 45) oc (c_spec_l01Below w bs pbs G F q (S.cu oc) 100 (show In64 100 from ⟨by decide, by decide⟩)) fun ac w N x664 q786 F787 S h669 up o788 d789 ocn => ?_)
    refine WD.sl fun hC => ?_
    replace o640 := o640.upF d644 up
    replace o16 := o16.upF (Disj.part (Disj.symm d13) s17) up
    replace o41 := o41.upF (Disj.symm d48) up
    replace o53 := o53.upF (Disj.symm d60) up
    replace oc := ocn
    clear up d789
    have i670 : In64 x664 := o788.own
    have l790 := i670.lo; have l791 := i670.hi
    exact S.wh hW [] hC fun _ S => hK773 _ _ x664 _ _ _ S o640 o16 o41 o53 oc i27 i68 i77 i86 i28 h669 i670
   rw [hW]
   exact S.wh hW [0] (fun _ => S.rcx) fun _ S => hK785 _ _ _ _ _ S o640 o16 o41 o53 oc (fun _ h => ⟨h, rfl⟩) (fun _ _ => rfl)
  clear S o640 o16 o41 o53 oc
  rintro ac w ⟨x664, q713, F714, u, N, β, S, o16, o41, o53, oc, o712, d792, d793, d794, d795, i662, i659, i660, i661, i663, h669, i670⟩
  have l796 := i670.lo; have l797 := i670.hi
  refine S.ex fun S => ?_
  refine S.ge 7 (.cons (qp (k : Int) 1) .nil) f645 fun ac w β S => hf646.of (4 - (k + 1)) _ _ (by omega) ⟨k + 1, (sn ++ [x664]), q713, F714, _, _, _, rfl, ?_, ?_, S.z, o712, o16, o41, o53, oc, (Disj.symm d792), (Disj.symm d793), (Disj.symm d794), (Disj.symm d795)⟩
  ·exact oz
  ·clear S; (simp; omega)
 refine S.gr 13 .nil [GT.val (⟨(f_guestNew x1).prog, x62, x71, x38, x50, x80, (f_guestNew x1).pend, (f_guestNew x1).exit, x632, sn⟩ : TGuest) (⟨q9.prog, q39, q51, q638⟩ : PGuest)] fun ac w β S => ?_
 have o798 := ow_Guest (x := (⟨(f_guestNew x1).prog, x62, x71, x38, x50, x80, (f_guestNew x1).pend, (f_guestNew x1).exit, x632, sn⟩ : TGuest)) (p := (⟨q9.prog, q39, q51, q638⟩ : PGuest)) o16 o41 o53 o640 d44 d56 (Disj.symm d641) d59 (Disj.symm d642) (Disj.symm d643) i68 i77 i86 i27 i28
 exact retD1_of S (show (⟨(f_guestNew x1).prog, x62, x71, x38, x50, x80, (f_guestNew x1).pend, (f_guestNew x1).exit, x632, sn⟩ : TGuest).seen.length ≤ 4 by clear S; (show sn.length ≤ 4; omega)) rfl o798 (Disj.or (Disj.part (Disj.symm d13) s17) (Disj.or (Disj.symm d48) (Disj.or (Disj.symm d60) (Disj.or d644 Disj.nob)))) oc

theorem c_spec_l17Bare (w0 : World) (bs : List TByte) (pbs : LP TByte) (G F : Bl) (q : LP TCur) (hc : Cu bs pbs G F w0 q) : Calls Tryz.prog 94 [pt q.1.b (q.1.off + 0 * 3)].toArray w0 (RetD1 bs pbs G F q w0 (fun (r : TBare) => 1 ≤ r.guests.length ∧ r.guests.length ≤ 2 ∧ r.outs.length ≤ 4)) := by
 refine Calls.run F Tryz.func94 ?_
 intro ac β S
 have oc := hc.oc
 refine S.go 8 .nil fun ac w β S => S.KD1 (d := 7) oc (c_spec_l04Mem w bs pbs G F q (S.cu oc) 8 (show In64 8 from ⟨by decide, by decide⟩) (by omega)) fun ac w N x1 q2 F3 S h6 up o4 d5 ocn => ?_
 have d7 := Disj.w d5 oc.sub
 replace oc := ocn
 clear up d5
 have l8 := LRd.le o4.rn
 have l9 := h6.1
 have l10 := h6.2 0 (by have hh := h6.1; omega)
 have l11 := h6.2 1 (by have hh := h6.1; omega)
 refine S.go 12 (.cons (Q_sem (s := Instr.build 28 [(0, slv x1.length q2.1)].toArray) (v := .agg [slv x1.length q2.1, slv ([] : List TGuest).length (GT.pdflt (α := List TGuest)).1, slv ([] : List Int).length (GT.pdflt (α := List Int)).1, I 0].toArray) (fun w => by kernel_rfl)) .nil) fun ac w β S => ?_
 have o15 := S.nilOw (α := TGuest)
 refine lp (fun mm ac w => ∃ (k : Nat) (gs : List TGuest) (q12 : _) (F13 : _) (u : _) (N : _) (β : _), mm = 2 - k ∧ (k ≤ 2) ∧ (gs.length = k) ∧ St Tryz.prog Tryz.f94.ntmps w0 F u N β ⟨[(0, .v (pt q.1.b (q.1.off + 0 * 3))), (2, .p 0 0), (3, .p 1 0), (4, .v (I (k : Int)))], [Zc TBare, [slv x1.length q2.1, slv gs.length q12.1, slv ([] : List Int).length (GT.pdflt (α := List Int)).1, I 0]]⟩ ac w ∧ Ow w0 F u N F13 gs q12 ∧ Oc bs pbs G w0 F u N F q ∧ Ow w0 F u N F3 x1 q2 ∧ Disj F13 F ∧ Disj F13 F3) _ ⟨0, ([] : List TGuest), (GT.pdflt (α := List TGuest)), NoB, _, _, _, rfl, o0, (by rfl), S.z, o15, oc, o4, (Disj.symm (fun b _ h => False.elim h)), (Disj.symm (fun b _ h => False.elim h))⟩ ?_
 clear S o15 o4 oc
 rintro f18 mm hf19 ac w ⟨k, gs, q12, F13, u, N, β, rfl, hk, hl, S, o14, oc, o4, d16, d17⟩
 refine S.rs fun S => ?_
 refine S.go 5 .nil fun ac w β S => S.KD1 (d := 11) oc (c_spec_l01Below w bs pbs G F q (S.cu oc) 2 (show In64 2 from ⟨by decide, by decide⟩)) fun ac w N x20 q21 F22 S h25 up o23 d24 ocn => ?_
 replace o14 := o14.upF d16 up
 replace o4 := o4.upF (Disj.symm d7) up
 replace oc := ocn
 clear up d24
 have i26 : In64 x20 := o23.own
 have l27 := i26.lo; have l28 := i26.hi
 refine S.gd 4 (.cons (qp 1 x20) .nil) (decide ((k : Int) < (1 + x20))) (fun ac w β h29 g30 S => ?_) (fun ac w β h29 g30 S => ?_)
 ·refine S.go 5 .nil fun ac w β S => ?_
  refine drw ?_
  let σ31 : Sy := ⟨[(0, .v (pt q.1.b (q.1.off + 0 * 3))), (2, .p 0 0), (3, .p 1 0), (4, .v (I (k : Int))), (13, .v (B true))], [Zc TBare, [slv x1.length q2.1, slv gs.length q12.1, slv ([] : List Int).length (GT.pdflt (α := List Int)).1, I 0]]⟩
  obtain ⟨u0, N0, β0, S, o14, o4, oc⟩ : ∃ u0 N0 β0, St Tryz.prog Tryz.f94.ntmps w0 F u0 N0 β0 σ31 ac w ∧ Ow w0 F u0 N0 F13 gs q12 ∧ Ow w0 F u0 N0 F3 x1 q2 ∧ Oc bs pbs G w0 F u0 N0 F q := ⟨_, _, _, S.z, o14, o4, oc⟩
  refine wp_region_cut (fun ac w => ∃  (x32 : TGuest) (q78 : GT.Ptr (List TGuest)) (F79 : Bl) (u : _) (N : _) (β : _), St Tryz.prog Tryz.f94.ntmps w0 F u N β (σ31.dl [13] [] 2 [(1, [slv x1.length q2.1, slv (gs ++ [x32]).length q78.1, slv ([] : List Int).length (GT.pdflt (α := List Int)).1, I 0])]) ac w ∧ Ow w0 F u N F3 x1 q2 ∧ Oc bs pbs G w0 F u N F q ∧ Ow w0 F u N F79 (gs ++ [x32]) q78 ∧ Disj F3 F79 ∧ Disj F F79 ∧ (x32.seen.length ≤ 4)) ?_ ?_
  ·refine S.draw0 (f := 8) 3 (by kernel_rfl) (by kernel_rfl) fun w S => ?_
   refine S.hq 2 [2] [] [(18, .v (pt q.1.b (q.1.off + 0 * 3)))] .nil fun ac S => ?_
   refine WD.nameW fun W hW => ?_
   refine WD.castW (l' := mkL 8 [2]) (by kernel_rfl) ?_
   have hK80 ac w (x32 : TGuest) q78 F79 u N β (S : St Tryz.prog Tryz.f94.ntmps w0 F u N β (σ31.dl [13] [] 2 [(1, [slv x1.length q2.1, slv (gs ++ [x32]).length q78.1, slv ([] : List Int).length (GT.pdflt (α := List Int)).1, I 0])]) ac w) (o4 : Ow w0 F u N F3 x1 q2) (oc : Oc bs pbs G w0 F u N F q) (o77 : Ow w0 F u N F79 (gs ++ [x32]) q78) (d81 : Disj F3 F79) (d82 : Disj F F79) (h37 : (x32.seen.length ≤ 4)) : W 0 (mkL 8 [0, 1, 2, 3, 4, 5, 6, 7]) ac w := by
    exact od hW ⟨rfl, x32, q78, F79, _, _, _, S.z, o4, oc, o77, d81, d82, h37⟩
   have hK83 ac w (x32 : TGuest) q75 F76 u N β (S : St Tryz.prog Tryz.f94.ntmps w0 F u N β (σ31.dl [13] [(21, .v (slv (gs ++ [x32]).length q75.1)), (22, .p 1 1)] 2 []) ac w) (o4 : Ow w0 F u N F3 x1 q2) (oc : Oc bs pbs G w0 F u N F q) (o74 : Ow w0 F u N F76 (gs ++ [x32]) q75) (d84 : Disj F3 F76) (d85 : Disj F F76) (h37 : (x32.seen.length ≤ 4)) : W 1 (mkL 8 [0, 1, 2, 3, 4, 5, 6]) ac w := by
    exact ox1 hW 7 (S.wl hW [] .nil fun _ _ _ S => hK80 _ _ x32 q75 F76 _ _ _ S o4 oc o74 d84 d85 h37)
   have hK86 ac w (x32 : TGuest) q59 F60 u N β (S : St Tryz.prog Tryz.f94.ntmps w0 F u N β (σ31.dl [13] [(17, .v (slv gs.length q12.1)), (20, .v (slv 1 q59.1))] 2 []) ac w) (o14 : Ow w0 F u N F13 gs q12) (o4 : Ow w0 F u N F3 x1 q2) (oc : Oc bs pbs G w0 F u N F q) (o58 : Ow w0 F u N F60 ([x32]) q59) (d87 : Disj F13 F60) (d88 : Disj F3 F60) (d89 : Disj F F60) (h37 : (x32.seen.length ≤ 4)) : W 3 (mkL 8 [0, 1, 2, 3, 4]) ac w := by
    refine ox1 hW 5 ?_
    refine id (S.appOwn (α := TGuest) o14 o58 d87 (by' := 184) (d := 21) (lx := gs.length) (ly := 1) rfl rfl (by kernel_rfl) (show _ ≤ 4194304 by simp only [List.length_append, List.length_cons, List.length_nil]; omega) fun ac w N q90 F91 S up o92 d93 => ?_)
    refine WD.sl fun hC => ?_
    have d94 := d93 _ (Disj.symm d17) d88 o4.sub
    have d95 := d93 _ (Disj.symm d16) d89 oc.sub
    replace o4 := o4.upF (Disj.symm d17) up
    replace oc := oc.upF (Disj.symm d16) up
    clear up d93
    exact S.wh hW [6] hC fun _ S => hK83 _ _ x32 q90 F91 _ _ _ S o4 oc o92 d94 d95 h37
   have hK96 ac w (x32 : TGuest) q42 F43 u N β (S : St Tryz.prog Tryz.f94.ntmps w0 F u N β (σ31.dl [13] [(17, .v (slv gs.length q12.1)), (19, .v (GT.val x32 q42))] 2 []) ac w) (o14 : Ow w0 F u N F13 gs q12) (o4 : Ow w0 F u N F3 x1 q2) (oc : Oc bs pbs G w0 F u N F q) (o41 : Ow w0 F u N F43 x32 q42) (d97 : Disj F13 F43) (d98 : Disj F3 F43) (d99 : Disj F F43) (h37 : (x32.seen.length ≤ 4)) : W 4 (mkL 8 [0, 1, 2, 3]) ac w := by
    refine ox1 hW 4 ?_
    refine id (S.bs1 (α := TGuest) (x := x32) (p := q42) o41.own o41.sub o41.young (d := 20) (by kernel_rfl) fun ac w N q100 F101 S up o102 d103 => ?_)
    refine WD.sl fun hC => ?_
    have d104 := d103 _ d97 o14.sub
    have d105 := d103 _ d98 o4.sub
    have d106 := d103 _ d99 oc.sub
    replace o14 := o14.up up
    replace o4 := o4.up up
    replace oc := oc.up up
    clear up d103
    exact S.wh hW [] hC fun _ S => hK86 _ _ x32 q100 F101 _ _ _ S o14 o4 oc o102 d104 d105 d106 h37
   have hK107 ac w (x32 : TGuest) q59 F60 u N β (S : St Tryz.prog Tryz.f94.ntmps w0 F u N β (σ31.dl [13] [(16, .p 1 1), (20, .v (slv 1 q59.1))] 2 []) ac w) (o14 : Ow w0 F u N F13 gs q12) (o4 : Ow w0 F u N F3 x1 q2) (oc : Oc bs pbs G w0 F u N F q) (o58 : Ow w0 F u N F60 ([x32]) q59) (d108 : Disj F13 F60) (d109 : Disj F3 F60) (d110 : Disj F F60) (h37 : (x32.seen.length ≤ 4)) : W 4 (mkL 8 [0, 2, 3, 4]) ac w := by
    exact ox1 hW 1 (S.wl hW [] .nil fun _ _ _ S => hK86 _ _ x32 q59 F60 _ _ _ S o14 o4 oc o58 d108 d109 d110 h37)
   have hK111 ac w u N β (S : St Tryz.prog Tryz.f94.ntmps w0 F u N β (σ31.dl [13] [(17, .v (slv gs.length q12.1)), (18, .v (pt q.1.b (q.1.off + 0 * 3)))] 2 []) ac w) (o14 : Ow w0 F u N F13 gs q12) (o4 : Ow w0 F u N F3 x1 q2) (oc : Oc bs pbs G w0 F u N F q) (hNN : NN N0 u0 N u) (hBB : BB σ31.bx.length β0 β) : W 5 (mkL 8 [0, 1, 2]) ac w := by
    refine ox1 hW 3 ?_
    refine id (S.callD1 (d := 19) oc (c_spec_l15Guest w bs pbs G F q (S.cu oc)) fun ac w N x32 q112 F113 S h37 up o114 d115 ocn => ?_)
    refine WD.sl fun hC => ?_
    have d116 := Disj.w d115 o14.sub
    have d117 := Disj.w d115 o4.sub
    have d118 := Disj.w d115 oc.sub
    replace o14 := o14.upF d16 up
    replace o4 := o4.upF (Disj.symm d7) up
    replace oc := ocn
    clear up d115
    exact S.wh hW [] hC fun _ S => hK96 _ _ x32 q112 F113 _ _ _ S o14 o4 oc o114 d116 d117 d118 h37
   have hK119 ac w (x32 : TGuest) q42 F43 u N β (S : St Tryz.prog Tryz.f94.ntmps w0 F u N β (σ31.dl [13] [(16, .p 1 1), (19, .v (GT.val x32 q42))] 2 []) ac w) (o14 : Ow w0 F u N F13 gs q12) (o4 : Ow w0 F u N F3 x1 q2) (oc : Oc bs pbs G w0 F u N F q) (o41 : Ow w0 F u N F43 x32 q42) (d120 : Disj F13 F43) (d121 : Disj F3 F43) (d122 : Disj F F43) (h37 : (x32.seen.length ≤ 4)) : W 5 (mkL 8 [0, 2, 3]) ac w := by
    refine ox2 hW 1 4 (S.wl hW [] .nil fun _ _ _ S => hK96 _ _ x32 q42 F43 _ _ _ S o14 o4 oc o41 d120 d121 d122 h37) ?_
    refine id (S.bs1 (α := TGuest) (x := x32) (p := q42) o41.own o41.sub o41.young (d := 20) (by kernel_rfl) fun ac w N q123 F124 S up o125 d126 => ?_)
    refine WD.sl fun hC => ?_
    have d127 := d126 _ d120 o14.sub
    have d128 := d126 _ d121 o4.sub
    have d129 := d126 _ d122 oc.sub
    replace o14 := o14.up up
    replace o4 := o4.up up
    replace oc := oc.up up
    clear up d126
    exact S.wh hW [] hC fun _ S => hK107 _ _ x32 q123 F124 _ _ _ S o14 o4 oc o125 d127 d128 d129 h37
   have hK130 ac w u N β (S : St Tryz.prog Tryz.f94.ntmps w0 F u N β (σ31.dl [13] [(16, .p 1 1), (18, .v (pt q.1.b (q.1.off + 0 * 3)))] 2 []) ac w) (o14 : Ow w0 F u N F13 gs q12) (o4 : Ow w0 F u N F3 x1 q2) (oc : Oc bs pbs G w0 F u N F q) (hNN : NN N0 u0 N u) (hBB : BB σ31.bx.length β0 β) : W 6 (mkL 8 [0, 2]) ac w := by
    refine ox2 hW 1 3 (S.wq hW hNN hBB [] .nil fun _ _ _ S hB => hK111 _ _ _ _ _ S o14 o4 oc hNN hB) ?_
    refine id (S.callD1 (d := 19) oc (c_spec_l15Guest w bs pbs G F q (S.cu oc)) fun ac w N x32 q131 F132 S h37 up o133 d134 ocn => ?_)
    refine WD.sl fun hC => ?_
    have d135 := Disj.w d134 o14.sub
    have d136 := Disj.w d134 o4.sub
    have d137 := Disj.w d134 oc.sub
    replace o14 := o14.upF d16 up
    replace o4 := o4.upF (Disj.symm d7) up
    replace oc := ocn
    clear up d134
    exact S.wh hW [] hC fun _ S => hK119 _ _ x32 q131 F132 _ _ _ S o14 o4 oc o133 d135 d136 d137 h37
   rw [hW]
   exact S.wh hW [0] (fun _ => S.rcx) fun _ S => hK130 _ _ _ _ _ S o14 o4 oc (fun _ h => ⟨h, rfl⟩) (fun _ _ => rfl)
  clear S o14 o4 oc
  rintro ac w ⟨x32, q78, F79, u, N, β, S, o4, oc, o77, d138, d139, h37⟩
  refine S.ex fun S => ?_
  refine S.ge 7 (.cons (qp (k : Int) 1) .nil) f18 fun ac w β S => hf19.of (2 - (k + 1)) _ _ (by omega) ⟨k + 1, (gs ++ [x32]), q78, F79, _, _, _, rfl, ?_, ?_, S.z, o77, oc, o4, (Disj.symm d139), (Disj.symm d138)⟩
  ·exact oz
  ·clear S; (simp; omega)
 refine S.go 13 .nil fun ac w β S => ?_
 have o143 := S.nilOw (α := Int)
 refine lp (fun mm ac w => ∃ (k2 : Nat) (os : List Int) (q140 : _) (F141 : _) (u : _) (N : _) (β : _), mm = 4 - k2 ∧ (k2 ≤ 4) ∧ (os.length = k2) ∧ St Tryz.prog Tryz.f94.ntmps w0 F u N β ⟨[(0, .v (pt q.1.b (q.1.off + 0 * 3))), (2, .p 0 0), (3, .p 1 0), (5, .v (I (k2 : Int)))], [Zc TBare, [slv x1.length q2.1, slv gs.length q12.1, slv os.length q140.1, I 0]]⟩ ac w ∧ Ow w0 F u N F141 os q140 ∧ Ow w0 F u N F13 gs q12 ∧ Ow w0 F u N F3 x1 q2 ∧ Oc bs pbs G w0 F u N F q ∧ Disj F141 F13 ∧ Disj F141 F3 ∧ Disj F141 F) _ ⟨0, ([] : List Int), (GT.pdflt (α := List Int)), NoB, _, _, _, rfl, o0, (by rfl), S.z, o143, o14, o4, oc, (Disj.symm (fun b _ h => False.elim h)), (Disj.symm (fun b _ h => False.elim h)), (Disj.symm (fun b _ h => False.elim h))⟩ ?_
 clear S o14 o143 o4 oc
 rintro f147 mm hf148 ac w ⟨k2, os, q140, F141, u, N, β, rfl, hk2, hl2, S, o142, o14, o4, oc, d144, d145, d146⟩
 refine S.rs fun S => ?_
 refine S.go 5 .nil fun ac w β S => S.KD1 (d := 25) oc (c_spec_l01Below w bs pbs G F q (S.cu oc) 4 (show In64 4 from ⟨by decide, by decide⟩)) fun ac w N x149 q150 F151 S h154 up o152 d153 ocn => ?_
 replace o142 := o142.upF d146 up
 replace o14 := o14.upF d16 up
 replace o4 := o4.upF (Disj.symm d7) up
 replace oc := ocn
 clear up d153
 have i155 : In64 x149 := o152.own
 have l156 := i155.lo; have l157 := i155.hi
 refine S.gd 3 .nil (decide ((k2 : Int) < x149)) (fun ac w β h158 g159 S => ?_) (fun ac w β h158 g159 S => ?_)
 ·refine S.go 5 .nil fun ac w β S => ?_
  refine drw ?_
  let σ160 : Sy := ⟨[(0, .v (pt q.1.b (q.1.off + 0 * 3))), (2, .p 0 0), (3, .p 1 0), (5, .v (I (k2 : Int))), (26, .v (B true))], [Zc TBare, [slv x1.length q2.1, slv gs.length q12.1, slv os.length q140.1, I 0]]⟩
  obtain ⟨u0, N0, β0, S, o142, o14, o4, oc⟩ : ∃ u0 N0 β0, St Tryz.prog Tryz.f94.ntmps w0 F u0 N0 β0 σ160 ac w ∧ Ow w0 F u0 N0 F141 os q140 ∧ Ow w0 F u0 N0 F13 gs q12 ∧ Ow w0 F u0 N0 F3 x1 q2 ∧ Oc bs pbs G w0 F u0 N0 F q := ⟨_, _, _, S.z, o142, o14, o4, oc⟩
  refine wp_region_cut (fun ac w => ∃  (x161 : Int) (q207 : GT.Ptr (List Int)) (F208 : Bl) (u : _) (N : _) (β : _), St Tryz.prog Tryz.f94.ntmps w0 F u N β (σ160.dl [26] [] 2 [(1, [slv x1.length q2.1, slv gs.length q12.1, slv (os ++ [x161]).length q207.1, I 0])]) ac w ∧ Ow w0 F u N F13 gs q12 ∧ Ow w0 F u N F3 x1 q2 ∧ Oc bs pbs G w0 F u N F q ∧ Ow w0 F u N F208 (os ++ [x161]) q207 ∧ Disj F13 F208 ∧ Disj F3 F208 ∧ Disj F F208 ∧ (((100 : Int) ≤ 0 → x161 = 0) ∧ ((0 : Int) < 100 → 0 ≤ x161 ∧ x161 < 100)) ∧ (In64 x161)) ?_ ?_
  ·refine S.draw0 (f := 8) 3 (by kernel_rfl) (by kernel_rfl) fun w S => ?_
   refine S.hq 2 [2] [] [(31, .v (pt q.1.b (q.1.off + 0 * 3)))] .nil fun ac S => ?_
   refine WD.nameW fun W hW => ?_
   refine WD.castW (l' := mkL 8 [2]) (by kernel_rfl) ?_
   have hK209 ac w (x161 : Int) q207 F208 u N β (S : St Tryz.prog Tryz.f94.ntmps w0 F u N β (σ160.dl [26] [] 2 [(1, [slv x1.length q2.1, slv gs.length q12.1, slv (os ++ [x161]).length q207.1, I 0])]) ac w) (o14 : Ow w0 F u N F13 gs q12) (o4 : Ow w0 F u N F3 x1 q2) (oc : Oc bs pbs G w0 F u N F q) (o206 : Ow w0 F u N F208 (os ++ [x161]) q207) (d210 : Disj F13 F208) (d211 : Disj F3 F208) (d212 : Disj F F208) (h166 : (((100 : Int) ≤ 0 → x161 = 0) ∧ ((0 : Int) < 100 → 0 ≤ x161 ∧ x161 < 100))) (i167 : (In64 x161)) : W 0 (mkL 8 [0, 1, 2, 3, 4, 5, 6, 7]) ac w := by
    have l213 := i167.lo; have l214 := i167.hi
    exact od hW ⟨rfl, x161, q207, F208, _, _, _, S.z, o14, o4, oc, o206, d210, d211, d212, h166, i167⟩
   have hK215 ac w (x161 : Int) q204 F205 u N β (S : St Tryz.prog Tryz.f94.ntmps w0 F u N β (σ160.dl [26] [(34, .v (slv (os ++ [x161]).length q204.1)), (35, .p 1 2)] 2 []) ac w) (o14 : Ow w0 F u N F13 gs q12) (o4 : Ow w0 F u N F3 x1 q2) (oc : Oc bs pbs G w0 F u N F q) (o203 : Ow w0 F u N F205 (os ++ [x161]) q204) (d216 : Disj F13 F205) (d217 : Disj F3 F205) (d218 : Disj F F205) (h166 : (((100 : Int) ≤ 0 → x161 = 0) ∧ ((0 : Int) < 100 → 0 ≤ x161 ∧ x161 < 100))) (i167 : (In64 x161)) : W 1 (mkL 8 [0, 1, 2, 3, 4, 5, 6]) ac w := by
    have l219 := i167.lo; have l220 := i167.hi
    exact ox1 hW 7 (S.wl hW [] .nil fun _ _ _ S => hK209 _ _ x161 q204 F205 _ _ _ S o14 o4 oc o203 d216 d217 d218 h166 i167)
   have hK221 ac w (x161 : Int) q185 F186 u N β (S : St Tryz.prog Tryz.f94.ntmps w0 F u N β (σ160.dl [26] [(30, .v (slv os.length q140.1)), (33, .v (slv 1 q185.1))] 2 []) ac w) (o142 : Ow w0 F u N F141 os q140) (o14 : Ow w0 F u N F13 gs q12) (o4 : Ow w0 F u N F3 x1 q2) (oc : Oc bs pbs G w0 F u N F q) (o184 : Ow w0 F u N F186 ([x161]) q185) (d222 : Disj F141 F186) (d223 : Disj F13 F186) (d224 : Disj F3 F186) (d225 : Disj F F186) (h166 : (((100 : Int) ≤ 0 → x161 = 0) ∧ ((0 : Int) < 100 → 0 ≤ x161 ∧ x161 < 100))) (i167 : (In64 x161)) : W 3 (mkL 8 [0, 1, 2, 3, 4]) ac w := by
    have l226 := i167.lo; have l227 := i167.hi
    refine ox1 hW 5 ?_
    refine id (S.appFlat (α := Int) o142 o184.rn (fun _ _ h => h) (by' := 8) (d := 34) (lx := os.length) (ly := 1) rfl rfl (by kernel_rfl) (show _ ≤ 4194304 by simp only [List.length_append, List.length_cons, List.length_nil]; omega) fun ac w N q228 F229 S up o230 d231 => ?_)
    refine WD.sl fun hC => ?_
    have d232 := d231 _ (Disj.symm d144) o14.sub
    have d233 := d231 _ (Disj.symm d145) o4.sub
    have d234 := d231 _ (Disj.symm d146) oc.sub
    replace o14 := o14.upF (Disj.symm d144) up
    replace o4 := o4.upF (Disj.symm d145) up
    replace oc := oc.upF (Disj.symm d146) up
    replace o184 := o184.upF (Disj.symm d222) up
    clear up d231
    exact S.wh hW [6] hC fun _ S => hK215 _ _ x161 q228 F229 _ _ _ S o14 o4 oc o230 d232 d233 d234 h166 i167
   have hK236 ac w (x161 : Int) u N β (S : St Tryz.prog Tryz.f94.ntmps w0 F u N β (σ160.dl [26] [(30, .v (slv os.length q140.1)), (32, .v (I x161))] 2 []) ac w) (o142 : Ow w0 F u N F141 os q140) (o14 : Ow w0 F u N F13 gs q12) (o4 : Ow w0 F u N F3 x1 q2) (oc : Oc bs pbs G w0 F u N F q) (h166 : (((100 : Int) ≤ 0 → x161 = 0) ∧ ((0 : Int) < 100 → 0 ≤ x161 ∧ x161 < 100))) (i167 : (In64 x161)) : W 4 (mkL 8 [0, 1, 2, 3]) ac w := by
    have l237 := i167.lo; have l238 := i167.hi
    refine ox1 hW 4 ?_
    refine id (S.bs1 (α := Int) (x := x161) (p := ()) (F := NoB) i167 (fun b h => False.elim h) (fun b h => False.elim h) (d := 33) (by kernel_rfl) fun ac w N q239 F240 S up o241 d242 => ?_)
    refine WD.sl fun hC => ?_
    have d243 := d242 _ (fun b _ h => False.elim h) o142.sub
    have d244 := d242 _ (fun b _ h => False.elim h) o14.sub
    have d245 := d242 _ (fun b _ h => False.elim h) o4.sub
    have d246 := d242 _ (fun b _ h => False.elim h) oc.sub
    replace o142 := o142.up up
    replace o14 := o14.up up
    replace o4 := o4.up up
    replace oc := oc.up up
    clear up d242
    exact S.wh hW [] hC fun _ S => hK221 _ _ x161 q239 F240 _ _ _ S o142 o14 o4 oc o241 d243 d244 d245 d246 h166 i167
   have hK247 ac w (x161 : Int) q185 F186 u N β (S : St Tryz.prog Tryz.f94.ntmps w0 F u N β (σ160.dl [26] [(29, .p 1 2), (33, .v (slv 1 q185.1))] 2 []) ac w) (o142 : Ow w0 F u N F141 os q140) (o14 : Ow w0 F u N F13 gs q12) (o4 : Ow w0 F u N F3 x1 q2) (oc : Oc bs pbs G w0 F u N F q) (o184 : Ow w0 F u N F186 ([x161]) q185) (d248 : Disj F141 F186) (d249 : Disj F13 F186) (d250 : Disj F3 F186) (d251 : Disj F F186) (h166 : (((100 : Int) ≤ 0 → x161 = 0) ∧ ((0 : Int) < 100 → 0 ≤ x161 ∧ x161 < 100))) (i167 : (In64 x161)) : W 4 (mkL 8 [0, 2, 3, 4]) ac w := by
    have l252 := i167.lo; have l253 := i167.hi
    exact ox1 hW 1 (S.wl hW [] .nil fun _ _ _ S => hK221 _ _ x161 q185 F186 _ _ _ S o142 o14 o4 oc o184 d248 d249 d250 d251 h166 i167)
   have hK254 ac w u N β (S : St Tryz.prog Tryz.f94.ntmps w0 F u N β (σ160.dl [26] [(30, .v (slv os.length q140.1)), (31, .v (pt q.1.b (q.1.off + 0 * 3)))] 2 []) ac w) (o142 : Ow w0 F u N F141 os q140) (o14 : Ow w0 F u N F13 gs q12) (o4 : Ow w0 F u N F3 x1 q2) (oc : Oc bs pbs G w0 F u N F q) (hNN : NN N0 u0 N u) (hBB : BB σ160.bx.length β0 β) : W 5 (mkL 8 [0, 1, 2]) ac w := by
    refine ox1 hW 3 ?_
    refine id (S.callD1 (d := 32) oc (c_spec_l01Below w bs pbs G F q (S.cu oc) 100 (show In64 100 from ⟨by decide, by decide⟩)) fun ac w N x161 q255 F256 S h166 up o257 d258 ocn => ?_)
    refine WD.sl fun hC => ?_
    replace o142 := o142.upF d146 up
    replace o14 := o14.upF d16 up
    replace o4 := o4.upF (Disj.symm d7) up
    replace oc := ocn
    clear up d258
    have i167 : In64 x161 := o257.own
    have l259 := i167.lo; have l260 := i167.hi
    exact S.wh hW [] hC fun _ S => hK236 _ _ x161 _ _ _ S o142 o14 o4 oc h166 i167
   have hK261 ac w (x161 : Int) u N β (S : St Tryz.prog Tryz.f94.ntmps w0 F u N β (σ160.dl [26] [(29, .p 1 2), (32, .v (I x161))] 2 []) ac w) (o142 : Ow w0 F u N F141 os q140) (o14 : Ow w0 F u N F13 gs q12) (o4 : Ow w0 F u N F3 x1 q2) (oc : Oc bs pbs G w0 F u N F q) (h166 : (((100 : Int) ≤ 0 → x161 = 0) ∧ ((0 : Int) < 100 → 0 ≤ x161 ∧ x161 < 100))) (i167 : (In64 x161)) : W 5 (mkL 8 [0, 2, 3]) ac w := by
    have l262 := i167.lo; have l263 := i167.hi
    refine ox2 hW 1 4 (S.wl hW [] .nil fun _ _ _ S => hK236 _ _ x161 _ _ _ S o142 o14 o4 oc h166 i167) ?_
    refine id (S.bs1 (α := Int) (x := x161) (p := ()) (F := NoB) i167 (fun b h => False.elim h) (fun b h => False.elim h) (d := 33) (by kernel_rfl) fun ac w N q264 F265 S up o266 d267 => ?_)
    refine WD.sl fun hC => ?_
    have d268 := d267 _ (fun b _ h => False.elim h) o142.sub
    have d269 := d267 _ (fun b _ h => False.elim h) o14.sub
    have d270 := d267 _ (fun b _ h => False.elim h) o4.sub
    have d271 := d267 _ (fun b _ h => False.elim h) oc.sub
    replace o142 := o142.up up
    replace o14 := o14.up up
    replace o4 := o4.up up
    replace oc := oc.up up
    clear up d267
    exact S.wh hW [] hC fun _ S => hK247 _ _ x161 q264 F265 _ _ _ S o142 o14 o4 oc o266 d268 d269 d270 d271 h166 i167
   have hK272 ac w u N β (S : St Tryz.prog Tryz.f94.ntmps w0 F u N β (σ160.dl [26] [(29, .p 1 2), (31, .v (pt q.1.b (q.1.off + 0 * 3)))] 2 []) ac w) (o142 : Ow w0 F u N F141 os q140) (o14 : Ow w0 F u N F13 gs q12) (o4 : Ow w0 F u N F3 x1 q2) (oc : Oc bs pbs G w0 F u N F q) (hNN : NN N0 u0 N u) (hBB : BB σ160.bx.length β0 β) : W 6 (mkL 8 [0, 2]) ac w := by
    refine ox2 hW 1 3 (S.wq hW hNN hBB [] .nil fun _ _ _ S hB => hK254 _ _ _ _ _ S o142 o14 o4 oc hNN hB) ?_
    refine id (S.callD1 (d := 32) oc (c_spec_l01Below w bs pbs G F q (S.cu oc) 100 (show In64 100 from ⟨by decide, by decide⟩)) fun ac w N x161 q273 F274 S h166 up o275 d276 ocn => ?_)
    refine WD.sl fun hC => ?_
    replace o142 := o142.upF d146 up
    replace o14 := o14.upF d16 up
    replace o4 := o4.upF (Disj.symm d7) up
    replace oc := ocn
    clear up d276
    have i167 : In64 x161 := o275.own
    have l277 := i167.lo; have l278 := i167.hi
    exact S.wh hW [] hC fun _ S => hK261 _ _ x161 _ _ _ S o142 o14 o4 oc h166 i167
   rw [hW]
   exact S.wh hW [0] (fun _ => S.rcx) fun _ S => hK272 _ _ _ _ _ S o142 o14 o4 oc (fun _ h => ⟨h, rfl⟩) (fun _ _ => rfl)
  clear S o142 o14 o4 oc
  rintro ac w ⟨x161, q207, F208, u, N, β, S, o14, o4, oc, o206, d279, d280, d281, h166, i167⟩
  have l282 := i167.lo; have l283 := i167.hi
  refine S.ex fun S => ?_
  refine S.ge 7 (.cons (qp (k2 : Int) 1) .nil) f147 fun ac w β S => hf148.of (4 - (k2 + 1)) _ _ (by omega) ⟨k2 + 1, (os ++ [x161]), q207, F208, _, _, _, rfl, ?_, ?_, S.z, o206, o14, o4, oc, (Disj.symm d279), (Disj.symm d280), (Disj.symm d281)⟩
  ·exact oz
  ·clear S; (simp; omega)
 refine S.go 10 .nil fun ac w β S => S.KD1 (d := 37) oc (c_spec_l01Once w bs pbs G F q (S.cu oc) 3 (show In64 3 from ⟨by decide, by decide⟩)) fun ac w N x284 q285 F286 S h289 up o287 d288 ocn => ?_
 replace o142 := o142.upF d146 up
 replace o14 := o14.upF d16 up
 replace o4 := o4.upF (Disj.symm d7) up
 replace oc := ocn
 clear up d288
 refine S.gb 2 .nil x284 (fun ac w β h290 S => ?_) (fun ac w β h290 S => ?_)
 ·refine S.go 3 .nil fun ac w β S => S.KD1 (d := 39) oc (c_spec_l01Below w bs pbs G F q (S.cu oc) 256 (show In64 256 from ⟨by decide, by decide⟩)) fun ac w N x291 q292 F293 S h296 up o294 d295 ocn => ?_
  replace o142 := o142.upF d146 up
  replace o14 := o14.upF d16 up
  replace o4 := o4.upF (Disj.symm d7) up
  replace oc := ocn
  clear up d295
  have i297 : In64 x291 := o294.own
  have l298 := i297.lo; have l299 := i297.hi
  refine S.gr 11 .nil [GT.val (⟨x1, gs, os, x291⟩ : TBare) (⟨q2, q12, q140⟩ : PBare)] fun ac w β S => ?_
  have o300 := ow_Bare (x := (⟨x1, gs, os, x291⟩ : TBare)) (p := (⟨q2, q12, q140⟩ : PBare)) o4 o14 o142 (Disj.symm d17) (Disj.symm d145) (Disj.symm d144) i297
  exact retD1_of S (show 1 ≤ (⟨x1, gs, os, x291⟩ : TBare).guests.length ∧ (⟨x1, gs, os, x291⟩ : TBare).guests.length ≤ 2 ∧ (⟨x1, gs, os, x291⟩ : TBare).outs.length ≤ 4 by clear S; (show 1 ≤ gs.length ∧ gs.length ≤ 2 ∧ os.length ≤ 4; omega)) rfl o300 (Disj.or (Disj.symm d7) (Disj.or d16 (Disj.or d146 Disj.nob))) oc
 refine S.gr 10 .nil [GT.val (⟨x1, gs, os, 0⟩ : TBare) (⟨q2, q12, q140⟩ : PBare)] fun ac w β S => ?_
 have o301 := ow_Bare (x := (⟨x1, gs, os, 0⟩ : TBare)) (p := (⟨q2, q12, q140⟩ : PBare)) o4 o14 o142 (Disj.symm d17) (Disj.symm d145) (Disj.symm d144) (show In64 0 from ⟨by decide, by decide⟩)
 exact retD1_of S (show 1 ≤ (⟨x1, gs, os, 0⟩ : TBare).guests.length ∧ (⟨x1, gs, os, 0⟩ : TBare).guests.length ≤ 2 ∧ (⟨x1, gs, os, 0⟩ : TBare).outs.length ≤ 4 by clear S; (show 1 ≤ gs.length ∧ gs.length ≤ 2 ∧ os.length ≤ 4; omega)) rfl o301 (Disj.or (Disj.symm d7) (Disj.or d16 (Disj.or d146 Disj.nob))) oc

theorem c_spec_l04Any (w0 : World) (bs : List TByte) (pbs : LP TByte) (G F : Bl) (q : LP TCur) (hc : Cu bs pbs G F w0 q) : Calls Tryz.prog 95 [pt q.1.b (q.1.off + 0 * 3)].toArray w0 (RetQ1 bs pbs G F q w0 (fun (r : List (List Int)) => True)) := by
 refine Calls.run F Tryz.func95 ?_
 intro ac β S
 have oc := hc.oc
 refine S.go 8 .nil fun ac w β S => S.KD1 (d := 5) oc (c_spec_l04Mem w bs pbs G F q (S.cu oc) 3 (show In64 3 from ⟨by decide, by decide⟩) (by omega)) fun ac w N x1 q2 F3 S h6 up o4 d5 ocn => ?_
 have d7 := Disj.w d5 oc.sub
 replace oc := ocn
 clear up d5
 have l8 := LRd.le o4.rn
 have l9 := h6.1
 have l10 := h6.2 0 (by have hh := h6.1; omega)
 have l11 := h6.2 1 (by have hh := h6.1; omega)
 refine S.go 7 .nil fun ac w β S => S.KD1 (d := 7) oc (c_spec_l01Below w bs pbs G F q (S.cu oc) 8 (show In64 8 from ⟨by decide, by decide⟩)) fun ac w N x12 q13 F14 S h17 up o15 d16 ocn => ?_
 replace o4 := o4.upF (Disj.symm d7) up
 replace oc := ocn
 clear up d16
 have i18 : In64 x12 := o15.own
 have l19 := i18.lo; have l20 := i18.hi
 refine S.gd 9 .nil (x12 == 0) (fun ac w β h21 g22 S => ?_) (fun ac w β h21 g22 S => ?_)
 ·refine S.go 1 .nil fun ac w β S => ?_
  refine drw ?_
  let σ23 : Sy := ⟨[(0, .v (pt q.1.b (q.1.off + 0 * 3))), (3, .v (slv x1.length q2.1)), (7, .v (I x12)), (8, .v (B true))], []⟩
  obtain ⟨u0, N0, β0, S, o4, oc⟩ : ∃ u0 N0 β0, St Tryz.prog Tryz.f95.ntmps w0 F u0 N0 β0 σ23 ac w ∧ Ow w0 F u0 N0 F3 x1 q2 ∧ Oc bs pbs G w0 F u0 N0 F q := ⟨_, _, _, S.z, o4, oc⟩
  refine wp_region_cut (fun ac w => ∃  (x24 : Int) (x33 : Int) (q71 : GT.Ptr (List (List Int))) (F72 : Bl) (u : _) (N : _) (β : _), St Tryz.prog Tryz.f95.ntmps w0 F u N β (σ23.dl [0, 7, 8] [(3, .v (slv x1.length q71.1))] 0 []) ac w ∧ Oc bs pbs G w0 F u N F q ∧ Rw w0 F u N F72 (x1.set x24.toNat ((el x1 0).take x33.toNat)) q71 ∧ Disj F F72 ∧ (((3 : Int) ≤ 0 → x24 = 0) ∧ ((0 : Int) < 3 → 0 ≤ x24 ∧ x24 < 3)) ∧ (In64 x24) ∧ (((4 : Int) ≤ 0 → x33 = 0) ∧ ((0 : Int) < 4 → 0 ≤ x33 ∧ x33 < 4)) ∧ (In64 x33)) ?_ ?_
  ·refine S.draw0 (f := 11) 2 (by kernel_rfl) (by kernel_rfl) fun w S => ?_
   refine S.hq 1 [1] [] [(11, .v (pt q.1.b (q.1.off + 0 * 3)))] .nil fun ac S => ?_
   refine WD.nameW fun W hW => ?_
   refine WD.castW (l' := mkL 11 [1]) (by kernel_rfl) ?_
   have hK73 ac w (x24 : Int) (x33 : Int) q71 F72 u N β (S : St Tryz.prog Tryz.f95.ntmps w0 F u N β (σ23.dl [0, 7, 8] [(3, .v (slv x1.length q71.1))] 0 []) ac w) (oc : Oc bs pbs G w0 F u N F q) (o70 : Rw w0 F u N F72 (x1.set x24.toNat ((el x1 0).take x33.toNat)) q71) (d74 : Disj F F72) (h29 : (((3 : Int) ≤ 0 → x24 = 0) ∧ ((0 : Int) < 3 → 0 ≤ x24 ∧ x24 < 3))) (i30 : (In64 x24)) (h38 : (((4 : Int) ≤ 0 → x33 = 0) ∧ ((0 : Int) < 4 → 0 ≤ x33 ∧ x33 < 4))) (i39 : (In64 x33)) : W 0 (mkL 11 [0, 1, 2, 3, 4, 5, 6, 7, 8, 9, 10]) ac w := by
    have l75 := i30.lo; have l76 := i30.hi
    have l77 := i39.lo; have l78 := i39.hi
    exact od hW ⟨rfl, x24, x33, q71, F72, _, _, _, S.z, oc, o70, d74, h29, i30, h38, i39⟩
   have hK79 ac w (x24 : Int) (x33 : Int) u N β (S : St Tryz.prog Tryz.f95.ntmps w0 F u N β (σ23.dl [0, 7, 8] [(18, .v (slv x33.toNat ((q2.2 0).1.sl 0 1))), (19, .v (pt q2.1.b (q2.1.off + x24.toNat * 1)))] 0 []) ac w) (o4 : Ow w0 F u N F3 x1 q2) (oc : Oc bs pbs G w0 F u N F q) (h29 : (((3 : Int) ≤ 0 → x24 = 0) ∧ ((0 : Int) < 3 → 0 ≤ x24 ∧ x24 < 3))) (i30 : (In64 x24)) (h38 : (((4 : Int) ≤ 0 → x33 = 0) ∧ ((0 : Int) < 4 → 0 ≤ x33 ∧ x33 < 4))) (i39 : (In64 x33)) : W 1 (mkL 11 [0, 1, 2, 3, 4, 5, 6, 7, 8, 9]) ac w := by
    have l80 := i30.lo; have l81 := i30.hi
    have l82 := i39.lo; have l83 := i39.hi
    refine ox1 hW 10 ?_
    refine id (S.sR (t := 26) (k := x24.toNat) (j := 0) (m := x33.toNat) (off := q2.1.off + x24.toNat * 1) (y := ((el x1 0).take x33.toNat)) (q := ((q2.2 0).1.sl 0 1, fun i => (q2.2 0).2 (0 + i))) o4 (by omega) (by simp) rfl (by omega) fun w N q85 S up o84 n86 => ?_)
    refine WD.sl fun hC => ?_
    replace oc := oc.upF d7 up
    clear up n86 o4
    exact S.wh hW [] hC fun _ S => hK73 _ _ x24 x33 (q2.1, q85) F3 _ _ _ S oc o84 d7 h29 i30 h38 i39
   have hK87 ac w (x24 : Int) (x33 : Int) u N β (S : St Tryz.prog Tryz.f95.ntmps w0 F u N β (σ23.dl [0, 7, 8] [(10, .v (slv x1.length q2.1)), (12, .v (I x24)), (18, .v (slv x33.toNat ((q2.2 0).1.sl 0 1)))] 0 []) ac w) (o4 : Ow w0 F u N F3 x1 q2) (oc : Oc bs pbs G w0 F u N F q) (h29 : (((3 : Int) ≤ 0 → x24 = 0) ∧ ((0 : Int) < 3 → 0 ≤ x24 ∧ x24 < 3))) (i30 : (In64 x24)) (h38 : (((4 : Int) ≤ 0 → x33 = 0) ∧ ((0 : Int) < 4 → 0 ≤ x33 ∧ x33 < 4))) (i39 : (In64 x33)) : W 2 (mkL 11 [0, 1, 2, 3, 4, 5, 6, 7, 8]) ac w := by
    have l88 := i30.lo; have l89 := i30.hi
    have l90 := i39.lo; have l91 := i39.hi
    exact ox1 hW 9 (S.wl hW [] (.cons (qt o4.rn x24 Tryz.underlying24) .nil) fun _ _ _ S => hK79 _ _ x24 x33 _ _ _ S o4 oc h29 i30 h38 i39)
   have hK92 ac w (x24 : Int) (x33 : Int) u N β (S : St Tryz.prog Tryz.f95.ntmps w0 F u N β (σ23.dl [0, 7, 8] [(10, .v (slv x1.length q2.1)), (12, .v (I x24)), (15, .v (slv (el x1 0).length (q2.2 0).1)), (17, .v (I x33))] 0 []) ac w) (o4 : Ow w0 F u N F3 x1 q2) (oc : Oc bs pbs G w0 F u N F q) (h29 : (((3 : Int) ≤ 0 → x24 = 0) ∧ ((0 : Int) < 3 → 0 ≤ x24 ∧ x24 < 3))) (i30 : (In64 x24)) (h38 : (((4 : Int) ≤ 0 → x33 = 0) ∧ ((0 : Int) < 4 → 0 ≤ x33 ∧ x33 < 4))) (i39 : (In64 x33)) : W 3 (mkL 11 [0, 1, 2, 3, 4, 5, 6, 7]) ac w := by
    have l93 := i30.lo; have l94 := i30.hi
    have l95 := i39.lo; have l96 := i39.hi
    have l97 : ((el x1 0).take x33.toNat).length = x33.toNat - 0 := by first | (simp; done) | (simp; omega)
    exact ox1 hW 8 (S.wl hW [] (.cons (Q_slice (hi := some (I x33)) (LRd.el o4.rn 0 (by omega)) (l := (el x1 0).length) (a := 0) (b := x33.toNat) rfl (.inl ⟨rfl, rfl⟩) (.inr (congrArg (fun z => some (I z)) (show x33 = ((x33.toNat : Nat) : Int) by omega))) (by omega) (by omega) Tryz.underlying26 (by kernel_rfl)) .nil) fun _ _ _ S => hK87 _ _ x24 x33 _ _ _ S o4 oc h29 i30 h38 i39)
   have hK98 ac w (x24 : Int) u N β (S : St Tryz.prog Tryz.f95.ntmps w0 F u N β (σ23.dl [0, 7, 8] [(10, .v (slv x1.length q2.1)), (12, .v (I x24)), (15, .v (slv (el x1 0).length (q2.2 0).1)), (16, .v (pt q.1.b (q.1.off + 0 * 3)))] 0 []) ac w) (o4 : Ow w0 F u N F3 x1 q2) (oc : Oc bs pbs G w0 F u N F q) (h29 : (((3 : Int) ≤ 0 → x24 = 0) ∧ ((0 : Int) < 3 → 0 ≤ x24 ∧ x24 < 3))) (i30 : (In64 x24)) : W 4 (mkL 11 [0, 1, 2, 3, 4, 5, 6]) ac w := by
    have l99 := i30.lo; have l100 := i30.hi
    refine ox1 hW 7 ?_
    refine id (S.callD1 (d := 17) oc (c_spec_l01Below w bs pbs G F q (S.cu oc) 4 (show In64 4 from ⟨by decide, by decide⟩)) fun ac w N x33 q101 F102 S h38 up o103 d104 ocn => ?_)
    refine WD.sl fun hC => ?_
    replace o4 := o4.upF (Disj.symm d7) up
    replace oc := ocn
    clear up d104
    have i39 : In64 x33 := o103.own
    have l105 := i39.lo; have l106 := i39.hi
    exact S.wh hW [] hC fun _ S => hK92 _ _ x24 x33 _ _ _ S o4 oc h29 i30 h38 i39
   have hK107 ac w (x24 : Int) (x33 : Int) u N β (S : St Tryz.prog Tryz.f95.ntmps w0 F u N β (σ23.dl [0, 7, 8] [(10, .v (slv x1.length q2.1)), (12, .v (I x24)), (14, .v (pt q2.1.b (q2.1.off + 0 * 1))), (17, .v (I x33))] 0 []) ac w) (o4 : Ow w0 F u N F3 x1 q2) (oc : Oc bs pbs G w0 F u N F q) (h29 : (((3 : Int) ≤ 0 → x24 = 0) ∧ ((0 : Int) < 3 → 0 ≤ x24 ∧ x24 < 3))) (i30 : (In64 x24)) (h38 : (((4 : Int) ≤ 0 → x33 = 0) ∧ ((0 : Int) < 4 → 0 ≤ x33 ∧ x33 < 4))) (i39 : (In64 x33)) : W 4 (mkL 11 [0, 1, 2, 3, 4, 6, 7]) ac w := by
    have l108 := i30.lo; have l109 := i30.hi
    have l110 := i39.lo; have l111 := i39.hi
    exact ox1 hW 5 (S.wl hW [] (.cons (qx o4.rn 26 0) .nil) fun _ _ _ S => hK92 _ _ x24 x33 _ _ _ S o4 oc h29 i30 h38 i39)
   have hK112 ac w (x24 : Int) u N β (S : St Tryz.prog Tryz.f95.ntmps w0 F u N β (σ23.dl [0, 7, 8] [(10, .v (slv x1.length q2.1)), (12, .v (I x24)), (14, .v (pt q2.1.b (q2.1.off + 0 * 1))), (16, .v (pt q.1.b (q.1.off + 0 * 3)))] 0 []) ac w) (o4 : Ow w0 F u N F3 x1 q2) (oc : Oc bs pbs G w0 F u N F q) (h29 : (((3 : Int) ≤ 0 → x24 = 0) ∧ ((0 : Int) < 3 → 0 ≤ x24 ∧ x24 < 3))) (i30 : (In64 x24)) : W 5 (mkL 11 [0, 1, 2, 3, 4, 6]) ac w := by
    have l113 := i30.lo; have l114 := i30.hi
    refine ox2 hW 5 7 (S.wl hW [] (.cons (qx o4.rn 26 0) .nil) fun _ _ _ S => hK98 _ _ x24 _ _ _ S o4 oc h29 i30) ?_
    refine id (S.callD1 (d := 17) oc (c_spec_l01Below w bs pbs G F q (S.cu oc) 4 (show In64 4 from ⟨by decide, by decide⟩)) fun ac w N x33 q115 F116 S h38 up o117 d118 ocn => ?_)
    refine WD.sl fun hC => ?_
    replace o4 := o4.upF (Disj.symm d7) up
    replace oc := ocn
    clear up d118
    have i39 : In64 x33 := o117.own
    have l119 := i39.lo; have l120 := i39.hi
    exact S.wh hW [] hC fun _ S => hK107 _ _ x24 x33 _ _ _ S o4 oc h29 i30 h38 i39
   have hK121 ac w (x24 : Int) (x33 : Int) u N β (S : St Tryz.prog Tryz.f95.ntmps w0 F u N β (σ23.dl [0, 7, 8] [(10, .v (slv x1.length q2.1)), (12, .v (I x24)), (13, .v (slv x1.length q2.1)), (17, .v (I x33))] 0 []) ac w) (o4 : Ow w0 F u N F3 x1 q2) (oc : Oc bs pbs G w0 F u N F q) (h29 : (((3 : Int) ≤ 0 → x24 = 0) ∧ ((0 : Int) < 3 → 0 ≤ x24 ∧ x24 < 3))) (i30 : (In64 x24)) (h38 : (((4 : Int) ≤ 0 → x33 = 0) ∧ ((0 : Int) < 4 → 0 ≤ x33 ∧ x33 < 4))) (i39 : (In64 x33)) : W 5 (mkL 11 [0, 1, 2, 3, 6, 7]) ac w := by
    have l122 := i30.lo; have l123 := i30.hi
    have l124 := i39.lo; have l125 := i39.hi
    exact ox1 hW 4 (S.wl hW [] (.cons (qn o4.rn 0 Tryz.underlying24) .nil) fun _ _ _ S => hK107 _ _ x24 x33 _ _ _ S o4 oc h29 i30 h38 i39)
   have hK126 ac w u N β (S : St Tryz.prog Tryz.f95.ntmps w0 F u N β (σ23.dl [0, 7, 8] [(10, .v (slv x1.length q2.1)), (11, .v (pt q.1.b (q.1.off + 0 * 3))), (15, .v (slv (el x1 0).length (q2.2 0).1)), (16, .v (pt q.1.b (q.1.off + 0 * 3)))] 0 []) ac w) (o4 : Ow w0 F u N F3 x1 q2) (oc : Oc bs pbs G w0 F u N F q) (hNN : NN N0 u0 N u) (hBB : BB σ23.bx.length β0 β) : W 5 (mkL 11 [0, 1, 3, 4, 5, 6]) ac w := by
    refine ox1 hW 2 ?_
    refine id (S.callD1 (d := 12) oc (c_spec_l01Below w bs pbs G F q (S.cu oc) 3 (show In64 3 from ⟨by decide, by decide⟩)) fun ac w N x24 q127 F128 S h29 up o129 d130 ocn => ?_)
    refine WD.sl fun hC => ?_
    replace o4 := o4.upF (Disj.symm d7) up
    replace oc := ocn
    clear up d130
    have i30 : In64 x24 := o129.own
    have l131 := i30.lo; have l132 := i30.hi
    exact S.wh hW [] hC fun _ S => hK98 _ _ x24 _ _ _ S o4 oc h29 i30
   have hK133 ac w (x24 : Int) u N β (S : St Tryz.prog Tryz.f95.ntmps w0 F u N β (σ23.dl [0, 7, 8] [(10, .v (slv x1.length q2.1)), (12, .v (I x24)), (13, .v (slv x1.length q2.1)), (16, .v (pt q.1.b (q.1.off + 0 * 3)))] 0 []) ac w) (o4 : Ow w0 F u N F3 x1 q2) (oc : Oc bs pbs G w0 F u N F q) (h29 : (((3 : Int) ≤ 0 → x24 = 0) ∧ ((0 : Int) < 3 → 0 ≤ x24 ∧ x24 < 3))) (i30 : (In64 x24)) : W 6 (mkL 11 [0, 1, 2, 3, 6]) ac w := by
    have l134 := i30.lo; have l135 := i30.hi
    refine ox2 hW 4 7 (S.wl hW [] (.cons (qn o4.rn 0 Tryz.underlying24) .nil) fun _ _ _ S => hK112 _ _ x24 _ _ _ S o4 oc h29 i30) ?_
    refine id (S.callD1 (d := 17) oc (c_spec_l01Below w bs pbs G F q (S.cu oc) 4 (show In64 4 from ⟨by decide, by decide⟩)) fun ac w N x33 q136 F137 S h38 up o138 d139 ocn => ?_)
    refine WD.sl fun hC => ?_
    replace o4 := o4.upF (Disj.symm d7) up
    replace oc := ocn
    clear up d139
    have i39 : In64 x33 := o138.own
    have l140 := i39.lo; have l141 := i39.hi
    exact S.wh hW [] hC fun _ S => hK121 _ _ x24 x33 _ _ _ S o4 oc h29 i30 h38 i39
   have hK142 ac w u N β (S : St Tryz.prog Tryz.f95.ntmps w0 F u N β (σ23.dl [0, 7, 8] [(10, .v (slv x1.length q2.1)), (11, .v (pt q.1.b (q.1.off + 0 * 3))), (14, .v (pt q2.1.b (q2.1.off + 0 * 1))), (16, .v (pt q.1.b (q.1.off + 0 * 3)))] 0 []) ac w) (o4 : Ow w0 F u N F3 x1 q2) (oc : Oc bs pbs G w0 F u N F q) (hNN : NN N0 u0 N u) (hBB : BB σ23.bx.length β0 β) : W 6 (mkL 11 [0, 1, 3, 4, 6]) ac w := by
    refine ox2 hW 2 5 ?_ (S.wq hW hNN hBB [] (.cons (qx o4.rn 26 0) .nil) fun _ _ _ S hB => hK126 _ _ _ _ _ S o4 oc hNN hB)
    refine id (S.callD1 (d := 12) oc (c_spec_l01Below w bs pbs G F q (S.cu oc) 3 (show In64 3 from ⟨by decide, by decide⟩)) fun ac w N x24 q143 F144 S h29 up o145 d146 ocn => ?_)
    refine WD.sl fun hC => ?_
    replace o4 := o4.upF (Disj.symm d7) up
    replace oc := ocn
    clear up d146
    have i30 : In64 x24 := o145.own
    have l147 := i30.lo; have l148 := i30.hi
    exact S.wh hW [] hC fun _ S => hK112 _ _ x24 _ _ _ S o4 oc h29 i30
   have hK149 ac w u N β (S : St Tryz.prog Tryz.f95.ntmps w0 F u N β (σ23.dl [0, 7, 8] [(10, .v (slv x1.length q2.1)), (11, .v (pt q.1.b (q.1.off + 0 * 3))), (13, .v (slv x1.length q2.1)), (16, .v (pt q.1.b (q.1.off + 0 * 3)))] 0 []) ac w) (o4 : Ow w0 F u N F3 x1 q2) (oc : Oc bs pbs G w0 F u N F q) (hNN : NN N0 u0 N u) (hBB : BB σ23.bx.length β0 β) : W 7 (mkL 11 [0, 1, 3, 6]) ac w := by
    refine ox2 hW 2 4 ?_ (S.wq hW hNN hBB [] (.cons (qn o4.rn 0 Tryz.underlying24) .nil) fun _ _ _ S hB => hK142 _ _ _ _ _ S o4 oc hNN hB)
    refine id (S.callD1 (d := 12) oc (c_spec_l01Below w bs pbs G F q (S.cu oc) 3 (show In64 3 from ⟨by decide, by decide⟩)) fun ac w N x24 q150 F151 S h29 up o152 d153 ocn => ?_)
    refine WD.sl fun hC => ?_
    replace o4 := o4.upF (Disj.symm d7) up
    replace oc := ocn
    clear up d153
    have i30 : In64 x24 := o152.own
    have l154 := i30.lo; have l155 := i30.hi
    exact S.wh hW [] hC fun _ S => hK133 _ _ x24 _ _ _ S o4 oc h29 i30
   rw [hW]
   exact S.wh hW [0, 3, 6] (fun _ => S.rcx) fun _ S => hK149 _ _ _ _ _ S o4 oc (fun _ h => ⟨h, rfl⟩) (fun _ _ => rfl)
  clear S o4 oc
  rintro ac w ⟨x24, x33, q71, F72, u, N, β, S, oc, o70, d156, h29, i30, h38, i39⟩
  have l157 := i30.lo; have l158 := i30.hi
  have l159 := i39.lo; have l160 := i39.hi
  refine S.ex fun S => ?_
  refine S.gr 9 .nil [slv x1.length q71.1] fun ac w β S => ?_
  exact retQ1_of S (show True by clear S; trivial) (show slv x1.length q71.1 = GT.val (x1.set x24.toNat ((el x1 0).take x33.toNat)) (q71 : LP (List Int)) from congrArg (fun z => slv z q71.1) (show x1.length = (x1.set x24.toNat ((el x1 0).take x33.toNat)).length by first | omega | (simp; done) | (simp; omega))) o70 (Disj.symm d156) oc
 refine S.gd 7 .nil (x12 == 1) (fun ac w β h161 g162 S => ?_) (fun ac w β h161 g162 S => ?_)
 ·refine S.go 1 .nil fun ac w β S => ?_
  refine drw ?_
  let σ163 : Sy := ⟨[(0, .v (pt q.1.b (q.1.off + 0 * 3))), (3, .v (slv x1.length q2.1)), (7, .v (I x12)), (20, .v (B true))], []⟩
  obtain ⟨u0, N0, β0, S, o4, oc⟩ : ∃ u0 N0 β0, St Tryz.prog Tryz.f95.ntmps w0 F u0 N0 β0 σ163 ac w ∧ Ow w0 F u0 N0 F3 x1 q2 ∧ Oc bs pbs G w0 F u0 N0 F q := ⟨_, _, _, S.z, o4, oc⟩
  refine wp_region_cut (fun ac w => ∃  (x181 : Int) (q227 : GT.Ptr (List (List Int))) (F228 : Bl) (u : _) (N : _) (β : _), St Tryz.prog Tryz.f95.ntmps w0 F u N β (σ163.dl [0, 7, 20] [(3, .v (slv x1.length q227.1))] 0 []) ac w ∧ Oc bs pbs G w0 F u N F q ∧ Ow w0 F u N F228 (x1.set 1 ((el x1 1).set 2 x181)) q227 ∧ Disj F F228 ∧ (∃ k, k < ([(-1), 100] : List Int).length ∧ x181 = el ([(-1), 100] : List Int) k) ∧ (In64 x181)) ?_ ?_
  ·refine S.draw0 (f := 8) 5 (by kernel_rfl) (by kernel_rfl) fun w S => ?_
   refine S.hq 3 [3] [] [(25, .v (pt q.1.b (q.1.off + 0 * 3)))] .nil fun ac S => ?_
   refine WD.nameW fun W hW => ?_
   refine WD.castW (l' := mkL 8 [3]) (by kernel_rfl) ?_
   have hK229 ac w (x181 : Int) q227 F228 u N β (S : St Tryz.prog Tryz.f95.ntmps w0 F u N β (σ163.dl [0, 7, 20] [(3, .v (slv x1.length q227.1))] 0 []) ac w) (oc : Oc bs pbs G w0 F u N F q) (o226 : Ow w0 F u N F228 (x1.set 1 ((el x1 1).set 2 x181)) q227) (d230 : Disj F F228) (h186 : (∃ k, k < ([(-1), 100] : List Int).length ∧ x181 = el ([(-1), 100] : List Int) k)) (i187 : (In64 x181)) : W 0 (mkL 8 [0, 1, 2, 3, 4, 5, 6, 7]) ac w := by
    have l231 := i187.lo; have l232 := i187.hi
    exact od hW ⟨rfl, x181, q227, F228, _, _, _, S.z, oc, o226, d230, h186, i187⟩
   have hK233 ac w (x181 : Int) u N β (S : St Tryz.prog Tryz.f95.ntmps w0 F u N β (σ163.dl [0, 7, 20] [(27, .v (I x181)), (28, .v (pt (q2.2 1).1.b ((q2.2 1).1.off + 2 * 1)))] 0 []) ac w) (o4 : Ow w0 F u N F3 x1 q2) (oc : Oc bs pbs G w0 F u N F q) (h186 : (∃ k, k < ([(-1), 100] : List Int).length ∧ x181 = el ([(-1), 100] : List Int) k)) (i187 : (In64 x181)) : W 1 (mkL 8 [0, 1, 2, 3, 4, 5, 6]) ac w := by
    have l234 := i187.lo; have l235 := i187.hi
    refine ox1 hW 7 ?_
    obtain ⟨F236, o237, s238, b239⟩ := foc2_id o4 (k := 1) (show 1 < x1.length by omega)
    have l240 := LRd.le o237.rn
    have n241 := o237.sub
    refine id (S.sF (α := Int) o237 (t := 3) (k := 2) (j := 0) (off := (q2.2 1).1.off + 2 * 1) (v := I x181) (y := x181) (q := ()) (fun _ _ _ => ⟨NoB, i187, fun _ h => False.elim h⟩) fun w N F243 q244 S up o242 d245 s246 n247 => ?_)
    refine WD.sl fun hC => ?_
    have d248 := d245 _ (Disj.symm (Disj.part (Disj.symm d7) s238)) (fun b _ h => False.elim h) oc.sub
    replace oc := oc.upF (Disj.symm (Disj.part (Disj.symm d7) s238)) up
    clear d245 o237
    obtain ⟨p249, o250, c251⟩ := b239 _ _ _ _ _ NoB up o242 s246 (fun b _ h => False.elim h) (by show [slv _ _] = [slv _ _]; rw [List.length_set]) (fun b h => n247 b (n241 b h))
    clear up o242 n247
    have l252 : (x1.set 1 ((el x1 1).set 2 x181)).length = x1.length := List.length_set
    exact S.wh hW [] hC fun _ S => hK229 _ _ x181 (q2.1, p249) (Or F3 F243) _ _ _ S oc o250 (Disj.symm (Disj.or (Disj.symm d7) (Disj.symm d248))) h186 i187
   have hK253 ac w (x181 : Int) u N β (S : St Tryz.prog Tryz.f95.ntmps w0 F u N β (σ163.dl [0, 7, 20] [(24, .v (slv (el x1 1).length (q2.2 1).1)), (27, .v (I x181))] 0 []) ac w) (o4 : Ow w0 F u N F3 x1 q2) (oc : Oc bs pbs G w0 F u N F q) (h186 : (∃ k, k < ([(-1), 100] : List Int).length ∧ x181 = el ([(-1), 100] : List Int) k)) (i187 : (In64 x181)) : W 2 (mkL 8 [0, 1, 2, 3, 4, 5]) ac w := by
    have l254 := i187.lo; have l255 := i187.hi
    exact ox1 hW 6 (S.wl hW [] (.cons (qn (LRd.el o4.rn 1 (by omega)) 2 Tryz.underlying26) .nil) fun _ _ _ S => hK233 _ _ x181 _ _ _ S o4 oc h186 i187)
   have hK256 ac w q172 F173 u N β (S : St Tryz.prog Tryz.f95.ntmps w0 F u N β (σ163.dl [0, 7, 20] [(24, .v (slv (el x1 1).length (q2.2 1).1)), (25, .v (pt q.1.b (q.1.off + 0 * 3))), (26, .v (slv ([(-1), 100] : List Int).length q172.1))] 0 []) ac w) (o4 : Ow w0 F u N F3 x1 q2) (oc : Oc bs pbs G w0 F u N F q) (o171 : Ow w0 F u N F173 ([(-1), 100] : List Int) q172) (d257 : Disj F3 F173) (d258 : Disj F F173) (hNN : NN N0 u0 N u) (hBB : BB σ163.bx.length β0 β) : W 3 (mkL 8 [0, 1, 2, 3, 4]) ac w := by
    refine ox1 hW 5 ?_
    refine id (S.callD1 (d := 27) oc (c_spec_l01PickInt w bs pbs G F q (S.cu oc) ([(-1), 100] : List Int) q172 F173 (GT.own_rd (S.ownw o171)) (fun b hb => ⟨(S.sep b (o171.sub b hb)).1, (Disj.symm d258) b hb⟩) (by first | omega | decide | (simp; done))) fun ac w N x181 q259 F260 S h186 up o261 d262 ocn => ?_)
    refine WD.sl fun hC => ?_
    replace o4 := o4.upF (Disj.symm d7) up
    replace o171 := o171.upF (Disj.symm d258) up
    replace oc := ocn
    clear up d262
    have i187 : In64 x181 := o261.own
    have l263 := i187.lo; have l264 := i187.hi
    exact S.wh hW [] hC fun _ S => hK253 _ _ x181 _ _ _ S o4 oc h186 i187
   have hK265 ac w (x181 : Int) u N β (S : St Tryz.prog Tryz.f95.ntmps w0 F u N β (σ163.dl [0, 7, 20] [(23, .v (pt q2.1.b (q2.1.off + 1 * 1))), (27, .v (I x181))] 0 []) ac w) (o4 : Ow w0 F u N F3 x1 q2) (oc : Oc bs pbs G w0 F u N F q) (h186 : (∃ k, k < ([(-1), 100] : List Int).length ∧ x181 = el ([(-1), 100] : List Int) k)) (i187 : (In64 x181)) : W 3 (mkL 8 [0, 1, 3, 4, 5]) ac w := by
    have l266 := i187.lo; have l267 := i187.hi
    exact ox1 hW 2 (S.wl hW [] (.cons (qx o4.rn 26 1) .nil) fun _ _ _ S => hK253 _ _ x181 _ _ _ S o4 oc h186 i187)
   have hK268 ac w u N β (S : St Tryz.prog Tryz.f95.ntmps w0 F u N β (σ163.dl [0, 7, 20] [(24, .v (slv (el x1 1).length (q2.2 1).1)), (25, .v (pt q.1.b (q.1.off + 0 * 3)))] 0 []) ac w) (o4 : Ow w0 F u N F3 x1 q2) (oc : Oc bs pbs G w0 F u N F q) (hNN : NN N0 u0 N u) (hBB : BB σ163.bx.length β0 β) : W 4 (mkL 8 [0, 1, 2, 3]) ac w := by
    refine ox1 hW 4 ?_
    refine id (S.bsF ([(-1), 100] : List Int) () (d := 26) (List.forall_mem_cons.2 ⟨fun _ => (show In64 (-1) from ⟨by decide, by decide⟩), List.forall_mem_cons.2 ⟨fun _ => (show In64 100 from ⟨by decide, by decide⟩), List.forall_mem_nil _⟩⟩) (show 2 ≤ 4194304 by decide) fun ac w N q269 F270 S up o271 d272 => ?_)
    have hb273 := fun b h => (⟨(up b (hNN b h).1).1, (up b (hNN b h).1).2.trans (hNN b h).2⟩ : _ ∧ _)
    refine WD.sc S hb273 hBB fun hC => ?_
    have d274 := Disj.w d272 o4.sub
    have d275 := Disj.w d272 oc.sub
    replace o4 := o4.up up
    replace oc := oc.up up
    clear up d272
    exact S.wh hW [] hC fun _ S => hK256 _ _ q269 F270 _ _ _ S o4 oc o271 d274 d275 hb273 hBB
   have hK276 ac w q172 F173 u N β (S : St Tryz.prog Tryz.f95.ntmps w0 F u N β (σ163.dl [0, 7, 20] [(23, .v (pt q2.1.b (q2.1.off + 1 * 1))), (25, .v (pt q.1.b (q.1.off + 0 * 3))), (26, .v (slv ([(-1), 100] : List Int).length q172.1))] 0 []) ac w) (o4 : Ow w0 F u N F3 x1 q2) (oc : Oc bs pbs G w0 F u N F q) (o171 : Ow w0 F u N F173 ([(-1), 100] : List Int) q172) (d277 : Disj F3 F173) (d278 : Disj F F173) (hNN : NN N0 u0 N u) (hBB : BB σ163.bx.length β0 β) : W 4 (mkL 8 [0, 1, 3, 4]) ac w := by
    refine ox2 hW 2 5 (S.wq hW hNN hBB [] (.cons (qx o4.rn 26 1) .nil) fun _ _ _ S hB => hK256 _ _ q172 F173 _ _ _ S o4 oc o171 d277 d278 hNN hB) ?_
    refine id (S.callD1 (d := 27) oc (c_spec_l01PickInt w bs pbs G F q (S.cu oc) ([(-1), 100] : List Int) q172 F173 (GT.own_rd (S.ownw o171)) (fun b hb => ⟨(S.sep b (o171.sub b hb)).1, (Disj.symm d278) b hb⟩) (by first | omega | decide | (simp; done))) fun ac w N x181 q279 F280 S h186 up o281 d282 ocn => ?_)
    refine WD.sl fun hC => ?_
    replace o4 := o4.upF (Disj.symm d7) up
    replace o171 := o171.upF (Disj.symm d278) up
    replace oc := ocn
    clear up d282
    have i187 : In64 x181 := o281.own
    have l283 := i187.lo; have l284 := i187.hi
    exact S.wh hW [] hC fun _ S => hK265 _ _ x181 _ _ _ S o4 oc h186 i187
   have hK285 ac w (x181 : Int) u N β (S : St Tryz.prog Tryz.f95.ntmps w0 F u N β (σ163.dl [0, 7, 20] [(22, .v (slv x1.length q2.1)), (27, .v (I x181))] 0 []) ac w) (o4 : Ow w0 F u N F3 x1 q2) (oc : Oc bs pbs G w0 F u N F q) (h186 : (∃ k, k < ([(-1), 100] : List Int).length ∧ x181 = el ([(-1), 100] : List Int) k)) (i187 : (In64 x181)) : W 4 (mkL 8 [0, 3, 4, 5]) ac w := by
    have l286 := i187.lo; have l287 := i187.hi
    exact ox1 hW 1 (S.wl hW [] (.cons (qn o4.rn 1 Tryz.underlying24) .nil) fun _ _ _ S => hK265 _ _ x181 _ _ _ S o4 oc h186 i187)
   have hK288 ac w u N β (S : St Tryz.prog Tryz.f95.ntmps w0 F u N β (σ163.dl [0, 7, 20] [(23, .v (pt q2.1.b (q2.1.off + 1 * 1))), (25, .v (pt q.1.b (q.1.off + 0 * 3)))] 0 []) ac w) (o4 : Ow w0 F u N F3 x1 q2) (oc : Oc bs pbs G w0 F u N F q) (hNN : NN N0 u0 N u) (hBB : BB σ163.bx.length β0 β) : W 5 (mkL 8 [0, 1, 3]) ac w := by
    refine ox2 hW 2 4 (S.wq hW hNN hBB [] (.cons (qx o4.rn 26 1) .nil) fun _ _ _ S hB => hK268 _ _ _ _ _ S o4 oc hNN hB) ?_
    refine id (S.bsF ([(-1), 100] : List Int) () (d := 26) (List.forall_mem_cons.2 ⟨fun _ => (show In64 (-1) from ⟨by decide, by decide⟩), List.forall_mem_cons.2 ⟨fun _ => (show In64 100 from ⟨by decide, by decide⟩), List.forall_mem_nil _⟩⟩) (show 2 ≤ 4194304 by decide) fun ac w N q289 F290 S up o291 d292 => ?_)
    have hb293 := fun b h => (⟨(up b (hNN b h).1).1, (up b (hNN b h).1).2.trans (hNN b h).2⟩ : _ ∧ _)
    refine WD.sc S hb293 hBB fun hC => ?_
    have d294 := Disj.w d292 o4.sub
    have d295 := Disj.w d292 oc.sub
    replace o4 := o4.up up
    replace oc := oc.up up
    clear up d292
    exact S.wh hW [] hC fun _ S => hK276 _ _ q289 F290 _ _ _ S o4 oc o291 d294 d295 hb293 hBB
   have hK296 ac w q172 F173 u N β (S : St Tryz.prog Tryz.f95.ntmps w0 F u N β (σ163.dl [0, 7, 20] [(22, .v (slv x1.length q2.1)), (25, .v (pt q.1.b (q.1.off + 0 * 3))), (26, .v (slv ([(-1), 100] : List Int).length q172.1))] 0 []) ac w) (o4 : Ow w0 F u N F3 x1 q2) (oc : Oc bs pbs G w0 F u N F q) (o171 : Ow w0 F u N F173 ([(-1), 100] : List Int) q172) (d297 : Disj F3 F173) (d298 : Disj F F173) (hNN : NN N0 u0 N u) (hBB : BB σ163.bx.length β0 β) : W 5 (mkL 8 [0, 3, 4]) ac w := by
    refine ox2 hW 1 5 (S.wq hW hNN hBB [] (.cons (qn o4.rn 1 Tryz.underlying24) .nil) fun _ _ _ S hB => hK276 _ _ q172 F173 _ _ _ S o4 oc o171 d297 d298 hNN hB) ?_
    refine id (S.callD1 (d := 27) oc (c_spec_l01PickInt w bs pbs G F q (S.cu oc) ([(-1), 100] : List Int) q172 F173 (GT.own_rd (S.ownw o171)) (fun b hb => ⟨(S.sep b (o171.sub b hb)).1, (Disj.symm d298) b hb⟩) (by first | omega | decide | (simp; done))) fun ac w N x181 q299 F300 S h186 up o301 d302 ocn => ?_)
    refine WD.sl fun hC => ?_
    replace o4 := o4.upF (Disj.symm d7) up
    replace oc := ocn
    clear up d302
    have i187 : In64 x181 := o301.own
    have l303 := i187.lo; have l304 := i187.hi
    exact S.wh hW [] hC fun _ S => hK285 _ _ x181 _ _ _ S o4 oc h186 i187
   have hK305 ac w u N β (S : St Tryz.prog Tryz.f95.ntmps w0 F u N β (σ163.dl [0, 7, 20] [(22, .v (slv x1.length q2.1)), (25, .v (pt q.1.b (q.1.off + 0 * 3)))] 0 []) ac w) (o4 : Ow w0 F u N F3 x1 q2) (oc : Oc bs pbs G w0 F u N F q) (hNN : NN N0 u0 N u) (hBB : BB σ163.bx.length β0 β) : W 6 (mkL 8 [0, 3]) ac w := by
    refine ox2 hW 1 4 (S.wq hW hNN hBB [] (.cons (qn o4.rn 1 Tryz.underlying24) .nil) fun _ _ _ S hB => hK288 _ _ _ _ _ S o4 oc hNN hB) ?_
    refine id (S.bsF ([(-1), 100] : List Int) () (d := 26) (List.forall_mem_cons.2 ⟨fun _ => (show In64 (-1) from ⟨by decide, by decide⟩), List.forall_mem_cons.2 ⟨fun _ => (show In64 100 from ⟨by decide, by decide⟩), List.forall_mem_nil _⟩⟩) (show 2 ≤ 4194304 by decide) fun ac w N q306 F307 S up o308 d309 => ?_)
    have hb310 := fun b h => (⟨(up b (hNN b h).1).1, (up b (hNN b h).1).2.trans (hNN b h).2⟩ : _ ∧ _)
    refine WD.sc S hb310 hBB fun hC => ?_
    have d311 := Disj.w d309 o4.sub
    have d312 := Disj.w d309 oc.sub
    replace o4 := o4.up up
    replace oc := oc.up up
    clear up d309
    exact S.wh hW [] hC fun _ S => hK296 _ _ q306 F307 _ _ _ S o4 oc o308 d311 d312 hb310 hBB
   rw [hW]
   exact S.wh hW [0] (fun _ => S.rcx) fun _ S => hK305 _ _ _ _ _ S o4 oc (fun _ h => ⟨h, rfl⟩) (fun _ _ => rfl)
  clear S o4 oc
  rintro ac w ⟨x181, q227, F228, u, N, β, S, oc, o226, d313, h186, i187⟩
  have l314 := i187.lo; have l315 := i187.hi
  refine S.ex fun S => ?_
  refine S.gr 9 .nil [slv x1.length q227.1] fun ac w β S => ?_
  have o316 := o226.rw
  exact retQ1_of S (show True by clear S; trivial) (show slv x1.length q227.1 = GT.val (x1.set 1 ((el x1 1).set 2 x181)) (q227 : LP (List Int)) from congrArg (fun z => slv z q227.1) (show x1.length = (x1.set 1 ((el x1 1).set 2 x181)).length by first | omega | (simp; done) | (simp; omega))) o316 (Disj.symm d313) oc
 refine S.gd 7 .nil (x12 == 2) (fun ac w β h317 g318 S => ?_) (fun ac w β h317 g318 S => ?_)
 ·refine S.go 4 .nil fun ac w β S => S.KD1 (d := 33) oc (c_spec_l01Below w bs pbs G F q (S.cu oc) 3 (show In64 3 from ⟨by decide, by decide⟩)) fun ac w N x319 q320 F321 S h324 up o322 d323 ocn => ?_
  replace o4 := o4.upF (Disj.symm d7) up
  replace oc := ocn
  clear up d323
  have i325 : In64 x319 := o322.own
  have l326 := i325.lo; have l327 := i325.hi
  have l328 : (x1.take x319.toNat).length = x319.toNat - 0 := by first | (simp; done) | (simp; omega)
  refine S.gr 12 (.cons (Q_slice (hi := some (I x319)) o4.rn (l := x1.length) (a := 0) (b := x319.toNat) rfl (.inl ⟨rfl, rfl⟩) (.inr (congrArg (fun z => some (I z)) (show x319 = ((x319.toNat : Nat) : Int) by omega))) (by omega) (by omega) Tryz.underlying24 (by kernel_rfl)) .nil) [slv x319.toNat (q2.1.sl 0 1)] fun ac w β S => ?_
  have o329 : Ow w0 F _ _ F3 (x1.take x319.toNat) (q2.1.sl 0 1, fun i => q2.2 (0 + i)) := Ow.sl o4 (a := 0) (b := x319.toNat) (by omega) (by omega)
  have o330 := o329.rw
  exact retQ1_of S (show True by clear S; trivial) (show slv x319.toNat (q2.1.sl 0 1) = GT.val (x1.take x319.toNat) ((q2.1.sl 0 1, fun i => q2.2 (0 + i)) : LP (List Int)) from congrArg (fun z => slv z (q2.1.sl 0 1)) (show x319.toNat = (x1.take x319.toNat).length by first | omega | (simp; done) | (simp; omega))) o330 (Disj.symm d7) oc
 refine S.gr 11 .nil [slv x1.length q2.1] fun ac w β S => ?_
 have o331 := o4.rw
 exact retQ1_of S (show True by clear S; trivial) rfl o331 (Disj.symm d7) oc

theorem c_spec_l10AnyIns (w0 : World) (bs : List TByte) (pbs : LP TByte) (G F : Bl) (q : LP TCur) (hc : Cu bs pbs G F w0 q) : Calls Tryz.prog 194 [pt q.1.b (q.1.off + 0 * 3)].toArray w0 (RetD1 bs pbs G F q w0 (fun (r : TIns) => True)) := by
 refine Calls.run F Tryz.func194 ?_
 intro ac β S
 have oc := hc.oc
 refine S.go 8 .nil fun ac w β S => S.KD1 (d := 5) oc (c_spec_l10Ins w bs pbs G F q (S.cu oc)) fun ac w N x1 q2 F3 S h6 up o4 d5 ocn => ?_
 replace oc := ocn
 clear up d5
 have i7 : RIns x1 := o4.own
 refine S.go 8 .nil fun ac w β S => S.KD1 (d := 7) oc (c_spec_l01Below w bs pbs G F q (S.cu oc) 10 (show In64 10 from ⟨by decide, by decide⟩)) fun ac w N x8 q9 F10 S h13 up o11 d12 ocn => ?_
 replace oc := ocn
 clear up d12
 have i14 : In64 x8 := o11.own
 have l15 := i14.lo; have l16 := i14.hi
 refine S.gd 9 .nil (x8 == 0) (fun ac w β h17 g18 S => ?_) (fun ac w β h17 g18 S => ?_)
 ·refine S.go 3 .nil fun ac w β S => S.KD1 (d := 11) oc (c_spec_l01Below w bs pbs G F q (S.cu oc) 11 (show In64 11 from ⟨by decide, by decide⟩)) fun ac w N x19 q20 F21 S h24 up o22 d23 ocn => ?_
  replace oc := ocn
  clear up d23
  have i25 : In64 x19 := o22.own
  have l26 := i25.lo; have l27 := i25.hi
  refine S.gr 13 (.cons (qm x19 1) .nil) [GT.val (⟨(x19 - 1), x1.x⟩ : TIns) ()] fun ac w β S => ?_
  exact retD1_of (F1 := NoB) (p := ()) S (show True by clear S; trivial) rfl ⟨(show RIns (⟨(x19 - 1), x1.x⟩ : TIns) from ⟨(show In64 (x19 - 1) from ⟨by omega, by omega⟩), (RIns.x (d := x1) i7)⟩), fun _ h => False.elim h, fun _ h => False.elim h⟩ (fun b h _ => False.elim h) oc
 refine S.gd 7 .nil (x8 == 1) (fun ac w β h28 g29 S => ?_) (fun ac w β h28 g29 S => ?_)
 ·refine S.go 3 .nil fun ac w β S => S.BF ([(-1), 0, 12, 15, 16, 99, 100, 9223372036854775807] : List Int) () (d := 17) (List.forall_mem_cons.2 ⟨fun _ => (show In64 (-1) from ⟨by decide, by decide⟩), List.forall_mem_cons.2 ⟨fun _ => (show In64 0 from ⟨by decide, by decide⟩), List.forall_mem_cons.2 ⟨fun _ => (show In64 12 from ⟨by decide, by decide⟩), List.forall_mem_cons.2 ⟨fun _ => (show In64 15 from ⟨by decide, by decide⟩), List.forall_mem_cons.2 ⟨fun _ => (show In64 16 from ⟨by decide, by decide⟩), List.forall_mem_cons.2 ⟨fun _ => (show In64 99 from ⟨by decide, by decide⟩), List.forall_mem_cons.2 ⟨fun _ => (show In64 100 from ⟨by decide, by decide⟩), List.forall_mem_cons.2 ⟨fun _ => (show In64 9223372036854775807 from ⟨by decide, by decide⟩), List.forall_mem_nil _⟩⟩⟩⟩⟩⟩⟩⟩) (show 8 ≤ 4194304 by decide) fun ac w N q30 F31 S up o32 d33 => ?_
  have d34 := Disj.w d33 oc.sub
  replace oc := oc.up up
  clear up d33
  refine S.KD1 (d := 18) oc (c_spec_l01PickInt w bs pbs G F q (S.cu oc) ([(-1), 0, 12, 15, 16, 99, 100, 9223372036854775807] : List Int) q30 F31 (GT.own_rd (S.ownw o32)) (fun b hb => ⟨(S.sep b (o32.sub b hb)).1, (Disj.symm d34) b hb⟩) (by first | omega | decide | (simp; done))) fun ac w N x35 q36 F37 S h40 up o38 d39 ocn => ?_
  replace oc := ocn
  clear up d39
  have i41 : In64 x35 := o38.own
  have l42 := i41.lo; have l43 := i41.hi
  refine S.gr 12 .nil [GT.val (⟨x1.opc, x35⟩ : TIns) ()] fun ac w β S => ?_
  exact retD1_of (F1 := NoB) (p := ()) S (show True by clear S; trivial) rfl ⟨(show RIns (⟨x1.opc, x35⟩ : TIns) from ⟨(RIns.opc (d := x1) i7), i41⟩), fun _ h => False.elim h, fun _ h => False.elim h⟩ (fun b h _ => False.elim h) oc
 refine S.gr 11 .nil [GT.val x1 ()] fun ac w β S => ?_
 exact retD1_of (F1 := NoB) (p := ()) S (show True by clear S; trivial) rfl ⟨i7, fun _ h => False.elim h, fun _ h => False.elim h⟩ (fun b h _ => False.elim h) oc

theorem c_spec_l10AnyProg (w0 : World) (bs : List TByte) (pbs : LP TByte) (G F : Bl) (q : LP TCur) (hc : Cu bs pbs G F w0 q) : Calls Tryz.prog 162 [pt q.1.b (q.1.off + 0 * 3)].toArray w0 (RetD1 bs pbs G F q w0 (fun (r : List TIns) => True)) := by
 refine Calls.run F Tryz.func162 ?_
 intro ac β S
 have oc := hc.oc
 refine S.go 8 .nil fun ac w β S => S.KD1 (d := 5) oc (c_spec_l10Prog w bs pbs G F q (S.cu oc)) fun ac w N x1 q2 F3 S h6 up o4 d5 ocn => ?_
 have d7 := Disj.w d5 oc.sub
 replace oc := ocn
 clear up d5
 have l8 := LRd.le o4.rn
 refine S.go 7 .nil fun ac w β S => S.KD1 (d := 7) oc (c_spec_l01Below w bs pbs G F q (S.cu oc) 8 (show In64 8 from ⟨by decide, by decide⟩)) fun ac w N x9 q10 F11 S h14 up o12 d13 ocn => ?_
 replace o4 := o4.upF (Disj.symm d7) up
 replace oc := ocn
 clear up d13
 have i15 : In64 x9 := o12.own
 have l16 := i15.lo; have l17 := i15.hi
 refine S.gd 9 .nil (x9 == 0) (fun ac w β h18 g19 S => ?_) (fun ac w β h18 g19 S => ?_)
 ·refine S.go 4 .nil fun ac w β S => S.KD1 (d := 12) oc (c_spec_l10AnyIns w bs pbs G F q (S.cu oc)) fun ac w N x20 q21 F22 S h25 up o23 d24 ocn => ?_
  replace o4 := o4.upF (Disj.symm d7) up
  replace oc := ocn
  clear up d24
  have i26 : RIns x20 := o23.own
  have e27 : RIns (el x1 0) := (LRd.el o4.rn 0 (by omega))
  refine S.go 1 (.cons (qn o4.rn 0 Tryz.underlying41) .nil) fun ac w β S => S.SF (α := TIns) o4 (t := 40) (k := 0) (j := 0) (off := q2.1.off + 0 * 2) (v := GT.val x20 ()) (y := x20) (q := ()) (fun _ _ _ => ⟨NoB, i26, fun _ h => False.elim h⟩) fun w N F29 q30 S up o28 d31 s32 n33 => ?_
  have d34 := d31 _ d7 (fun b _ h => False.elim h) oc.sub
  replace oc := oc.upF d7 up
  clear up d31 o4 n33
  have l35 : (x1.set 0 x20).length = x1.length := List.length_set
  refine S.gr 10 .nil [slv x1.length q2.1] fun ac w β S => ?_
  exact retD1_of S (show True by clear S; trivial) (by rw [show x1.length = (x1.set 0 x20).length from (by rw [List.length_set])]; rfl) o28 (Disj.symm d34) oc
 refine S.gd 7 .nil (x9 == 1) (fun ac w β h36 g37 S => ?_) (fun ac w β h36 g37 S => ?_)
 ·refine S.go 2 .nil fun ac w β S => ?_
  refine lp (fun mm ac w => ∃ (acc : List TIns) (q38 : _) (F39 : _) (u : _) (N : _) (β : _), mm = 13 - acc.length ∧ (acc.length ≤ 13) ∧ St Tryz.prog Tryz.f162.ntmps w0 F u N β ⟨[(0, .v (pt q.1.b (q.1.off + 0 * 3))), (3, .v (slv acc.length q38.1))], []⟩ ac w ∧ Ow w0 F u N F39 acc q38 ∧ Oc bs pbs G w0 F u N F q ∧ Disj F39 F) _ ⟨x1, q2, F3, _, _, _, rfl, o0, S.z, o4, oc, (Disj.symm d7)⟩ ?_
  clear S o4 oc
  rintro f42 mm hf43 ac w ⟨acc, q38, F39, u, N, β, rfl, hl, S, o40, oc, d41⟩
  refine S.rs fun S => ?_
  refine S.go 6 .nil fun ac w β S => S.KD1 (d := 19) oc (c_spec_l01Below w bs pbs G F q (S.cu oc) 2 (show In64 2 from ⟨by decide, by decide⟩)) fun ac w N x44 q45 F46 S h49 up o47 d48 ocn => ?_
  replace o40 := o40.upF d41 up
  replace oc := ocn
  clear up d48
  have i50 : In64 x44 := o47.own
  have l51 := i50.lo; have l52 := i50.hi
  refine S.gd 4 (.cons (qp 12 x44) .nil) (decide ((acc.length : Int) < (12 + x44))) (fun ac w β h53 g54 S => ?_) (fun ac w β h53 g54 S => ?_)
  ·refine S.go 7 .nil fun ac w β S => S.KD1 (d := 24) oc (c_spec_l10Ins w bs pbs G F q (S.cu oc)) fun ac w N x55 q56 F57 S h60 up o58 d59 ocn => ?_
   replace o40 := o40.upF d41 up
   replace oc := ocn
   clear up d59
   have i61 : RIns x55 := o58.own
   refine S.B1 (α := TIns) (x := x55) (p := ()) (F := NoB) i61 (fun b h => False.elim h) (fun b h => False.elim h) (d := 25) fun ac w N q62 F63 S up o64 d65 => ?_
   replace o40 := o40.up up
   replace oc := oc.up up
   clear up d65
   refine S.AF (α := TIns) o40 o64.rn (fun _ _ h => h) (by' := 16) (d := 26) (lx := acc.length) (ly := 1) rfl rfl (show _ ≤ 4194304 by simp only [List.length_append, List.length_cons, List.length_nil]; omega) fun ac w N q68 F69 S up o70 d71 => ?_
   have d72 := d71 _ (Disj.symm d41) oc.sub
   replace oc := oc.upF (Disj.symm d41) up
   clear up d71
   refine S.ge 3 .nil f42 fun ac w β S => hf43.of (13 - (acc ++ [x55]).length) _ _ (by (simp; omega)) ⟨(acc ++ [x55]), q68, F69, _, _, _, rfl, ?_, S.z, o70, oc, (Disj.symm d72)⟩
   ·clear S; (simp; omega)
  refine S.gr 14 .nil [slv acc.length q38.1] fun ac w β S => ?_
  exact retD1_of S (show True by clear S; trivial) rfl o40 d41 oc
 refine S.gd 7 .nil (x9 == 2) (fun ac w β h74 g75 S => ?_) (fun ac w β h74 g75 S => ?_)
 ·refine S.go 4 .nil fun ac w β S => S.KD1 (d := 31) oc (c_spec_l01Below w bs pbs G F q (S.cu oc) 2 (show In64 2 from ⟨by decide, by decide⟩)) fun ac w N x76 q77 F78 S h81 up o79 d80 ocn => ?_
  replace o4 := o4.upF (Disj.symm d7) up
  replace oc := ocn
  clear up d80
  have i82 : In64 x76 := o79.own
  have l83 := i82.lo; have l84 := i82.hi
  have l85 : (x1.take x76.toNat).length = x76.toNat - 0 := by first | (simp; done) | (simp; omega)
  refine S.gr 12 (.cons (Q_slice (hi := some (I x76)) o4.rn (l := x1.length) (a := 0) (b := x76.toNat) rfl (.inl ⟨rfl, rfl⟩) (.inr (congrArg (fun z => some (I z)) (show x76 = ((x76.toNat : Nat) : Int) by omega))) (by omega) (by omega) Tryz.underlying41 (by kernel_rfl)) .nil) [slv x76.toNat (q2.1.sl 0 2)] fun ac w β S => ?_
  have o86 : Ow w0 F _ _ F3 (x1.take x76.toNat) (q2.1.sl 0 2, fun i => q2.2 (0 + i)) := Ow.sl o4 (a := 0) (b := x76.toNat) (by omega) (by omega)
  exact retD1_of S (show True by clear S; trivial) (show slv x76.toNat (q2.1.sl 0 2) = GT.val (x1.take x76.toNat) ((q2.1.sl 0 2, fun i => q2.2 (0 + i)) : LP TIns) from congrArg (fun z => slv z (q2.1.sl 0 2)) (show x76.toNat = (x1.take x76.toNat).length by omega)) o86 (Disj.symm d7) oc
 refine S.gr 11 .nil [slv x1.length q2.1] fun ac w β S => ?_
 exact retD1_of S (show True by clear S; trivial) rfl o4 (Disj.symm d7) oc

theorem c_spec_l02Rights (w0 : World) (bs : List TByte) (pbs : LP TByte) (G F : Bl) (q : LP TCur) (hc : Cu bs pbs G F w0 q) : Calls Tryz.prog 212 [pt q.1.b (q.1.off + 0 * 3)].toArray w0 (RetD1 bs pbs G F q w0 (fun (r : Int) => True)) := by
 refine Calls.run F Tryz.func212 ?_
 intro ac β S
 have oc := hc.oc
 refine S.go 8 .nil fun ac w β S => S.BF ([3, 3, 1, 2, 0, 3, 1, (-1), 4, 9223372036854775807] : List Int) () (d := 4) (List.forall_mem_cons.2 ⟨fun _ => (show In64 3 from ⟨by decide, by decide⟩), List.forall_mem_cons.2 ⟨fun _ => (show In64 3 from ⟨by decide, by decide⟩), List.forall_mem_cons.2 ⟨fun _ => (show In64 1 from ⟨by decide, by decide⟩), List.forall_mem_cons.2 ⟨fun _ => (show In64 2 from ⟨by decide, by decide⟩), List.forall_mem_cons.2 ⟨fun _ => (show In64 0 from ⟨by decide, by decide⟩), List.forall_mem_cons.2 ⟨fun _ => (show In64 3 from ⟨by decide, by decide⟩), List.forall_mem_cons.2 ⟨fun _ => (show In64 1 from ⟨by decide, by decide⟩), List.forall_mem_cons.2 ⟨fun _ => (show In64 (-1) from ⟨by decide, by decide⟩), List.forall_mem_cons.2 ⟨fun _ => (show In64 4 from ⟨by decide, by decide⟩), List.forall_mem_cons.2 ⟨fun _ => (show In64 9223372036854775807 from ⟨by decide, by decide⟩), List.forall_mem_nil _⟩⟩⟩⟩⟩⟩⟩⟩⟩⟩) (show 10 ≤ 4194304 by decide) fun ac w N q1 F2 S up o3 d4 => ?_
 have d5 := Disj.w d4 oc.sub
 replace oc := oc.up up
 clear up d4
 refine S.KD1 (d := 5) oc (c_spec_l01PickInt w bs pbs G F q (S.cu oc) ([3, 3, 1, 2, 0, 3, 1, (-1), 4, 9223372036854775807] : List Int) q1 F2 (GT.own_rd (S.ownw o3)) (fun b hb => ⟨(S.sep b (o3.sub b hb)).1, (Disj.symm d5) b hb⟩) (by first | omega | decide | (simp; done))) fun ac w N x6 q7 F8 S h11 up o9 d10 ocn => ?_
 replace oc := ocn
 clear up d10
 have i12 : In64 x6 := o9.own
 have l13 := i12.lo; have l14 := i12.hi
 refine S.gr 4 .nil [I x6] fun ac w β S => ?_
 exact retD1_of (F1 := NoB) (p := ()) S (show True by clear S; trivial) rfl ⟨i12, fun _ h => False.elim h, fun _ h => False.elim h⟩ (fun b h _ => False.elim h) oc

theorem c_spec_l03Any (w0 : World) (bs : List TByte) (pbs : LP TByte) (G F : Bl) (q : LP TCur) (hc : Cu bs pbs G F w0 q) (pages : Int) (hpages : In64 pages) : Calls Tryz.prog 196 [pt q.1.b (q.1.off + 0 * 3), I pages].toArray w0 (RetD1 bs pbs G F q w0 (fun (r : TSlot) => True)) := by
 refine Calls.run F Tryz.func196 ?_
 intro ac β S
 have oc := hc.oc
 have hlopages := hpages.lo; have hhipages := hpages.hi
 refine S.go 9 .nil fun ac w β S => S.KD1 (d := 8) oc (c_spec_l03Slot w bs pbs G F q (S.cu oc) pages hpages) fun ac w N x1 q2 F3 S h6 up o4 d5 ocn => ?_
 replace oc := ocn
 clear up d5
 have i7 : RSlot x1 := o4.own
 refine S.go 8 .nil fun ac w β S => S.KD1 (d := 10) oc (c_spec_l01Below w bs pbs G F q (S.cu oc) 12 (show In64 12 from ⟨by decide, by decide⟩)) fun ac w N x8 q9 F10 S h13 up o11 d12 ocn => ?_
 replace oc := ocn
 clear up d12
 have i14 : In64 x8 := o11.own
 have l15 := i14.lo; have l16 := i14.hi
 refine S.gd 9 .nil (x8 == 0) (fun ac w β h17 g18 S => ?_) (fun ac w β h17 g18 S => ?_)
 ·refine S.go 4 .nil fun ac w β S => S.BF ([(-1), (-2), pages, 9223372036854775807, (-9223372036854775808)] : List Int) () (d := 15) (List.forall_mem_cons.2 ⟨fun _ => (show In64 (-1) from ⟨by decide, by decide⟩), List.forall_mem_cons.2 ⟨fun _ => (show In64 (-2) from ⟨by decide, by decide⟩), List.forall_mem_cons.2 ⟨fun _ => hpages, List.forall_mem_cons.2 ⟨fun _ => (show In64 9223372036854775807 from ⟨by decide, by decide⟩), List.forall_mem_cons.2 ⟨fun _ => (show In64 (-9223372036854775808) from ⟨by decide, by decide⟩), List.forall_mem_nil _⟩⟩⟩⟩⟩) (show 5 ≤ 4194304 by decide) fun ac w N q19 F20 S up o21 d22 => ?_
  have d23 := Disj.w d22 oc.sub
  replace oc := oc.up up
  clear up d22
  refine S.KD1 (d := 16) oc (c_spec_l01PickInt w bs pbs G F q (S.cu oc) ([(-1), (-2), pages, 9223372036854775807, (-9223372036854775808)] : List Int) q19 F20 (GT.own_rd (S.ownw o21)) (fun b hb => ⟨(S.sep b (o21.sub b hb)).1, (Disj.symm d23) b hb⟩) (by first | omega | decide | (simp; done))) fun ac w N x24 q25 F26 S h29 up o27 d28 ocn => ?_
  replace oc := ocn
  clear up d28
  have i30 : In64 x24 := o27.own
  have l31 := i30.lo; have l32 := i30.hi
  refine S.gr 12 .nil [GT.val (⟨x24, x1.rights⟩ : TSlot) ()] fun ac w β S => ?_
  exact retD1_of (F1 := NoB) (p := ()) S (show True by clear S; trivial) rfl ⟨(show RSlot (⟨x24, x1.rights⟩ : TSlot) from ⟨i30, (RSlot.rights (d := x1) i7)⟩), fun _ h => False.elim h, fun _ h => False.elim h⟩ (fun b h _ => False.elim h) oc
 refine S.gd 7 .nil (x8 == 1) (fun ac w β h33 g34 S => ?_) (fun ac w β h33 g34 S => ?_)
 ·refine S.go 3 .nil fun ac w β S => S.KD1 (d := 21) oc (c_spec_l02Rights w bs pbs G F q (S.cu oc)) fun ac w N x35 q36 F37 S h40 up o38 d39 ocn => ?_
  replace oc := ocn
  clear up d39
  have i41 : In64 x35 := o38.own
  have l42 := i41.lo; have l43 := i41.hi
  refine S.gr 12 .nil [GT.val (⟨x1.page, x35⟩ : TSlot) ()] fun ac w β S => ?_
  exact retD1_of (F1 := NoB) (p := ()) S (show True by clear S; trivial) rfl ⟨(show RSlot (⟨x1.page, x35⟩ : TSlot) from ⟨(RSlot.page (d := x1) i7), i41⟩), fun _ h => False.elim h, fun _ h => False.elim h⟩ (fun b h _ => False.elim h) oc
 refine S.gr 11 .nil [GT.val x1 ()] fun ac w β S => ?_
 exact retD1_of (F1 := NoB) (p := ()) S (show True by clear S; trivial) rfl ⟨i7, fun _ h => False.elim h, fun _ h => False.elim h⟩ (fun b h _ => False.elim h) oc

theorem c_spec_l03AnyTable (w0 : World) (bs : List TByte) (pbs : LP TByte) (G F : Bl) (q : LP TCur) (hc : Cu bs pbs G F w0 q) (size : Int) (hsize : In64 size) (pages : Int) (hpages : In64 pages) (pre0 : 0 < size ∧ size ≤ 1000) : Calls Tryz.prog 163 [pt q.1.b (q.1.off + 0 * 3), I size, I pages].toArray w0 (RetD1 bs pbs G F q w0 (fun (r : List TSlot) => r.length ≤ size.toNat)) := by
 refine Calls.run F Tryz.func163 ?_
 intro ac β S
 have oc := hc.oc
 have hlosize := hsize.lo; have hhisize := hsize.hi
 have hlopages := hpages.lo; have hhipages := hpages.hi
 refine S.go 10 .nil fun ac w β S => S.KD1 (d := 11) oc (c_spec_l03Table w bs pbs G F q (S.cu oc) size hsize pages hpages (by omega)) fun ac w N x1 q2 F3 S h6 up o4 d5 ocn => ?_
 have d7 := Disj.w d5 oc.sub
 replace oc := ocn
 clear up d5
 have l8 := LRd.le o4.rn
 refine S.go 7 .nil fun ac w β S => S.KD1 (d := 13) oc (c_spec_l01Below w bs pbs G F q (S.cu oc) 8 (show In64 8 from ⟨by decide, by decide⟩)) fun ac w N x9 q10 F11 S h14 up o12 d13 ocn => ?_
 replace o4 := o4.upF (Disj.symm d7) up
 replace oc := ocn
 clear up d13
 have i15 : In64 x9 := o12.own
 have l16 := i15.lo; have l17 := i15.hi
 refine S.gd 9 .nil (x9 == 0) (fun ac w β h18 g19 S => ?_) (fun ac w β h18 g19 S => ?_)
 ·refine S.go 5 .nil fun ac w β S => S.KD1 (d := 19) oc (c_spec_l01Below w bs pbs G F q (S.cu oc) size hsize) fun ac w N x20 q21 F22 S h25 up o23 d24 ocn => ?_
  replace o4 := o4.upF (Disj.symm d7) up
  replace oc := ocn
  clear up d24
  have i26 : In64 x20 := o23.own
  have l27 := i26.lo; have l28 := i26.hi
  refine S.go 2 .nil fun ac w β S => S.KD1 (d := 22) oc (c_spec_l03Any w bs pbs G F q (S.cu oc) pages hpages) fun ac w N x29 q30 F31 S h34 up o32 d33 ocn => ?_
  replace o4 := o4.upF (Disj.symm d7) up
  replace oc := ocn
  clear up d33
  have i35 : RSlot x29 := o32.own
  have e36 : RSlot (el x1 x20.toNat) := (LRd.el o4.rn x20.toNat (by omega))
  refine S.go 1 (.cons (qt o4.rn x20 Tryz.underlying45) .nil) fun ac w β S => S.SF (α := TSlot) o4 (t := 44) (k := x20.toNat) (j := 0) (off := q2.1.off + x20.toNat * 2) (v := GT.val x29 ()) (y := x29) (q := ()) (fun _ _ _ => ⟨NoB, i35, fun _ h => False.elim h⟩) fun w N F38 q39 S up o37 d40 s41 n42 => ?_
  have d43 := d40 _ d7 (fun b _ h => False.elim h) oc.sub
  replace oc := oc.upF d7 up
  clear up d40 o4 n42
  have l44 : (x1.set x20.toNat x29).length = x1.length := List.length_set
  refine S.gr 10 .nil [slv x1.length q2.1] fun ac w β S => ?_
  exact retD1_of S (show (x1.set x20.toNat x29).length ≤ size.toNat by clear S; first | omega | (simp; omega)) (by rw [show x1.length = (x1.set x20.toNat x29).length from (by rw [List.length_set])]; rfl) o37 (Disj.symm d43) oc
 refine S.gd 7 .nil (x9 == 1) (fun ac w β h45 g46 S => ?_) (fun ac w β h45 g46 S => ?_)
 ·refine S.go 5 .nil fun ac w β S => S.KD1 (d := 29) oc (c_spec_l01Below w bs pbs G F q (S.cu oc) size hsize) fun ac w N x47 q48 F49 S h52 up o50 d51 ocn => ?_
  replace o4 := o4.upF (Disj.symm d7) up
  replace oc := ocn
  clear up d51
  have i53 : In64 x47 := o50.own
  have l54 := i53.lo; have l55 := i53.hi
  have l56 : (x1.take x47.toNat).length = x47.toNat - 0 := by first | (simp; done) | (simp; omega)
  refine S.gr 12 (.cons (Q_slice (hi := some (I x47)) o4.rn (l := x1.length) (a := 0) (b := x47.toNat) rfl (.inl ⟨rfl, rfl⟩) (.inr (congrArg (fun z => some (I z)) (show x47 = ((x47.toNat : Nat) : Int) by omega))) (by omega) (by omega) Tryz.underlying45 (by kernel_rfl)) .nil) [slv x47.toNat (q2.1.sl 0 2)] fun ac w β S => ?_
  have o57 : Ow w0 F _ _ F3 (x1.take x47.toNat) (q2.1.sl 0 2, fun i => q2.2 (0 + i)) := Ow.sl o4 (a := 0) (b := x47.toNat) (by omega) (by omega)
  exact retD1_of S (show (x1.take x47.toNat).length ≤ size.toNat by clear S; first | omega | (simp; omega)) (show slv x47.toNat (q2.1.sl 0 2) = GT.val (x1.take x47.toNat) ((q2.1.sl 0 2, fun i => q2.2 (0 + i)) : LP TSlot) from congrArg (fun z => slv z (q2.1.sl 0 2)) (show x47.toNat = (x1.take x47.toNat).length by omega)) o57 (Disj.symm d7) oc
 refine S.gr 11 .nil [slv x1.length q2.1] fun ac w β S => ?_
 exact retD1_of S (show x1.length ≤ size.toNat by clear S; first | omega | (simp; omega)) rfl o4 (Disj.symm d7) oc

theorem c_spec_l11Any (w0 : World) (bs : List TByte) (pbs : LP TByte) (G F : Bl) (q : LP TCur) (hc : Cu bs pbs G F w0 q) : Calls Tryz.prog 164 [pt q.1.b (q.1.off + 0 * 3)].toArray w0 (RetD1 bs pbs G F q w0 (fun (r : TCtl) => True)) := by
 refine Calls.run F Tryz.func164 ?_
 intro ac β S
 have oc := hc.oc
 refine S.go 8 .nil fun ac w β S => S.KD1 (d := 5) oc (c_spec_l11Ctl w bs pbs G F q (S.cu oc)) fun ac w N x1 q2 F3 S h6 up o4 d5 ocn => ?_
 replace oc := ocn
 clear up d5
 have i7 : RCtl x1 := o4.own
 refine S.go 8 .nil fun ac w β S => S.KD1 (d := 7) oc (c_spec_l01Below w bs pbs G F q (S.cu oc) 8 (show In64 8 from ⟨by decide, by decide⟩)) fun ac w N x8 q9 F10 S h13 up o11 d12 ocn => ?_
 replace oc := ocn
 clear up d12
 have i14 : In64 x8 := o11.own
 have l15 := i14.lo; have l16 := i14.hi
 refine S.gd 9 .nil (x8 == 0) (fun ac w β h17 g18 S => ?_) (fun ac w β h17 g18 S => ?_)
 ·refine S.go 3 .nil fun ac w β S => S.BF ([(-1), 2, 3, 4] : List Int) () (d := 11) (List.forall_mem_cons.2 ⟨fun _ => (show In64 (-1) from ⟨by decide, by decide⟩), List.forall_mem_cons.2 ⟨fun _ => (show In64 2 from ⟨by decide, by decide⟩), List.forall_mem_cons.2 ⟨fun _ => (show In64 3 from ⟨by decide, by decide⟩), List.forall_mem_cons.2 ⟨fun _ => (show In64 4 from ⟨by decide, by decide⟩), List.forall_mem_nil _⟩⟩⟩⟩) (show 4 ≤ 4194304 by decide) fun ac w N q19 F20 S up o21 d22 => ?_
  have d23 := Disj.w d22 oc.sub
  replace oc := oc.up up
  clear up d22
  refine S.KD1 (d := 12) oc (c_spec_l01PickInt w bs pbs G F q (S.cu oc) ([(-1), 2, 3, 4] : List Int) q19 F20 (GT.own_rd (S.ownw o21)) (fun b hb => ⟨(S.sep b (o21.sub b hb)).1, (Disj.symm d23) b hb⟩) (by first | omega | decide | (simp; done))) fun ac w N x24 q25 F26 S h29 up o27 d28 ocn => ?_
  replace oc := ocn
  clear up d28
  have i30 : In64 x24 := o27.own
  have l31 := i30.lo; have l32 := i30.hi
  refine S.gr 12 .nil [GT.val (⟨x24, x1.post, x1.opn⟩ : TCtl) ()] fun ac w β S => ?_
  exact retD1_of (F1 := NoB) (p := ()) S (show True by clear S; trivial) rfl ⟨(show RCtl (⟨x24, x1.post, x1.opn⟩ : TCtl) from ⟨i30, (RCtl.post (d := x1) i7)⟩), fun _ h => False.elim h, fun _ h => False.elim h⟩ (fun b h _ => False.elim h) oc
 refine S.gd 7 .nil (x8 == 1) (fun ac w β h33 g34 S => ?_) (fun ac w β h33 g34 S => ?_)
 ·refine S.go 3 .nil fun ac w β S => S.BF ([(-1), 255, 256, 9223372036854775807] : List Int) () (d := 17) (List.forall_mem_cons.2 ⟨fun _ => (show In64 (-1) from ⟨by decide, by decide⟩), List.forall_mem_cons.2 ⟨fun _ => (show In64 255 from ⟨by decide, by decide⟩), List.forall_mem_cons.2 ⟨fun _ => (show In64 256 from ⟨by decide, by decide⟩), List.forall_mem_cons.2 ⟨fun _ => (show In64 9223372036854775807 from ⟨by decide, by decide⟩), List.forall_mem_nil _⟩⟩⟩⟩) (show 4 ≤ 4194304 by decide) fun ac w N q35 F36 S up o37 d38 => ?_
  have d39 := Disj.w d38 oc.sub
  replace oc := oc.up up
  clear up d38
  refine S.KD1 (d := 18) oc (c_spec_l01PickInt w bs pbs G F q (S.cu oc) ([(-1), 255, 256, 9223372036854775807] : List Int) q35 F36 (GT.own_rd (S.ownw o37)) (fun b hb => ⟨(S.sep b (o37.sub b hb)).1, (Disj.symm d39) b hb⟩) (by first | omega | decide | (simp; done))) fun ac w N x40 q41 F42 S h45 up o43 d44 ocn => ?_
  replace oc := ocn
  clear up d44
  have i46 : In64 x40 := o43.own
  have l47 := i46.lo; have l48 := i46.hi
  refine S.gr 12 .nil [GT.val (⟨x1.traps, x40, x1.opn⟩ : TCtl) ()] fun ac w β S => ?_
  exact retD1_of (F1 := NoB) (p := ()) S (show True by clear S; trivial) rfl ⟨(show RCtl (⟨x1.traps, x40, x1.opn⟩ : TCtl) from ⟨(RCtl.traps (d := x1) i7), i46⟩), fun _ h => False.elim h, fun _ h => False.elim h⟩ (fun b h _ => False.elim h) oc
 refine S.gd 7 .nil (x8 == 2) (fun ac w β h49 g50 S => ?_) (fun ac w β h49 g50 S => ?_)
 ·refine S.gr 17 .nil [GT.val (⟨x1.traps, x1.post, (!x1.opn)⟩ : TCtl) ()] fun ac w β S => ?_
  exact retD1_of (F1 := NoB) (p := ()) S (show True by clear S; trivial) rfl ⟨(show RCtl (⟨x1.traps, x1.post, (!x1.opn)⟩ : TCtl) from ⟨(RCtl.traps (d := x1) i7), (RCtl.post (d := x1) i7)⟩), fun _ h => False.elim h, fun _ h => False.elim h⟩ (fun b h _ => False.elim h) oc
 refine S.gr 11 .nil [GT.val x1 ()] fun ac w β S => ?_
 exact retD1_of (F1 := NoB) (p := ()) S (show True by clear S; trivial) rfl ⟨i7, fun _ h => False.elim h, fun _ h => False.elim h⟩ (fun b h _ => False.elim h) oc

theorem c_spec_l14Pend (w0 : World) (bs : List TByte) (pbs : LP TByte) (G F : Bl) (q : LP TCur) (hc : Cu bs pbs G F w0 q) : Calls Tryz.prog 98 [pt q.1.b (q.1.off + 0 * 3)].toArray w0 (RetD1 bs pbs G F q w0 (fun (r : Int) => True)) := by
 refine Calls.run F Tryz.func98 ?_
 intro ac β S
 have oc := hc.oc
 refine S.go 9 .nil fun ac w β S => S.KD1 (d := 5) oc (c_spec_l01Below w bs pbs G F q (S.cu oc) 256 (show In64 256 from ⟨by decide, by decide⟩)) fun ac w N x1 q2 F3 S h6 up o4 d5 ocn => ?_
 replace oc := ocn
 clear up d5
 have i7 : In64 x1 := o4.own
 have l8 := i7.lo; have l9 := i7.hi
 refine S.go 1 .nil fun ac w β S => S.KD1 (d := 7) oc (c_spec_l01Below w bs pbs G F q (S.cu oc) 256 (show In64 256 from ⟨by decide, by decide⟩)) fun ac w N x10 q11 F12 S h15 up o13 d14 ocn => ?_
 replace oc := ocn
 clear up d14
 have i16 : In64 x10 := o13.own
 have l17 := i16.lo; have l18 := i16.hi
 refine S.BF ([0, 1, 128, 255, x1, x10, (-1), 256, 9223372036854775807] : List Int) () (d := 8) (List.forall_mem_cons.2 ⟨fun _ => (show In64 0 from ⟨by decide, by decide⟩), List.forall_mem_cons.2 ⟨fun _ => (show In64 1 from ⟨by decide, by decide⟩), List.forall_mem_cons.2 ⟨fun _ => (show In64 128 from ⟨by decide, by decide⟩), List.forall_mem_cons.2 ⟨fun _ => (show In64 255 from ⟨by decide, by decide⟩), List.forall_mem_cons.2 ⟨fun _ => i7, List.forall_mem_cons.2 ⟨fun _ => i16, List.forall_mem_cons.2 ⟨fun _ => (show In64 (-1) from ⟨by decide, by decide⟩), List.forall_mem_cons.2 ⟨fun _ => (show In64 256 from ⟨by decide, by decide⟩), List.forall_mem_cons.2 ⟨fun _ => (show In64 9223372036854775807 from ⟨by decide, by decide⟩), List.forall_mem_nil _⟩⟩⟩⟩⟩⟩⟩⟩⟩) (show 9 ≤ 4194304 by decide) fun ac w N q19 F20 S up o21 d22 => ?_
 have d23 := Disj.w d22 oc.sub
 replace oc := oc.up up
 clear up d22
 refine S.KD1 (d := 9) oc (c_spec_l01PickInt w bs pbs G F q (S.cu oc) ([0, 1, 128, 255, x1, x10, (-1), 256, 9223372036854775807] : List Int) q19 F20 (GT.own_rd (S.ownw o21)) (fun b hb => ⟨(S.sep b (o21.sub b hb)).1, (Disj.symm d23) b hb⟩) (by first | omega | decide | (simp; done))) fun ac w N x24 q25 F26 S h29 up o27 d28 ocn => ?_
 replace oc := ocn
 clear up d28
 have i30 : In64 x24 := o27.own
 have l31 := i30.lo; have l32 := i30.hi
 refine S.gr 4 .nil [I x24] fun ac w β S => ?_
 exact retD1_of (F1 := NoB) (p := ()) S (show True by clear S; trivial) rfl ⟨i30, fun _ h => False.elim h, fun _ h => False.elim h⟩ (fun b h _ => False.elim h) oc

theorem c_spec_l13Any (w0 : World) (bs : List TByte) (pbs : LP TByte) (G F : Bl) (q : LP TCur) (hc : Cu bs pbs G F w0 q) : Calls Tryz.prog 165 [pt q.1.b (q.1.off + 0 * 3)].toArray w0 (RetD1 bs pbs G F q w0 (fun (r : TExit) => True)) := by
 refine Calls.run F Tryz.func165 ?_
 intro ac β S
 have oc := hc.oc
 refine S.go 8 .nil fun ac w β S => S.KD1 (d := 5) oc (c_spec_l13Exit w bs pbs G F q (S.cu oc)) fun ac w N x1 q2 F3 S h6 up o4 d5 ocn => ?_
 replace oc := ocn
 clear up d5
 have i7 : RExit x1 := o4.own
 refine S.go 8 .nil fun ac w β S => S.KD1 (d := 7) oc (c_spec_l01Below w bs pbs G F q (S.cu oc) 8 (show In64 8 from ⟨by decide, by decide⟩)) fun ac w N x8 q9 F10 S h13 up o11 d12 ocn => ?_
 replace oc := ocn
 clear up d12
 have i14 : In64 x8 := o11.own
 have l15 := i14.lo; have l16 := i14.hi
 refine S.gd 9 .nil (x8 == 0) (fun ac w β h17 g18 S => ?_) (fun ac w β h17 g18 S => ?_)
 ·refine S.go 3 .nil fun ac w β S => S.KD1 (d := 11) oc (c_spec_l01Below w bs pbs G F q (S.cu oc) 7 (show In64 7 from ⟨by decide, by decide⟩)) fun ac w N x19 q20 F21 S h24 up o22 d23 ocn => ?_
  replace oc := ocn
  clear up d23
  have i25 : In64 x19 := o22.own
  have l26 := i25.lo; have l27 := i25.hi
  refine S.gr 13 (.cons (qm x19 1) .nil) [GT.val (⟨(x19 - 1), x1.page, x1.wr, x1.n⟩ : TExit) ()] fun ac w β S => ?_
  exact retD1_of (F1 := NoB) (p := ()) S (show True by clear S; trivial) rfl ⟨(show RExit (⟨(x19 - 1), x1.page, x1.wr, x1.n⟩ : TExit) from ⟨(show In64 (x19 - 1) from ⟨by omega, by omega⟩), (RExit.page (d := x1) i7), (RExit.n (d := x1) i7)⟩), fun _ h => False.elim h, fun _ h => False.elim h⟩ (fun b h _ => False.elim h) oc
 refine S.gd 7 .nil (x8 == 1) (fun ac w β h28 g29 S => ?_) (fun ac w β h28 g29 S => ?_)
 ·refine S.go 3 .nil fun ac w β S => S.BF ([(-1), 3, 4] : List Int) () (d := 17) (List.forall_mem_cons.2 ⟨fun _ => (show In64 (-1) from ⟨by decide, by decide⟩), List.forall_mem_cons.2 ⟨fun _ => (show In64 3 from ⟨by decide, by decide⟩), List.forall_mem_cons.2 ⟨fun _ => (show In64 4 from ⟨by decide, by decide⟩), List.forall_mem_nil _⟩⟩⟩) (show 3 ≤ 4194304 by decide) fun ac w N q30 F31 S up o32 d33 => ?_
  have d34 := Disj.w d33 oc.sub
  replace oc := oc.up up
  clear up d33
  refine S.KD1 (d := 18) oc (c_spec_l01PickInt w bs pbs G F q (S.cu oc) ([(-1), 3, 4] : List Int) q30 F31 (GT.own_rd (S.ownw o32)) (fun b hb => ⟨(S.sep b (o32.sub b hb)).1, (Disj.symm d34) b hb⟩) (by first | omega | decide | (simp; done))) fun ac w N x35 q36 F37 S h40 up o38 d39 ocn => ?_
  replace oc := ocn
  clear up d39
  have i41 : In64 x35 := o38.own
  have l42 := i41.lo; have l43 := i41.hi
  refine S.gr 12 .nil [GT.val (⟨x1.kind, x35, x1.wr, x1.n⟩ : TExit) ()] fun ac w β S => ?_
  exact retD1_of (F1 := NoB) (p := ()) S (show True by clear S; trivial) rfl ⟨(show RExit (⟨x1.kind, x35, x1.wr, x1.n⟩ : TExit) from ⟨(RExit.kind (d := x1) i7), i41, (RExit.n (d := x1) i7)⟩), fun _ h => False.elim h, fun _ h => False.elim h⟩ (fun b h _ => False.elim h) oc
 refine S.gd 7 .nil (x8 == 2) (fun ac w β h44 g45 S => ?_) (fun ac w β h44 g45 S => ?_)
 ·refine S.go 3 .nil fun ac w β S => S.BF ([(-1), 99, 100] : List Int) () (d := 23) (List.forall_mem_cons.2 ⟨fun _ => (show In64 (-1) from ⟨by decide, by decide⟩), List.forall_mem_cons.2 ⟨fun _ => (show In64 99 from ⟨by decide, by decide⟩), List.forall_mem_cons.2 ⟨fun _ => (show In64 100 from ⟨by decide, by decide⟩), List.forall_mem_nil _⟩⟩⟩) (show 3 ≤ 4194304 by decide) fun ac w N q46 F47 S up o48 d49 => ?_
  have d50 := Disj.w d49 oc.sub
  replace oc := oc.up up
  clear up d49
  refine S.KD1 (d := 24) oc (c_spec_l01PickInt w bs pbs G F q (S.cu oc) ([(-1), 99, 100] : List Int) q46 F47 (GT.own_rd (S.ownw o48)) (fun b hb => ⟨(S.sep b (o48.sub b hb)).1, (Disj.symm d50) b hb⟩) (by first | omega | decide | (simp; done))) fun ac w N x51 q52 F53 S h56 up o54 d55 ocn => ?_
  replace oc := ocn
  clear up d55
  have i57 : In64 x51 := o54.own
  have l58 := i57.lo; have l59 := i57.hi
  refine S.gr 12 .nil [GT.val (⟨x1.kind, x1.page, x1.wr, x51⟩ : TExit) ()] fun ac w β S => ?_
  exact retD1_of (F1 := NoB) (p := ()) S (show True by clear S; trivial) rfl ⟨(show RExit (⟨x1.kind, x1.page, x1.wr, x51⟩ : TExit) from ⟨(RExit.kind (d := x1) i7), (RExit.page (d := x1) i7), i57⟩), fun _ h => False.elim h, fun _ h => False.elim h⟩ (fun b h _ => False.elim h) oc
 refine S.gr 11 .nil [GT.val x1 ()] fun ac w β S => ?_
 exact retD1_of (F1 := NoB) (p := ()) S (show True by clear S; trivial) rfl ⟨i7, fun _ h => False.elim h, fun _ h => False.elim h⟩ (fun b h _ => False.elim h) oc

theorem c_spec_l15Any (w0 : World) (bs : List TByte) (pbs : LP TByte) (G F : Bl) (q : LP TCur) (hc : Cu bs pbs G F w0 q) : Calls Tryz.prog 96 [pt q.1.b (q.1.off + 0 * 3)].toArray w0 (RetD1 bs pbs G F q w0 (fun (r : TGuest) => True)) := by
 refine Calls.run F Tryz.func96 ?_
 intro ac β S
 have oc := hc.oc
 refine S.go 8 .nil fun ac w β S => S.KD1 (d := 5) oc (c_spec_l15Guest w bs pbs G F q (S.cu oc)) fun ac w N x1 q2 F3 S h6 up o4 d5 ocn => ?_
 have d7 := Disj.w d5 oc.sub
 replace oc := ocn
 clear up d5
 have i11 : In64 x1.acc := RGuest.acc (d := x1) o4.rn
 have i12 : In64 x1.pc := RGuest.pc (d := x1) o4.rn
 have i19 : RCtl x1.ctl := RGuest.ctl (d := x1) o4.rn
 have i20 : In64 x1.pend := RGuest.pend (d := x1) o4.rn
 have i21 : RExit x1.exit := RGuest.exit (d := x1) o4.rn
 obtain ⟨F8, F13, F16, F22, o9, o14, o17, o23, s10, s15, s18, s24, d25, d26, d27, d28, d29, d30⟩ := sp_Guest o4
 refine S.go 8 .nil fun ac w β S => S.KD1 (d := 7) oc (c_spec_l01Below w bs pbs G F q (S.cu oc) 14 (show In64 14 from ⟨by decide, by decide⟩)) fun ac w N x31 q32 F33 S h36 up o34 d35 ocn => ?_
 replace o9 := o9.upF (Disj.part (Disj.symm d7) s10) up
 replace o14 := o14.upF (Disj.part (Disj.symm d7) s15) up
 replace o17 := o17.upF (Disj.part (Disj.symm d7) s18) up
 replace o23 := o23.upF (Disj.part (Disj.symm d7) s24) up
 replace oc := ocn
 clear up d35
 have i37 : In64 x31 := o34.own
 have l38 := i37.lo; have l39 := i37.hi
 refine S.gd 9 .nil (x31 == 0) (fun ac w β h40 g41 S => ?_) (fun ac w β h40 g41 S => ?_)
 ·refine S.go 3 .nil fun ac w β S => S.KD1 (d := 11) oc (c_spec_l10AnyProg w bs pbs G F q (S.cu oc)) fun ac w N x42 q43 F44 S h47 up o45 d46 ocn => ?_
  have d49 := Disj.w d46 o14.sub
  have d50 := Disj.w d46 o17.sub
  have d51 := Disj.w d46 o23.sub
  have d52 := Disj.w d46 oc.sub
  replace o9 := o9.upF (Disj.part (Disj.symm d7) s10) up
  replace o14 := o14.upF (Disj.part (Disj.symm d7) s15) up
  replace o17 := o17.upF (Disj.part (Disj.symm d7) s18) up
  replace o23 := o23.upF (Disj.part (Disj.symm d7) s24) up
  replace oc := ocn
  clear up d46
  have l53 := LRd.le o45.rn
  refine S.gr 12 .nil [GT.val (⟨x42, x1.acc, x1.pc, x1.written, x1.live, x1.ctl, x1.pend, x1.exit, x1.halted, x1.seen⟩ : TGuest) (⟨q43, q2.written, q2.live, q2.seen⟩ : PGuest)] fun ac w β S => ?_
  have o54 := ow_Guest (x := (⟨x42, x1.acc, x1.pc, x1.written, x1.live, x1.ctl, x1.pend, x1.exit, x1.halted, x1.seen⟩ : TGuest)) (p := (⟨q43, q2.written, q2.live, q2.seen⟩ : PGuest)) o45 o14 o17 o23 (Disj.symm d49) (Disj.symm d50) (Disj.symm d51) d28 d29 d30 i11 i12 i19 i20 i21
  exact retD1_of S (show True by clear S; trivial) rfl o54 (Disj.or (Disj.symm d52) (Disj.or (Disj.part (Disj.symm d7) s15) (Disj.or (Disj.part (Disj.symm d7) s18) (Disj.or (Disj.part (Disj.symm d7) s24) Disj.nob)))) oc
 refine S.gd 7 .nil (x31 == 1) (fun ac w β h55 g56 S => ?_) (fun ac w β h55 g56 S => ?_)
 ·refine S.go 3 .nil fun ac w β S => S.BF ([(-1), 100] : List Int) () (d := 16) (List.forall_mem_cons.2 ⟨fun _ => (show In64 (-1) from ⟨by decide, by decide⟩), List.forall_mem_cons.2 ⟨fun _ => (show In64 100 from ⟨by decide, by decide⟩), List.forall_mem_nil _⟩⟩) (show 2 ≤ 4194304 by decide) fun ac w N q57 F58 S up o59 d60 => ?_
  have d65 := Disj.w d60 oc.sub
  replace o9 := o9.up up
  replace o14 := o14.up up
  replace o17 := o17.up up
  replace o23 := o23.up up
  replace oc := oc.up up
  clear up d60
  refine S.KD1 (d := 17) oc (c_spec_l01PickInt w bs pbs G F q (S.cu oc) ([(-1), 100] : List Int) q57 F58 (GT.own_rd (S.ownw o59)) (fun b hb => ⟨(S.sep b (o59.sub b hb)).1, (Disj.symm d65) b hb⟩) (by first | omega | decide | (simp; done))) fun ac w N x66 q67 F68 S h71 up o69 d70 ocn => ?_
  replace o9 := o9.upF (Disj.part (Disj.symm d7) s10) up
  replace o14 := o14.upF (Disj.part (Disj.symm d7) s15) up
  replace o17 := o17.upF (Disj.part (Disj.symm d7) s18) up
  replace o23 := o23.upF (Disj.part (Disj.symm d7) s24) up
  replace oc := ocn
  clear up d70
  have i72 : In64 x66 := o69.own
  have l73 := i72.lo; have l74 := i72.hi
  refine S.gr 12 .nil [GT.val (⟨x1.prog, x66, x1.pc, x1.written, x1.live, x1.ctl, x1.pend, x1.exit, x1.halted, x1.seen⟩ : TGuest) (⟨q2.prog, q2.written, q2.live, q2.seen⟩ : PGuest)] fun ac w β S => ?_
  have o75 := ow_Guest (x := (⟨x1.prog, x66, x1.pc, x1.written, x1.live, x1.ctl, x1.pend, x1.exit, x1.halted, x1.seen⟩ : TGuest)) (p := (⟨q2.prog, q2.written, q2.live, q2.seen⟩ : PGuest)) o9 o14 o17 o23 d25 d26 d27 d28 d29 d30 i72 i12 i19 i20 i21
  exact retD1_of S (show True by clear S; trivial) rfl o75 (Disj.or (Disj.part (Disj.symm d7) s10) (Disj.or (Disj.part (Disj.symm d7) s15) (Disj.or (Disj.part (Disj.symm d7) s18) (Disj.or (Disj.part (Disj.symm d7) s24) Disj.nob)))) oc
 refine S.gd 7 .nil (x31 == 2) (fun ac w β h76 g77 S => ?_) (fun ac w β h76 g77 S => ?_)
 ·refine S.go 3 .nil fun ac w β S => S.BF ([(-1), 12, 13, 9223372036854775807] : List Int) () (d := 22) (List.forall_mem_cons.2 ⟨fun _ => (show In64 (-1) from ⟨by decide, by decide⟩), List.forall_mem_cons.2 ⟨fun _ => (show In64 12 from ⟨by decide, by decide⟩), List.forall_mem_cons.2 ⟨fun _ => (show In64 13 from ⟨by decide, by decide⟩), List.forall_mem_cons.2 ⟨fun _ => (show In64 9223372036854775807 from ⟨by decide, by decide⟩), List.forall_mem_nil _⟩⟩⟩⟩) (show 4 ≤ 4194304 by decide) fun ac w N q78 F79 S up o80 d81 => ?_
  have d86 := Disj.w d81 oc.sub
  replace o9 := o9.up up
  replace o14 := o14.up up
  replace o17 := o17.up up
  replace o23 := o23.up up
  replace oc := oc.up up
  clear up d81
  refine S.KD1 (d := 23) oc (c_spec_l01PickInt w bs pbs G F q (S.cu oc) ([(-1), 12, 13, 9223372036854775807] : List Int) q78 F79 (GT.own_rd (S.ownw o80)) (fun b hb => ⟨(S.sep b (o80.sub b hb)).1, (Disj.symm d86) b hb⟩) (by first | omega | decide | (simp; done))) fun ac w N x87 q88 F89 S h92 up o90 d91 ocn => ?_
  replace o9 := o9.upF (Disj.part (Disj.symm d7) s10) up
  replace o14 := o14.upF (Disj.part (Disj.symm d7) s15) up
  replace o17 := o17.upF (Disj.part (Disj.symm d7) s18) up
  replace o23 := o23.upF (Disj.part (Disj.symm d7) s24) up
  replace oc := ocn
  clear up d91
  have i93 : In64 x87 := o90.own
  have l94 := i93.lo; have l95 := i93.hi
  refine S.gr 12 .nil [GT.val (⟨x1.prog, x1.acc, x87, x1.written, x1.live, x1.ctl, x1.pend, x1.exit, x1.halted, x1.seen⟩ : TGuest) (⟨q2.prog, q2.written, q2.live, q2.seen⟩ : PGuest)] fun ac w β S => ?_
  have o96 := ow_Guest (x := (⟨x1.prog, x1.acc, x87, x1.written, x1.live, x1.ctl, x1.pend, x1.exit, x1.halted, x1.seen⟩ : TGuest)) (p := (⟨q2.prog, q2.written, q2.live, q2.seen⟩ : PGuest)) o9 o14 o17 o23 d25 d26 d27 d28 d29 d30 i11 i93 i19 i20 i21
  exact retD1_of S (show True by clear S; trivial) rfl o96 (Disj.or (Disj.part (Disj.symm d7) s10) (Disj.or (Disj.part (Disj.symm d7) s15) (Disj.or (Disj.part (Disj.symm d7) s18) (Disj.or (Disj.part (Disj.symm d7) s24) Disj.nob)))) oc
 refine S.gd 7 .nil (x31 == 3) (fun ac w β h97 g98 S => ?_) (fun ac w β h97 g98 S => ?_)
 ·refine S.go 3 .nil fun ac w β S => S.KD1 (d := 28) oc (c_spec_l03AnyTable w bs pbs G F q (S.cu oc) 4 (show In64 4 from ⟨by decide, by decide⟩) 8 (show In64 8 from ⟨by decide, by decide⟩) (by omega)) fun ac w N x99 q100 F101 S h104 up o102 d103 ocn => ?_
  have d105 := Disj.w d103 o9.sub
  have d106 := Disj.w d103 o14.sub
  have d108 := Disj.w d103 o23.sub
  have d109 := Disj.w d103 oc.sub
  replace o9 := o9.upF (Disj.part (Disj.symm d7) s10) up
  replace o14 := o14.upF (Disj.part (Disj.symm d7) s15) up
  replace o17 := o17.upF (Disj.part (Disj.symm d7) s18) up
  replace o23 := o23.upF (Disj.part (Disj.symm d7) s24) up
  replace oc := ocn
  clear up d103
  have l110 := LRd.le o102.rn
  refine S.gr 12 .nil [GT.val (⟨x1.prog, x1.acc, x1.pc, x1.written, x99, x1.ctl, x1.pend, x1.exit, x1.halted, x1.seen⟩ : TGuest) (⟨q2.prog, q2.written, q100, q2.seen⟩ : PGuest)] fun ac w β S => ?_
  have o111 := ow_Guest (x := (⟨x1.prog, x1.acc, x1.pc, x1.written, x99, x1.ctl, x1.pend, x1.exit, x1.halted, x1.seen⟩ : TGuest)) (p := (⟨q2.prog, q2.written, q100, q2.seen⟩ : PGuest)) o9 o14 o102 o23 d25 d105 d27 d106 d29 (Disj.symm d108) i11 i12 i19 i20 i21
  exact retD1_of S (show True by clear S; trivial) rfl o111 (Disj.or (Disj.part (Disj.symm d7) s10) (Disj.or (Disj.part (Disj.symm d7) s15) (Disj.or (Disj.symm d109) (Disj.or (Disj.part (Disj.symm d7) s24) Disj.nob)))) oc
 refine S.gd 7 .nil (x31 == 4) (fun ac w β h112 g113 S => ?_) (fun ac w β h112 g113 S => ?_)
 ·refine S.go 3 .nil fun ac w β S => S.KD1 (d := 33) oc (c_spec_l11Any w bs pbs G F q (S.cu oc)) fun ac w N x114 q115 F116 S h119 up o117 d118 ocn => ?_
  replace o9 := o9.upF (Disj.part (Disj.symm d7) s10) up
  replace o14 := o14.upF (Disj.part (Disj.symm d7) s15) up
  replace o17 := o17.upF (Disj.part (Disj.symm d7) s18) up
  replace o23 := o23.upF (Disj.part (Disj.symm d7) s24) up
  replace oc := ocn
  clear up d118
  have i120 : RCtl x114 := o117.own
  refine S.gr 12 .nil [GT.val (⟨x1.prog, x1.acc, x1.pc, x1.written, x1.live, x114, x1.pend, x1.exit, x1.halted, x1.seen⟩ : TGuest) (⟨q2.prog, q2.written, q2.live, q2.seen⟩ : PGuest)] fun ac w β S => ?_
  have o121 := ow_Guest (x := (⟨x1.prog, x1.acc, x1.pc, x1.written, x1.live, x114, x1.pend, x1.exit, x1.halted, x1.seen⟩ : TGuest)) (p := (⟨q2.prog, q2.written, q2.live, q2.seen⟩ : PGuest)) o9 o14 o17 o23 d25 d26 d27 d28 d29 d30 i11 i12 i120 i20 i21
  exact retD1_of S (show True by clear S; trivial) rfl o121 (Disj.or (Disj.part (Disj.symm d7) s10) (Disj.or (Disj.part (Disj.symm d7) s15) (Disj.or (Disj.part (Disj.symm d7) s18) (Disj.or (Disj.part (Disj.symm d7) s24) Disj.nob)))) oc
 refine S.gd 7 .nil (x31 == 5) (fun ac w β h122 g123 S => ?_) (fun ac w β h122 g123 S => ?_)
 ·refine S.go 3 .nil fun ac w β S => S.KD1 (d := 38) oc (c_spec_l14Pend w bs pbs G F q (S.cu oc)) fun ac w N x124 q125 F126 S h129 up o127 d128 ocn => ?_
  replace o9 := o9.upF (Disj.part (Disj.symm d7) s10) up
  replace o14 := o14.upF (Disj.part (Disj.symm d7) s15) up
  replace o17 := o17.upF (Disj.part (Disj.symm d7) s18) up
  replace o23 := o23.upF (Disj.part (Disj.symm d7) s24) up
  replace oc := ocn
  clear up d128
  have i130 : In64 x124 := o127.own
  have l131 := i130.lo; have l132 := i130.hi
  refine S.gr 12 .nil [GT.val (⟨x1.prog, x1.acc, x1.pc, x1.written, x1.live, x1.ctl, x124, x1.exit, x1.halted, x1.seen⟩ : TGuest) (⟨q2.prog, q2.written, q2.live, q2.seen⟩ : PGuest)] fun ac w β S => ?_
  have o133 := ow_Guest (x := (⟨x1.prog, x1.acc, x1.pc, x1.written, x1.live, x1.ctl, x124, x1.exit, x1.halted, x1.seen⟩ : TGuest)) (p := (⟨q2.prog, q2.written, q2.live, q2.seen⟩ : PGuest)) o9 o14 o17 o23 d25 d26 d27 d28 d29 d30 i11 i12 i19 i130 i21
  exact retD1_of S (show True by clear S; trivial) rfl o133 (Disj.or (Disj.part (Disj.symm d7) s10) (Disj.or (Disj.part (Disj.symm d7) s15) (Disj.or (Disj.part (Disj.symm d7) s18) (Disj.or (Disj.part (Disj.symm d7) s24) Disj.nob)))) oc
 refine S.gd 7 .nil (x31 == 6) (fun ac w β h134 g135 S => ?_) (fun ac w β h134 g135 S => ?_)
 ·refine S.go 3 .nil fun ac w β S => S.KD1 (d := 43) oc (c_spec_l13Any w bs pbs G F q (S.cu oc)) fun ac w N x136 q137 F138 S h141 up o139 d140 ocn => ?_
  replace o9 := o9.upF (Disj.part (Disj.symm d7) s10) up
  replace o14 := o14.upF (Disj.part (Disj.symm d7) s15) up
  replace o17 := o17.upF (Disj.part (Disj.symm d7) s18) up
  replace o23 := o23.upF (Disj.part (Disj.symm d7) s24) up
  replace oc := ocn
  clear up d140
  have i142 : RExit x136 := o139.own
  refine S.gr 12 .nil [GT.val (⟨x1.prog, x1.acc, x1.pc, x1.written, x1.live, x1.ctl, x1.pend, x136, x1.halted, x1.seen⟩ : TGuest) (⟨q2.prog, q2.written, q2.live, q2.seen⟩ : PGuest)] fun ac w β S => ?_
  have o143 := ow_Guest (x := (⟨x1.prog, x1.acc, x1.pc, x1.written, x1.live, x1.ctl, x1.pend, x136, x1.halted, x1.seen⟩ : TGuest)) (p := (⟨q2.prog, q2.written, q2.live, q2.seen⟩ : PGuest)) o9 o14 o17 o23 d25 d26 d27 d28 d29 d30 i11 i12 i19 i20 i142
  exact retD1_of S (show True by clear S; trivial) rfl o143 (Disj.or (Disj.part (Disj.symm d7) s10) (Disj.or (Disj.part (Disj.symm d7) s15) (Disj.or (Disj.part (Disj.symm d7) s18) (Disj.or (Disj.part (Disj.symm d7) s24) Disj.nob)))) oc
 refine S.gd 7 .nil (x31 == 7) (fun ac w β h144 g145 S => ?_) (fun ac w β h144 g145 S => ?_)
 ·refine S.go 2 .nil fun ac w β S => ?_
  refine lp (fun mm ac w => ∃ (sn : List Int) (q146 : _) (F147 : _) (u : _) (N : _) (β : _), mm = 41 - sn.length ∧ (sn.length ≤ 41) ∧ St Tryz.prog Tryz.f96.ntmps w0 F u N β ⟨[(0, .v (pt q.1.b (q.1.off + 0 * 3))), (2, .p 0 0), (3, .p 1 0)], [Zc TGuest, [slv x1.prog.length q2.prog.1, I x1.acc, I x1.pc, slv x1.written.length q2.written.1, slv x1.live.length q2.live.1, I x1.ctl.traps, I x1.ctl.post, B x1.ctl.opn, I x1.pend, I x1.exit.kind, I x1.exit.page, B x1.exit.wr, I x1.exit.n, B x1.halted, slv sn.length q146.1]]⟩ ac w ∧ Ow w0 F u N F147 sn q146 ∧ Ow w0 F u N F8 x1.prog q2.prog ∧ Ow w0 F u N F13 x1.written q2.written ∧ Ow w0 F u N F16 x1.live q2.live ∧ Oc bs pbs G w0 F u N F q ∧ Disj F147 F8 ∧ Disj F147 F13 ∧ Disj F147 F16 ∧ Disj F147 F) _ ⟨x1.seen, q2.seen, F22, _, _, _, rfl, o0, S.z, o23, o9, o14, o17, oc, (Disj.symm d27), (Disj.symm d29), (Disj.symm d30), (Disj.part (Disj.symm d7) s24)⟩ ?_
  clear S o14 o17 o23 o9 oc
  rintro f153 mm hf154 ac w ⟨sn, q146, F147, u, N, β, rfl, hl, S, o148, o9, o14, o17, oc, d149, d150, d151, d152⟩
  refine S.rs fun S => ?_
  refine S.go 2 .nil fun ac w β S => ?_
  refine drw ?_
  let σ155 : Sy := ⟨[(0, .v (pt q.1.b (q.1.off + 0 * 3))), (2, .p 0 0), (3, .p 1 0)], [Zc TGuest, [slv x1.prog.length q2.prog.1, I x1.acc, I x1.pc, slv x1.written.length q2.written.1, slv x1.live.length q2.live.1, I x1.ctl.traps, I x1.ctl.post, B x1.ctl.opn, I x1.pend, I x1.exit.kind, I x1.exit.page, B x1.exit.wr, I x1.exit.n, B x1.halted, slv sn.length q146.1]]⟩
  obtain ⟨u0, N0, β0, S, o148, o9, o14, o17, oc⟩ : ∃ u0 N0 β0, St Tryz.prog Tryz.f96.ntmps w0 F u0 N0 β0 σ155 ac w ∧ Ow w0 F u0 N0 F147 sn q146 ∧ Ow w0 F u0 N0 F8 x1.prog q2.prog ∧ Ow w0 F u0 N0 F13 x1.written q2.written ∧ Ow w0 F u0 N0 F16 x1.live q2.live ∧ Oc bs pbs G w0 F u0 N0 F q := ⟨_, _, _, S.z, o148, o9, o14, o17, oc⟩
  refine wp_region_cut (fun ac w => ∃  (x161 : Int)  (u : _) (N : _) (β : _), St Tryz.prog Tryz.f96.ntmps w0 F u N β (σ155.dl [] [(53, .v (B (decide ((sn.length : Int) < (39 + x161)))))] 2 []) ac w ∧ Ow w0 F u N F147 sn q146 ∧ Ow w0 F u N F8 x1.prog q2.prog ∧ Ow w0 F u N F13 x1.written q2.written ∧ Ow w0 F u N F16 x1.live q2.live ∧ Oc bs pbs G w0 F u N F q ∧ In64 x1.acc ∧ In64 x1.pc ∧ In64 x1.pend ∧ RCtl x1.ctl ∧ RExit x1.exit ∧ (((3 : Int) ≤ 0 → x161 = 0) ∧ ((0 : Int) < 3 → 0 ≤ x161 ∧ x161 < 3)) ∧ (In64 x161)) ?_ ?_
  ·refine S.draw0 (f := 7) 4 (by kernel_rfl) (by kernel_rfl) fun w S => ?_
   refine S.hq 3 [3] [] [(50, .v (pt q.1.b (q.1.off + 0 * 3)))] .nil fun ac S => ?_
   refine WD.nameW fun W hW => ?_
   refine WD.castW (l' := mkL 7 [3]) (by kernel_rfl) ?_
   have hK182 ac w (x161 : Int) u N β (S : St Tryz.prog Tryz.f96.ntmps w0 F u N β (σ155.dl [] [(53, .v (B (decide ((sn.length : Int) < (39 + x161)))))] 2 []) ac w) (o148 : Ow w0 F u N F147 sn q146) (o9 : Ow w0 F u N F8 x1.prog q2.prog) (o14 : Ow w0 F u N F13 x1.written q2.written) (o17 : Ow w0 F u N F16 x1.live q2.live) (oc : Oc bs pbs G w0 F u N F q) (i156 : In64 x1.acc) (i157 : In64 x1.pc) (i159 : In64 x1.pend) (i158 : RCtl x1.ctl) (i160 : RExit x1.exit) (h166 : (((3 : Int) ≤ 0 → x161 = 0) ∧ ((0 : Int) < 3 → 0 ≤ x161 ∧ x161 < 3))) (i167 : (In64 x161)) : W 0 (mkL 7 [0, 1, 2, 3, 4, 5, 6]) ac w := by
    have l183 := i167.lo; have l184 := i167.hi
    exact od hW ⟨rfl, x161, _, _, _, S.z, o148, o9, o14, o17, oc, i156, i157, i159, i158, i160, h166, i167⟩
   have hK185 ac w (x161 : Int) u N β (S : St Tryz.prog Tryz.f96.ntmps w0 F u N β (σ155.dl [] [(49, .v (I (sn.length : Int))), (51, .v (I x161))] 2 []) ac w) (o148 : Ow w0 F u N F147 sn q146) (o9 : Ow w0 F u N F8 x1.prog q2.prog) (o14 : Ow w0 F u N F13 x1.written q2.written) (o17 : Ow w0 F u N F16 x1.live q2.live) (oc : Oc bs pbs G w0 F u N F q) (i156 : In64 x1.acc) (i157 : In64 x1.pc) (i159 : In64 x1.pend) (i158 : RCtl x1.ctl) (i160 : RExit x1.exit) (h166 : (((3 : Int) ≤ 0 → x161 = 0) ∧ ((0 : Int) < 3 → 0 ≤ x161 ∧ x161 < 3))) (i167 : (In64 x161)) : W 2 (mkL 7 [0, 1, 2, 3, 4]) ac w := by
    have l186 := i167.lo; have l187 := i167.hi
    exact ox1 hW 5 (S.wl hW [6] (.cons (qp 39 x161) .nil) fun _ _ _ S => hK182 _ _ x161 _ _ _ S o148 o9 o14 o17 oc i156 i157 i159 i158 i160 h166 i167)
   have hK188 ac w (x161 : Int) u N β (S : St Tryz.prog Tryz.f96.ntmps w0 F u N β (σ155.dl [] [(48, .v (slv sn.length q146.1)), (52, .v (I (39 + x161)))] 2 []) ac w) (o148 : Ow w0 F u N F147 sn q146) (o9 : Ow w0 F u N F8 x1.prog q2.prog) (o14 : Ow w0 F u N F13 x1.written q2.written) (o17 : Ow w0 F u N F16 x1.live q2.live) (oc : Oc bs pbs G w0 F u N F q) (i156 : In64 x1.acc) (i157 : In64 x1.pc) (i159 : In64 x1.pend) (i158 : RCtl x1.ctl) (i160 : RExit x1.exit) (h166 : (((3 : Int) ≤ 0 → x161 = 0) ∧ ((0 : Int) < 3 → 0 ≤ x161 ∧ x161 < 3))) (i167 : (In64 x161)) : W 2 (mkL 7 [0, 1, 3, 4, 5]) ac w := by
    have l189 := i167.lo; have l190 := i167.hi
    exact ox1 hW 2 (S.wl hW [6] .nil fun _ _ _ S => hK182 _ _ x161 _ _ _ S o148 o9 o14 o17 oc i156 i157 i159 i158 i160 h166 i167)
   have hK191 ac w u N β (S : St Tryz.prog Tryz.f96.ntmps w0 F u N β (σ155.dl [] [(49, .v (I (sn.length : Int))), (50, .v (pt q.1.b (q.1.off + 0 * 3)))] 2 []) ac w) (o148 : Ow w0 F u N F147 sn q146) (o9 : Ow w0 F u N F8 x1.prog q2.prog) (o14 : Ow w0 F u N F13 x1.written q2.written) (o17 : Ow w0 F u N F16 x1.live q2.live) (oc : Oc bs pbs G w0 F u N F q) (i156 : In64 x1.acc) (i157 : In64 x1.pc) (i159 : In64 x1.pend) (i158 : RCtl x1.ctl) (i160 : RExit x1.exit) (hNN : NN N0 u0 N u) (hBB : BB σ155.bx.length β0 β) : W 3 (mkL 7 [0, 1, 2, 3]) ac w := by
    refine ox1 hW 4 ?_
    refine id (S.callD1 (d := 51) oc (c_spec_l01Below w bs pbs G F q (S.cu oc) 3 (show In64 3 from ⟨by decide, by decide⟩)) fun ac w N x161 q192 F193 S h166 up o194 d195 ocn => ?_)
    refine WD.sl fun hC => ?_
    replace o148 := o148.upF d152 up
    replace o9 := o9.upF (Disj.part (Disj.symm d7) s10) up
    replace o14 := o14.upF (Disj.part (Disj.symm d7) s15) up
    replace o17 := o17.upF (Disj.part (Disj.symm d7) s18) up
    replace oc := ocn
    clear up d195
    have i167 : In64 x161 := o194.own
    have l196 := i167.lo; have l197 := i167.hi
    exact S.wh hW [] hC fun _ S => hK185 _ _ x161 _ _ _ S o148 o9 o14 o17 oc i156 i157 i159 i158 i160 h166 i167
   have hK198 ac w (x161 : Int) u N β (S : St Tryz.prog Tryz.f96.ntmps w0 F u N β (σ155.dl [] [(48, .v (slv sn.length q146.1)), (51, .v (I x161))] 2 []) ac w) (o148 : Ow w0 F u N F147 sn q146) (o9 : Ow w0 F u N F8 x1.prog q2.prog) (o14 : Ow w0 F u N F13 x1.written q2.written) (o17 : Ow w0 F u N F16 x1.live q2.live) (oc : Oc bs pbs G w0 F u N F q) (i156 : In64 x1.acc) (i157 : In64 x1.pc) (i159 : In64 x1.pend) (i158 : RCtl x1.ctl) (i160 : RExit x1.exit) (h166 : (((3 : Int) ≤ 0 → x161 = 0) ∧ ((0 : Int) < 3 → 0 ≤ x161 ∧ x161 < 3))) (i167 : (In64 x161)) : W 3 (mkL 7 [0, 1, 3, 4]) ac w := by
    have l199 := i167.lo; have l200 := i167.hi
    exact ox2 hW 2 5 (S.wl hW [] .nil fun _ _ _ S => hK185 _ _ x161 _ _ _ S o148 o9 o14 o17 oc i156 i157 i159 i158 i160 h166 i167) (S.wl hW [] (.cons (qp 39 x161) .nil) fun _ _ _ S => hK188 _ _ x161 _ _ _ S o148 o9 o14 o17 oc i156 i157 i159 i158 i160 h166 i167)
   have hK201 ac w (x161 : Int) u N β (S : St Tryz.prog Tryz.f96.ntmps w0 F u N β (σ155.dl [] [(47, .p 1 14), (52, .v (I (39 + x161)))] 2 []) ac w) (o148 : Ow w0 F u N F147 sn q146) (o9 : Ow w0 F u N F8 x1.prog q2.prog) (o14 : Ow w0 F u N F13 x1.written q2.written) (o17 : Ow w0 F u N F16 x1.live q2.live) (oc : Oc bs pbs G w0 F u N F q) (i156 : In64 x1.acc) (i157 : In64 x1.pc) (i159 : In64 x1.pend) (i158 : RCtl x1.ctl) (i160 : RExit x1.exit) (h166 : (((3 : Int) ≤ 0 → x161 = 0) ∧ ((0 : Int) < 3 → 0 ≤ x161 ∧ x161 < 3))) (i167 : (In64 x161)) : W 3 (mkL 7 [0, 3, 4, 5]) ac w := by
    have l202 := i167.lo; have l203 := i167.hi
    exact ox1 hW 1 (S.wl hW [] .nil fun _ _ _ S => hK188 _ _ x161 _ _ _ S o148 o9 o14 o17 oc i156 i157 i159 i158 i160 h166 i167)
   have hK204 ac w u N β (S : St Tryz.prog Tryz.f96.ntmps w0 F u N β (σ155.dl [] [(48, .v (slv sn.length q146.1)), (50, .v (pt q.1.b (q.1.off + 0 * 3)))] 2 []) ac w) (o148 : Ow w0 F u N F147 sn q146) (o9 : Ow w0 F u N F8 x1.prog q2.prog) (o14 : Ow w0 F u N F13 x1.written q2.written) (o17 : Ow w0 F u N F16 x1.live q2.live) (oc : Oc bs pbs G w0 F u N F q) (i156 : In64 x1.acc) (i157 : In64 x1.pc) (i159 : In64 x1.pend) (i158 : RCtl x1.ctl) (i160 : RExit x1.exit) (hNN : NN N0 u0 N u) (hBB : BB σ155.bx.length β0 β) : W 4 (mkL 7 [0, 1, 3]) ac w := by
    refine ox2 hW 2 4 (S.wq hW hNN hBB [] .nil fun _ _ _ S hB => hK191 _ _ _ _ _ S o148 o9 o14 o17 oc i156 i157 i159 i158 i160 hNN hB) ?_
    refine id (S.callD1 (d := 51) oc (c_spec_l01Below w bs pbs G F q (S.cu oc) 3 (show In64 3 from ⟨by decide, by decide⟩)) fun ac w N x161 q205 F206 S h166 up o207 d208 ocn => ?_)
    refine WD.sl fun hC => ?_
    replace o148 := o148.upF d152 up
    replace o9 := o9.upF (Disj.part (Disj.symm d7) s10) up
    replace o14 := o14.upF (Disj.part (Disj.symm d7) s15) up
    replace o17 := o17.upF (Disj.part (Disj.symm d7) s18) up
    replace oc := ocn
    clear up d208
    have i167 : In64 x161 := o207.own
    have l209 := i167.lo; have l210 := i167.hi
    exact S.wh hW [] hC fun _ S => hK198 _ _ x161 _ _ _ S o148 o9 o14 o17 oc i156 i157 i159 i158 i160 h166 i167
   have hK211 ac w (x161 : Int) u N β (S : St Tryz.prog Tryz.f96.ntmps w0 F u N β (σ155.dl [] [(47, .p 1 14), (51, .v (I x161))] 2 []) ac w) (o148 : Ow w0 F u N F147 sn q146) (o9 : Ow w0 F u N F8 x1.prog q2.prog) (o14 : Ow w0 F u N F13 x1.written q2.written) (o17 : Ow w0 F u N F16 x1.live q2.live) (oc : Oc bs pbs G w0 F u N F q) (i156 : In64 x1.acc) (i157 : In64 x1.pc) (i159 : In64 x1.pend) (i158 : RCtl x1.ctl) (i160 : RExit x1.exit) (h166 : (((3 : Int) ≤ 0 → x161 = 0) ∧ ((0 : Int) < 3 → 0 ≤ x161 ∧ x161 < 3))) (i167 : (In64 x161)) : W 4 (mkL 7 [0, 3, 4]) ac w := by
    have l212 := i167.lo; have l213 := i167.hi
    exact ox2 hW 1 5 (S.wl hW [] .nil fun _ _ _ S => hK198 _ _ x161 _ _ _ S o148 o9 o14 o17 oc i156 i157 i159 i158 i160 h166 i167) (S.wl hW [] (.cons (qp 39 x161) .nil) fun _ _ _ S => hK201 _ _ x161 _ _ _ S o148 o9 o14 o17 oc i156 i157 i159 i158 i160 h166 i167)
   have hK214 ac w u N β (S : St Tryz.prog Tryz.f96.ntmps w0 F u N β (σ155.dl [] [(47, .p 1 14), (50, .v (pt q.1.b (q.1.off + 0 * 3)))] 2 []) ac w) (o148 : Ow w0 F u N F147 sn q146) (o9 : Ow w0 F u N F8 x1.prog q2.prog) (o14 : Ow w0 F u N F13 x1.written q2.written) (o17 : Ow w0 F u N F16 x1.live q2.live) (oc : Oc bs pbs G w0 F u N F q) (hNN : NN N0 u0 N u) (hBB : BB σ155.bx.length β0 β) : W 5 (mkL 7 [0, 3]) ac w := by
    refine ox2 hW 1 4 (S.wq hW hNN hBB [] .nil fun _ _ _ S hB => hK204 _ _ _ _ _ S o148 o9 o14 o17 oc i11 i12 i20 i19 i21 hNN hB) ?_
    refine id (S.callD1 (d := 51) oc (c_spec_l01Below w bs pbs G F q (S.cu oc) 3 (show In64 3 from ⟨by decide, by decide⟩)) fun ac w N x161 q215 F216 S h166 up o217 d218 ocn => ?_)
    refine WD.sl fun hC => ?_
    replace o148 := o148.upF d152 up
    replace o9 := o9.upF (Disj.part (Disj.symm d7) s10) up
    replace o14 := o14.upF (Disj.part (Disj.symm d7) s15) up
    replace o17 := o17.upF (Disj.part (Disj.symm d7) s18) up
    replace oc := ocn
    clear up d218
    have i167 : In64 x161 := o217.own
    have l219 := i167.lo; have l220 := i167.hi
    exact S.wh hW [] hC fun _ S => hK211 _ _ x161 _ _ _ S o148 o9 o14 o17 oc i11 i12 i20 i19 i21 h166 i167
   rw [hW]
   exact S.wh hW [0] (fun _ => S.rcx) fun _ S => hK214 _ _ _ _ _ S o148 o9 o14 o17 oc (fun _ h => ⟨h, rfl⟩) (fun _ _ => rfl)
  clear S o148 o9 o14 o17 oc
  rintro ac w ⟨x161, u, N, β, S, o148, o9, o14, o17, oc, i156, i157, i159, i158, i160, h166, i167⟩
  have l221 := i167.lo; have l222 := i167.hi
  refine S.ex fun S => ?_
  refine S.gd 1 .nil (decide ((sn.length : Int) < (39 + x161))) (fun ac w β h223 g224 S => ?_) (fun ac w β h223 g224 S => ?_)
  ·refine S.go 7 .nil fun ac w β S => S.B1 (α := Int) (x := 1) (p := ()) (F := NoB) (show In64 1 from ⟨by decide, by decide⟩) (fun b h => False.elim h) (fun b h => False.elim h) (d := 56) fun ac w N q225 F226 S up o227 d228 => ?_
   replace o148 := o148.up up
   replace o9 := o9.up up
   replace o14 := o14.up up
   replace o17 := o17.up up
   replace oc := oc.up up
   clear up d228
   refine S.AF (α := Int) o148 o227.rn (fun _ _ h => h) (by' := 8) (d := 57) (lx := sn.length) (ly := 1) rfl rfl (show _ ≤ 4194304 by simp only [List.length_append, List.length_cons, List.length_nil]; omega) fun ac w N q234 F235 S up o236 d237 => ?_
   have d238 := d237 _ (Disj.symm d149) o9.sub
   have d239 := d237 _ (Disj.symm d150) o14.sub
   have d240 := d237 _ (Disj.symm d151) o17.sub
   have d241 := d237 _ (Disj.symm d152) oc.sub
   replace o9 := o9.upF (Disj.symm d149) up
   replace o14 := o14.upF (Disj.symm d150) up
   replace o17 := o17.upF (Disj.symm d151) up
   replace oc := oc.upF (Disj.symm d152) up
   clear up d237
   refine S.ge 4 .nil f153 fun ac w β S => hf154.of (41 - (sn ++ [1]).length) _ _ (by (simp; omega)) ⟨(sn ++ [1]), q234, F235, _, _, _, rfl, ?_, S.z, o236, o9, o14, o17, oc, (Disj.symm d238), (Disj.symm d239), (Disj.symm d240), (Disj.symm d241)⟩
   ·clear S; (simp; omega)
  refine S.gr 14 .nil [GT.val (⟨x1.prog, x1.acc, x1.pc, x1.written, x1.live, x1.ctl, x1.pend, x1.exit, x1.halted, sn⟩ : TGuest) (⟨q2.prog, q2.written, q2.live, q146⟩ : PGuest)] fun ac w β S => ?_
  have o243 := ow_Guest (x := (⟨x1.prog, x1.acc, x1.pc, x1.written, x1.live, x1.ctl, x1.pend, x1.exit, x1.halted, sn⟩ : TGuest)) (p := (⟨q2.prog, q2.written, q2.live, q146⟩ : PGuest)) o9 o14 o17 o148 d25 d26 (Disj.symm d149) d28 (Disj.symm d150) (Disj.symm d151) i156 i157 i158 i159 i160
  exact retD1_of S (show True by clear S; trivial) rfl o243 (Disj.or (Disj.part (Disj.symm d7) s10) (Disj.or (Disj.part (Disj.symm d7) s15) (Disj.or (Disj.part (Disj.symm d7) s18) (Disj.or d152 Disj.nob)))) oc
 refine S.gd 7 .nil (x31 == 8) (fun ac w β h244 g245 S => ?_) (fun ac w β h244 g245 S => ?_)
 ·refine S.go 3 .nil fun ac w β S => S.KD1 (d := 62) oc (c_spec_l03AnyTable w bs pbs G F q (S.cu oc) 4 (show In64 4 from ⟨by decide, by decide⟩) 8 (show In64 8 from ⟨by decide, by decide⟩) (by omega)) fun ac w N x246 q247 F248 S h251 up o249 d250 ocn => ?_
  have d252 := Disj.w d250 o9.sub
  have d254 := Disj.w d250 o17.sub
  have d255 := Disj.w d250 o23.sub
  have d256 := Disj.w d250 oc.sub
  replace o9 := o9.upF (Disj.part (Disj.symm d7) s10) up
  replace o14 := o14.upF (Disj.part (Disj.symm d7) s15) up
  replace o17 := o17.upF (Disj.part (Disj.symm d7) s18) up
  replace o23 := o23.upF (Disj.part (Disj.symm d7) s24) up
  replace oc := ocn
  clear up d250
  have l257 := LRd.le o249.rn
  refine S.gr 12 .nil [GT.val (⟨x1.prog, x1.acc, x1.pc, x246, x1.live, x1.ctl, x1.pend, x1.exit, x1.halted, x1.seen⟩ : TGuest) (⟨q2.prog, q247, q2.live, q2.seen⟩ : PGuest)] fun ac w β S => ?_
  have o258 := ow_Guest (x := (⟨x1.prog, x1.acc, x1.pc, x246, x1.live, x1.ctl, x1.pend, x1.exit, x1.halted, x1.seen⟩ : TGuest)) (p := (⟨q2.prog, q247, q2.live, q2.seen⟩ : PGuest)) o9 o249 o17 o23 d252 d26 d27 (Disj.symm d254) (Disj.symm d255) d30 i11 i12 i19 i20 i21
  exact retD1_of S (show True by clear S; trivial) rfl o258 (Disj.or (Disj.part (Disj.symm d7) s10) (Disj.or (Disj.symm d256) (Disj.or (Disj.part (Disj.symm d7) s18) (Disj.or (Disj.part (Disj.symm d7) s24) Disj.nob)))) oc
 refine S.gr 11 .nil [GT.val x1 q2] fun ac w β S => ?_
 have o259 := ow_Guest (x := x1) (p := q2) o9 o14 o17 o23 d25 d26 d27 d28 d29 d30 i11 i12 i19 i20 i21
 exact retD1_of S (show True by clear S; trivial) rfl o259 (Disj.or (Disj.part (Disj.symm d7) s10) (Disj.or (Disj.part (Disj.symm d7) s15) (Disj.or (Disj.part (Disj.symm d7) s18) (Disj.or (Disj.part (Disj.symm d7) s24) Disj.nob)))) oc

end Go.Proofs.YtgonaioedbphgaaGreat
