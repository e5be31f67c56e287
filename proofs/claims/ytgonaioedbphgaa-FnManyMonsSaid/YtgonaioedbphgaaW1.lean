/- The walks: what each function that the laws reach computes (part 1). -/
import Derived.Test.YtgonaioedbphgaaMarks
import Derived.Test.YtgonaioedbphgaaCore9
import Derived.Test.YtgonaioedbphgaaEq
import Derived.Test.YtgonaioedbphgaaSz
import Derived.Test.YtgonaioedbphgaaOw
import Derived.Test.YtgonaioedbphgaaSpec3
import Derived.Test.YtgonaioedbphgaaDrawO
import Derived.Test.YtgonaioedbphgaaMk
import Derived.Test.YtgonaioedbphgaaSpec4
import Derived.Test.YtgonaioedbphgaaSlice
import Derived.Test.YtgonaioedbphgaaPt
import Derived.Test.YtgonaioedbphgaaSpec5
import Derived.Test.YtgonaioedbphgaaShort
import Derived.Test.YtgonaioedbphgaaClo
import Derived.Test.YtgonaioedbphgaaDag
import Derived.Test.YtgonaioedbphgaaSpec6
import Derived.Test.YtgonaioedbphgaaSpec7
import Derived.Test.YtgonaioedbphgaaHp
import Derived.Test.YtgonaioedbphgaaRun
import Derived.Test.YtgonaioedbphgaaRun2
import Derived.Test.YtgonaioedbphgaaSpec10
import Derived.Test.YtgonaioedbphgaaSpec11
import Derived.Test.YtgonaioedbphgaaSpec12
import Derived.Test.YtgonaioedbphgaaCopy
import Derived.Test.YtgonaioedbphgaaRunC
import Derived.Test.YtgonaioedbphgaaSpec9
import Derived.Test.YtgonaioedbphgaaSpec15
import Derived.Test.YtgonaioedbphgaaDrw
import Derived.Test.YtgonaioedbphgaaDraws
import Derived.Test.YtgonaioedbphgaaProg
import Derived.KernelRfl
namespace Go.Proofs.Ytgonaioedbphgaa
open Go
set_option linter.unusedVariables false
set_option linter.unusedSimpArgs false
set_option maxRecDepth 100000
set_option maxHeartbeats 2000000

theorem c_laws_big (w0 : World) (code : List TByte) (pcode : LP TByte) (hcode : GT.rd KR (Lt w0.heap.size) w0 code pcode) : Calls Try.prog 6 [slv code.length pcode.1].toArray w0 (fun e w' => e = .returned (B (decide (((code.length : Nat) : Int) > 1048576))) ∧ Chg NoB w0 w') := by
 refine Calls.run NoB Try.func6 ?_
 intro ac β S
 have hlecode : code.length ≤ 9223372036854775807 := LRd.le hcode
 exact S.gf 14 .nil [B (decide ((code.length : Int) > 1048576))] (retB (by clear S; rfl))

theorem k0_impl_Brought {p : Prop} (h : p := by clear S; ((have hb := brought_bd n); subst pre0 pre1; unfold f_brought at *; (repeat' split at *) <;> omega)) : p := h
theorem c_impl_Brought (w0 : World) (n : Int) (a : Int) (b : Int) (pre0 : a = 0) (pre1 : b = 24) : Calls Try.prog 62 [I n, I a, I b].toArray w0 (fun e w' => e = .returned (I ((f_brought n 0 24).toNat : Int)) ∧ Chg NoB w0 w') := by
 refine Calls.run NoB Try.func62 ?_
 intro ac β S
 refine S.gd 12 .nil (decide (n < a)) (fun ac w β h1 g2 S => ?_) (fun ac w β h1 g2 S => ?_)
 ·exact S.gf 14 .nil [I a] (retI k0_impl_Brought)
 refine S.gd 6 .nil (decide (b < a)) (fun ac w β h3 g4 S => ?_) (fun ac w β h3 g4 S => ?_)
 ·exact S.gf 8 .nil [I a] (retI k0_impl_Brought)
 exact S.gf 12 .nil [I (if b < n then b else n)] (retI k0_impl_Brought)

theorem c_impl_MemNew (w0 : World) (pages : Int) : Calls Try.prog 42 [I pages].toArray w0 (Ret1 NoB w0 ((List.replicate (f_brought pages 0 24).toNat (List.replicate 4 (0 : Int))) : List (List Int))) := by
 refine Calls.run NoB Try.func42 ?_
 intro ac β S
 refine S.go 7 .nil fun ac w β S => S.B0 (α := List Int) (d := 5) fun ac w N q1 F2 S up o3 d4 => ?_
 clear up d4
 refine S.go 10 .nil fun ac w β S => ?_
 refine lp (fun mm ac w => ∃ (k : Nat) (acc : List (List Int)) (q5 : _) (F6 : _) (u : _) (N : _) (β : _), mm = (f_brought pages 0 24).toNat - k ∧ (k ≤ (f_brought pages 0 24).toNat) ∧ (acc = List.replicate k (List.replicate 4 (0 : Int))) ∧ St Try.prog Try.f42.ntmps w0 NoB u N β ⟨[(0, .v (I pages)), (3, .v (slv acc.length q5.1)), (4, .v (I (k : Int)))], []⟩ ac w ∧ Ow w0 NoB u N F6 acc q5) _ ⟨0, ([] : List (List Int)), q1, F2, _, _, _, rfl, o0, (by rfl), S.z, o3⟩ ?_
 clear S o3
 rintro f8 mm hf9 ac w ⟨k, acc, q5, F6, u, N, β, rfl, hk, hacc, S, o7⟩
 refine S.rs fun S => ?_
 have hb := brought_bd pages
 have hlacc : acc.length = k := by rw [hacc, List.length_replicate]
 refine S.gd 9 (.cons (Q_call fun w hw => c_impl_Brought w pages 0 24 (by omega) (by omega)) .nil) (decide ((k : Int) < ((f_brought pages 0 24).toNat : Int))) (fun ac w β h10 g11 S => ?_) (fun ac w β h10 g11 S => ?_)
 ·refine S.go 7 .nil fun ac w β S => S.Mk (α := Int) (m := 4) (by' := 8) (d := 13) (by omega) (show 4 ≤ 4194304 by omega) fun ac w N q12 F13 S up o14 d15 => ?_
  have d16 := Disj.w d15 o7.sub
  replace o7 := o7.up up
  clear up d15
  refine S.B1 (α := List Int) (x := (List.replicate 4 (GT.dflt : Int))) (p := q12) o14.own o14.sub o14.young (d := 14) fun ac w N q17 F18 S up o19 d20 => ?_
  have d21 := d20 _ d16 o7.sub
  replace o7 := o7.up up
  clear up d20
  refine S.AO (α := List Int) o7 o19 d21 (by' := 24) (d := 15) (lx := acc.length) (ly := 1) rfl rfl (show _ ≤ 4194304 by simp only [List.length_append, List.length_cons, List.length_nil]; omega) fun ac w N q22 F23 S up o24 d25 => ?_
  clear up d25
  refine S.ge 9 (.cons (qp (k : Int) 1) .nil) f8 fun ac w β S => hf9.of ((f_brought pages 0 24).toNat - (k + 1)) _ _ (by omega) ⟨k + 1, (acc ++ [(List.replicate 4 (GT.dflt : Int))]), q22, F23, _, _, _, rfl, ?_, ?_, S.z, o24⟩
  ·exact oz
  ·clear S; (rw [hacc]; exact (repl_next rfl).symm)
 refine S.gr 13 .nil [slv acc.length q5.1] fun ac w β S => ?_
 exact ret1_of S (show (List.replicate (f_brought pages 0 24).toNat (List.replicate 4 (0 : Int))) = acc by clear S; (rw [hacc, show k = (f_brought pages 0 24).toNat by omega])) rfl o7

theorem c_impl_NoSlot (w0 : World)  : Calls Try.prog 57 [].toArray w0 (fun e w' => e = .returned (GT.val (⟨-1, 0⟩ : TSlot) ()) ∧ Chg NoB w0 w') := by
 refine Calls.run NoB Try.func57 ?_
 intro ac β S
 exact S.gf 12 (.cons (Q_sem (s := Instr.build 54 [(0, I (-1))].toArray) (v := .agg [I (-1), I 0].toArray) (fun w => by kernel_rfl)) .nil) [GT.val (⟨(-1), 0⟩ : TSlot) ()] (retV (p := ()) (by clear S; first | rfl | (simp [id, *]; done) | (simp [id, *]; omega) | (simp_all [id]; done) | (simp_all [id]; omega)))

theorem c_math_bits_Mul64 (w0 : World) (x : Int) (y : Int) (pre0 : x = 1) (pre1 : 0 ≤ y) (pre2 : y ≤ 24) : Calls Try.prog 136 [.int .u64 x, .int .u64 y].toArray w0 (fun e w' => e = .returned (.tuple #[.int .u64 0, .int .u64 y]) ∧ Chg NoB w0 w') := by
 refine Calls.run NoB Try.func136 ?_
 intro ac β S
 exact S.gf 99 (.cons (Q_uand (x := x) (y := 4294967295)) (.cons (Q_ushr (yk := .u64) (x := x) (y := 32) (by omega)) (.cons (Q_uand (x := y) (y := 4294967295)) (.cons (Q_ushr (yk := .u64) (x := y) (y := 32) (by omega)) (.cons (Q_umul (x := (uand x 4294967295)) (y := (uand y 4294967295))) (.cons (Q_umul (x := (ushr x 32)) (y := (uand y 4294967295))) (.cons (Q_ushr (yk := .u64) (x := (umul (uand x 4294967295) (uand y 4294967295))) (y := 32) (by omega)) (.cons (Q_uadd (x := (umul (ushr x 32) (uand y 4294967295))) (y := (ushr (umul (uand x 4294967295) (uand y 4294967295)) 32))) (.cons (Q_uand (x := (uadd (umul (ushr x 32) (uand y 4294967295)) (ushr (umul (uand x 4294967295) (uand y 4294967295)) 32))) (y := 4294967295)) (.cons (Q_ushr (yk := .u64) (x := (uadd (umul (ushr x 32) (uand y 4294967295)) (ushr (umul (uand x 4294967295) (uand y 4294967295)) 32))) (y := 32) (by omega)) (.cons (Q_umul (x := (uand x 4294967295)) (y := (ushr y 32))) (.cons (Q_uadd (x := (uand (uadd (umul (ushr x 32) (uand y 4294967295)) (ushr (umul (uand x 4294967295) (uand y 4294967295)) 32)) 4294967295)) (y := (umul (uand x 4294967295) (ushr y 32)))) (.cons (Q_umul (x := (ushr x 32)) (y := (ushr y 32))) (.cons (Q_uadd (x := (umul (ushr x 32) (ushr y 32))) (y := (ushr (uadd (umul (ushr x 32) (uand y 4294967295)) (ushr (umul (uand x 4294967295) (uand y 4294967295)) 32)) 32))) (.cons (Q_ushr (yk := .u64) (x := (uadd (uand (uadd (umul (ushr x 32) (uand y 4294967295)) (ushr (umul (uand x 4294967295) (uand y 4294967295)) 32)) 4294967295) (umul (uand x 4294967295) (ushr y 32)))) (y := 32) (by omega)) (.cons (Q_uadd (x := (uadd (umul (ushr x 32) (ushr y 32)) (ushr (uadd (umul (ushr x 32) (uand y 4294967295)) (ushr (umul (uand x 4294967295) (uand y 4294967295)) 32)) 32))) (y := (ushr (uadd (uand (uadd (umul (ushr x 32) (uand y 4294967295)) (ushr (umul (uand x 4294967295) (uand y 4294967295)) 32)) 4294967295) (umul (uand x 4294967295) (ushr y 32))) 32))) (.cons (Q_umul (x := x) (y := y)) .nil))))))))))))))))) [.int .u64 (uadd (uadd (umul (ushr x 32) (ushr y 32)) (ushr (uadd (umul (ushr x 32) (uand y 4294967295)) (ushr (umul (uand x 4294967295) (uand y 4294967295)) 32)) 32)) (ushr (uadd (uand (uadd (umul (ushr x 32) (uand y 4294967295)) (ushr (umul (uand x 4294967295) (uand y 4294967295)) 32)) 4294967295) (umul (uand x 4294967295) (ushr y 32))) 32)), .int .u64 (umul x y)] (ret2v (congrArg (Value.int .u64) (show (uadd (uadd (umul (ushr x 32) (ushr y 32)) (ushr (uadd (umul (ushr x 32) (uand y 4294967295)) (ushr (umul (uand x 4294967295) (uand y 4294967295)) 32)) 32)) (ushr (uadd (uand (uadd (umul (ushr x 32) (uand y 4294967295)) (ushr (umul (uand x 4294967295) (uand y 4294967295)) 32)) 4294967295) (umul (uand x 4294967295) (ushr y 32))) 32)) = 0 by clear S; (subst pre0; exact mulHi pre1 pre2))) (congrArg (Value.int .u64) (show (umul x y) = y by clear S; (subst pre0; exact mulLo pre1 pre2))))

theorem c_math_bits_Mul (w0 : World) (x : Int) (y : Int) (pre0 : x = 1) (pre1 : 0 ≤ y) (pre2 : y ≤ 24) : Calls Try.prog 119 [.int .u64 x, .int .u64 y].toArray w0 (fun e w' => e = .returned (.tuple #[.int .u64 0, .int .u64 y]) ∧ Chg NoB w0 w') := by
 refine Calls.run NoB Try.func119 ?_
 intro ac β S
 exact S.gf 31 (.cons (Q_call fun w hw => c_math_bits_Mul64 w x y (by omega) (by omega) (by omega)) .nil) [.int .u64 0, .int .u64 y] (ret2v (congrArg (Value.int .u64) (show 0 = 0 by clear S; rfl)) (congrArg (Value.int .u64) (show y = y by clear S; rfl)))

theorem c_slices_Repeat___impl_Slot_impl_Slot_ (w0 : World) (x : List TSlot) (px : LP TSlot) (hx : RD w0 x px) (count : Nat) (pre0 : x.length = 1) (pre1 : count ≤ 24) : Calls Try.prog 96 [slv x.length px.1, I (count : Int)].toArray w0 (Ret1 NoB w0 ((List.replicate count (el x 0)) : List TSlot)) := by
 refine Calls.run NoB Try.func96 ?_
 intro ac β S
 have hlex : x.length ≤ 4194304 := LRd.le hx
 refine S.gd 12 .nil (decide ((count : Int) < 0)) (fun ac w β h1 g2 S => ?_) (fun ac w β h1 g2 S => ?_)
 ·exfalso; clear S; omega
 refine S.gd 29 (.cons (Q_convu (s := 3) (d := 139) (x := (x.length : Int)) Try.underlying3 Try.underlying139 (by omega) (by omega)) (.cons (Q_convu (s := 3) (d := 139) (x := (count : Int)) Try.underlying3 Try.underlying139 (by omega) (by omega)) (.cons (Q_call fun w hw => c_math_bits_Mul w (x.length : Int) (count : Int) (by omega) (by omega) (by omega)) .nil))) (decide ((count : Int) > 9223372036854775807)) (fun ac w β h3 g4 S => ?_) (fun ac w β h3 g4 S => ?_)
 ·exfalso; clear S; omega
 refine S.go 7 (.cons (Q_convi (s := 139) (d := 3) (x := (count : Int)) Try.underlying139 Try.underlying3 (by omega) (by omega)) .nil) fun ac w β S => S.Mk (α := TSlot) (m := count) (by' := 16) (d := 30) (by omega) (show count ≤ 4194304 by omega) fun ac w N q5 F6 S up o7 d8 => ?_
 clear up d8
 have l11 : count = (List.replicate count (GT.dflt : TSlot)).length := (by simp)
 refine S.go 7 .nil fun ac w β S => S.C0 (d := 33) o7 (S.arg hx) (fun _ _ _ _ _ h => h) count x.length (by simp) rfl fun ac w N p9 S up o10 => ?_
 clear up o7
 have l12 : ((List.replicate count (GT.dflt : TSlot)).take 0 ++ x.take (min x.length count : Nat) ++ (List.replicate count (GT.dflt : TSlot)).drop (0 + (min x.length count : Nat))).length = (List.replicate count (GT.dflt : TSlot)).length := cpy_len (by omega) (by omega)
 refine S.go 5 .nil fun ac w β S => ?_
 refine lp (fun mm ac w => ∃ (n : Nat) (acc : List TSlot) (q13 : _) (F14 : _) (u : _) (N : _) (β : _), mm = count - n ∧ (n ≤ count) ∧ (acc.length = count) ∧ (0 < count → 0 < n) ∧ (acc.take n = List.replicate n (el x 0)) ∧ St Try.prog Try.f96.ntmps w0 NoB u N β ⟨[(7, .v (slv count q13.1)), (8, .v (I (n : Int)))], []⟩ ac w ∧ Ow w0 NoB u N F14 acc q13) _ ⟨(min x.length count : Nat), ((List.replicate count (GT.dflt : TSlot)).take 0 ++ x.take (min x.length count : Nat) ++ (List.replicate count (GT.dflt : TSlot)).drop (0 + (min x.length count : Nat))), ((q5.1, p9) : LP TSlot), F6, _, _, _, rfl, (by omega), (by (simp; omega)), (by omega), (by (exact rep_first pre0 (by simp))), S.z, o10⟩ ?_
 clear S o10
 rintro f16 mm hf17 ac w ⟨n, acc, q13, F14, u, N, β, rfl, hn, hl, h1, ht, S, o15⟩
 refine S.rs fun S => ?_
 refine S.gd 9 .nil (decide ((n : Int) < (count : Int))) (fun ac w β h18 g19 S => ?_) (fun ac w β h18 g19 S => ?_)
 ·refine S.go 4 .nil fun ac w β S => ?_
  refine drw ?_
  let σ22 : Sy := ⟨[(7, .v (slv count q13.1)), (8, .v (I (n : Int))), (37, .v (B true))], []⟩
  obtain ⟨u0, N0, β0, S, o15⟩ : ∃ u0 N0 β0, St Try.prog Try.f96.ntmps w0 NoB u0 N0 β0 σ22 ac w ∧ Ow w0 NoB u0 N0 F14 acc q13 := ⟨_, _, _, S.z, o15⟩
  have l23 : ((acc.drop n).take (acc.length - n)).length = acc.length - n := by first | (simp; done) | (simp; omega)
  have l24 : (acc.take n).length = n - 0 := by first | (simp; done) | (simp; omega)
  refine wp_region_cut (fun ac w => ∃ q30 F31 u N β, St Try.prog Try.f96.ntmps w0 NoB u N β (σ22.dl [37] [(7, .v (slv count q30.1)), (8, .v (I ((n : Int) + ((min n (acc.length - n : Nat) : Nat) : Int))))] 0 []) ac w ∧ Ow w0 NoB u N F31 (acc.take n ++ (acc.take n).take (min n (acc.length - n : Nat) : Nat) ++ acc.drop (n + (min n (acc.length - n : Nat) : Nat))) q30) ?_ ?_
  ·refine S.draw0 (f := 10) 7 (by kernel_rfl) (by kernel_rfl) fun w S => ?_
   refine S.hq 1 [3, 1] [] [(39, .v (slv count q13.1))] .nil fun ac S => ?_
   refine S.hq 2 [3, 2] [] [(40, .v (I (n : Int)))] .nil fun ac S => ?_
   refine S.hq 3 [3] [] [(41, .v (slv (acc.length - n : Nat) (q13.1.sl n 2)))] (.cons (Q_slice o15.rn (l := count) (a := n) (b := acc.length) (by omega) (.inr rfl) (.inl ⟨rfl, rfl⟩) (by omega) (by omega) Try.underlying37 (by kernel_rfl)) .nil) fun ac S => ?_
   refine S.hq 4 [6, 4] [] [(42, .v (slv count q13.1))] .nil fun ac S => ?_
   refine S.hq 5 [6, 5] [] [(43, .v (I (n : Int)))] .nil fun ac S => ?_
   refine S.hq 6 [6] [] [(44, .v (slv n (q13.1.sl 0 2)))] (.cons (Q_slice o15.rn (l := count) (a := 0) (b := n) (by omega) (.inl ⟨rfl, rfl⟩) (.inr rfl) (by omega) (by omega) Try.underlying37 (by kernel_rfl)) .nil) fun ac S => ?_
   refine WD.nameW fun W hW => ?_
   refine WD.castW (l' := mkL 10 [1, 2, 3, 4, 5, 6]) (by kernel_rfl) ?_
   have hK32 ac w q30 F31 u N β (S : St Try.prog Try.f96.ntmps w0 NoB u N β (σ22.dl [37] [(7, .v (slv count q30.1)), (8, .v (I ((n : Int) + ((min n (acc.length - n : Nat) : Nat) : Int))))] 0 []) ac w) (o29 : Ow w0 NoB u N F31 (acc.take n ++ (acc.take n).take (min n (acc.length - n : Nat) : Nat) ++ acc.drop (n + (min n (acc.length - n : Nat) : Nat))) q30) : W 0 (mkL 10 [0, 1, 2, 3, 4, 5, 6, 7, 8, 9]) ac w := by
    exact od hW ⟨rfl, q30, F31, _, _, _, S.z, o29⟩
   have hK33 ac w q30 F31 u N β (S : St Try.prog Try.f96.ntmps w0 NoB u N β (σ22.dl [37] [(7, .v (slv count q30.1)), (38, .v (I (n : Int))), (45, .v (I ((min n (acc.length - n : Nat) : Nat) : Int)))] 0 []) ac w) (o29 : Ow w0 NoB u N F31 (acc.take n ++ (acc.take n).take (min n (acc.length - n : Nat) : Nat) ++ acc.drop (n + (min n (acc.length - n : Nat) : Nat))) q30) : W 2 (mkL 10 [0, 1, 2, 3, 4, 5, 6, 7]) ac w := by
    exact ox1 hW 8 (S.wl hW [9] (.cons (qp (n : Int) ((min n (acc.length - n : Nat) : Nat) : Int)) .nil) fun _ _ _ S => hK32 _ _ q30 F31 _ _ _ S o29)
   have hK34 ac w u N β (S : St Try.prog Try.f96.ntmps w0 NoB u N β (σ22.dl [37] [(38, .v (I (n : Int))), (41, .v (slv (acc.length - n : Nat) (q13.1.sl n 2))), (44, .v (slv n (q13.1.sl 0 2)))] 0 []) ac w) (o15 : Ow w0 NoB u N F14 acc q13) (hNN : NN N0 u0 N u) (hBB : BB σ22.bx.length β0 β) : W 3 (mkL 10 [0, 1, 2, 3, 4, 5, 6]) ac w := by
    refine ox1 hW 7 ?_
    have l37 : count = acc.length := (by omega)
    refine id (S.copyL (d := 45) o15 (show GT.rd KK _ _ (acc.take n) ((q13.1.sl 0 2, fun i => q13.2 (0 + i)) : LP TSlot) from rd_sl o15.rn (a := 0) (b := n) (by omega) (by omega)) (fun _ _ _ _ _ h => h) n (acc.length - n : Nat) n (by omega) (by omega) (by simp; omega) (by kernel_rfl) fun ac w N p35 S up o36 => ?_)
    refine WD.sl fun hC => ?_
    clear up o15
    have l38 : (acc.take n ++ (acc.take n).take (min n (acc.length - n : Nat) : Nat) ++ acc.drop (n + (min n (acc.length - n : Nat) : Nat))).length = acc.length := cpy_len (by omega) (by omega)
    exact S.wh hW [] hC fun _ S => hK33 _ _ ((q13.1, p35) : LP TSlot) F14 _ _ _ S o36
   rw [hW]
   exact S.wh hW [0] (fun _ => S.rcx) fun _ S => hK34 _ _ _ _ _ S o15 (fun _ h => ⟨h, rfl⟩) (fun _ _ => rfl)
  clear S o15
  rintro ac w ⟨q30, F31, u, N, β, S, o29⟩
  refine S.ex fun S => ?_
  refine S.ge 1 .nil f16 fun ac w β S => hf17.of (count - (n + (min n (acc.length - n) : Nat))) _ _ (by omega) ⟨(n + (min n (acc.length - n) : Nat)), (acc.take n ++ (acc.take n).take (min n (acc.length - n : Nat) : Nat) ++ acc.drop (n + (min n (acc.length - n : Nat) : Nat))), q30, F31, _, _, _, rfl, ?_, ?_, ?_, ?_, S.z, o29⟩
  ·clear S; omega
  ·clear S; (rw [cpy_len (by omega) (by omega)]; exact hl)
  ·clear S; omega
  ·clear S; exact rep_step (by omega) (by omega) ht
 refine S.gr 13 .nil [slv count q13.1] fun ac w β S => ?_
 exact ret1_of S (show (List.replicate count (el x 0)) = acc by clear S; exact (rep_end hl (by omega) hn ht).symm) (by rw [show count = acc.length from (by omega)]; rfl) o15

theorem c_impl_TableNew (w0 : World) (n : Int) : Calls Try.prog 63 [I n].toArray w0 (Ret1 NoB w0 ((List.replicate (f_brought n 0 24).toNat (⟨-1, 0⟩ : TSlot)) : List TSlot)) := by
 refine Calls.run NoB Try.func63 ?_
 intro ac β S
 have hb := brought_bd n
 refine S.go 8 (.cons (Q_call fun w hw => c_impl_NoSlot w ) .nil) fun ac w β S => S.B1 (α := TSlot) (x := (⟨-1, 0⟩ : TSlot)) (p := ()) (F := NoB) (show RSlot ⟨-1, 0⟩ from ⟨⟨by decide, by decide⟩, ⟨by decide, by decide⟩⟩) (fun b h => False.elim h) (fun b h => False.elim h) (d := 4) fun ac w N q1 F2 S up o3 d4 => ?_
 clear up d4
 refine S.go 2 (.cons (Q_call fun w hw => c_impl_Brought w n 0 24 (by omega) (by omega)) .nil) fun ac w β S => S.K1 (r := (List.replicate (f_brought n 0 24).toNat (el ([((⟨-1, 0⟩ : TSlot))]) 0))) (d := 7) (c_slices_Repeat___impl_Slot_impl_Slot_ w ([((⟨-1, 0⟩ : TSlot))]) q1 (S.rd o3.rn) (f_brought n 0 24).toNat (by first | omega | rfl) (by first | omega | rfl)) fun ac w N q5 F6 S up o7 d8 => ?_
 have d9 := Disj.w d8 o3.sub
 replace o3 := o3.up up
 clear up d8
 refine S.gr 4 .nil [slv (List.replicate (f_brought n 0 24).toNat (el ([((⟨-1, 0⟩ : TSlot))]) 0)).length q5.1] fun ac w β S => ?_
 exact ret1_of S (show (List.replicate (f_brought n 0 24).toNat (⟨-1, 0⟩ : TSlot)) = (List.replicate (f_brought n 0 24).toNat (el ([((⟨-1, 0⟩ : TSlot))]) 0)) by clear S; rfl) rfl o7

theorem c_impl_copyProg (w0 : World) (l : List TIns) (pl : LP TIns) (hl : RD w0 l pl) : Calls Try.prog 112 [slv l.length pl.1].toArray w0 (Ret1 NoB w0 (l : List TIns)) := by
 refine Calls.run NoB Try.func112 ?_
 intro ac β S
 have hlel : l.length ≤ 4194304 := LRd.le hl
 refine S.go 7 .nil fun ac w β S => S.B0 (α := TIns) (d := 3) fun ac w N q1 F2 S up o3 d4 => ?_
 clear up d4
 have b9 : l.length ≤ 4194304 := LRd.le (S.arg hl)
 refine S.go 1 .nil fun ac w β S => S.AF0 (α := TIns) o3 (S.arg hl) (fun _ _ h => h) (by' := 16) (d := 5) (lx := 0) (ly := l.length) rfl fun ac w N q5 F6 S up o7 d8 => ?_
 clear up d8
 refine S.gr 4 .nil [slv l.length q5.1] fun ac w β S => ?_
 exact ret1_of S (show l = l by clear S; simp) rfl o7

theorem c_impl_GuestNew (w0 : World) (p : List TIns) (pp : LP TIns) (hp : RD w0 p pp) : Calls Try.prog 83 [slv p.length pp.1].toArray w0 (Ret1 NoB w0 (f_guestNew p : TGuest)) := by
 refine Calls.run NoB Try.func83 ?_
 intro ac β S
 have hlep : p.length ≤ 4194304 := LRd.le hp
 refine S.go 8 .nil fun ac w β S => S.K1 (r := p) (d := 4) (c_impl_copyProg w p pp (S.rd (S.arg hp))) fun ac w N q1 F2 S up o3 d4 => ?_
 clear up d4
 refine S.K1 (r := (List.replicate (f_brought 4 0 24).toNat (⟨-1, 0⟩ : TSlot))) (d := 5) (c_impl_TableNew w 4) fun ac w N q5 F6 S up o7 d8 => ?_
 have d9 := Disj.w d8 o3.sub
 replace o3 := o3.up up
 clear up d8
 refine S.K1 (r := (List.replicate (f_brought 4 0 24).toNat (⟨-1, 0⟩ : TSlot))) (d := 6) (c_impl_TableNew w 4) fun ac w N q10 F11 S up o12 d13 => ?_
 have d14 := Disj.w d13 o3.sub
 have d15 := Disj.w d13 o7.sub
 replace o3 := o3.up up
 replace o7 := o7.up up
 clear up d13
 refine S.gr 5 (.cons (Q_sem (s := Instr.build 115 [(0, slv p.length q1.1), (3, slv (List.replicate (f_brought 4 0 24).toNat (⟨-1, 0⟩ : TSlot)).length q5.1), (4, slv (List.replicate (f_brought 4 0 24).toNat (⟨-1, 0⟩ : TSlot)).length q10.1)].toArray) (v := .agg [slv p.length q1.1, I 0, I 0, slv (List.replicate (f_brought 4 0 24).toNat (⟨-1, 0⟩ : TSlot)).length q5.1, slv (List.replicate (f_brought 4 0 24).toNat (⟨-1, 0⟩ : TSlot)).length q10.1, I 0, I 0, B false, I 0, I 0, I 0, B false, I 0, B false, slv ([] : List Int).length (GT.pdflt (α := List Int)).1].toArray) (fun w => by kernel_rfl)) .nil) [GT.val (⟨p, 0, 0, (List.replicate (f_brought 4 0 24).toNat (⟨-1, 0⟩ : TSlot)), (List.replicate (f_brought 4 0 24).toNat (⟨-1, 0⟩ : TSlot)), (⟨0, 0, false⟩ : TCtl), 0, (⟨0, 0, false, 0⟩ : TExit), false, ([] : List Int)⟩ : TGuest) (⟨q1, q5, q10, (GT.pdflt (α := List Int))⟩ : PGuest)] fun ac w β S => ?_
 have o16 := S.nilOw (α := Int)
 have o17 := ow_Guest (x := (⟨p, 0, 0, (List.replicate (f_brought 4 0 24).toNat (⟨-1, 0⟩ : TSlot)), (List.replicate (f_brought 4 0 24).toNat (⟨-1, 0⟩ : TSlot)), (⟨0, 0, false⟩ : TCtl), 0, (⟨0, 0, false, 0⟩ : TExit), false, ([] : List Int)⟩ : TGuest)) (p := (⟨q1, q5, q10, (GT.pdflt (α := List Int))⟩ : PGuest)) o3 o7 o12 o16 d9 d14 (fun b _ h => False.elim h) d15 (fun b _ h => False.elim h) (fun b _ h => False.elim h) (show In64 0 from ⟨by decide, by decide⟩) (show In64 0 from ⟨by decide, by decide⟩) (show RCtl (⟨0, 0, false⟩ : TCtl) from ⟨(show In64 0 from ⟨by decide, by decide⟩), (show In64 0 from ⟨by decide, by decide⟩)⟩) (show In64 0 from ⟨by decide, by decide⟩) (show RExit (⟨0, 0, false, 0⟩ : TExit) from ⟨(show In64 0 from ⟨by decide, by decide⟩), (show In64 0 from ⟨by decide, by decide⟩), (show In64 0 from ⟨by decide, by decide⟩)⟩)
 exact ret1_of S (show f_guestNew p = (⟨p, 0, 0, (List.replicate (f_brought 4 0 24).toNat (⟨-1, 0⟩ : TSlot)), (List.replicate (f_brought 4 0 24).toNat (⟨-1, 0⟩ : TSlot)), (⟨0, 0, false⟩ : TCtl), 0, (⟨0, 0, false, 0⟩ : TExit), false, ([] : List Int)⟩ : TGuest) by clear S; (first | rfl | (simp [f_guestNew]; rfl))) rfl o17

theorem c_impl_KeptNew (w0 : World) (n : Int) : Calls Try.prog 31 [I n].toArray w0 (Ret1 NoB w0 (f_keptNew n : TKept)) := by
 refine Calls.run NoB Try.func31 ?_
 intro ac β S
 have hb := brought_bd n
 refine S.go 6 .nil fun ac w β S => ?_
 refine drw ?_
 let σ1 : Sy := ⟨[(0, .v (I n)), (2, .p 0 0)], [Zc TKept]⟩
 obtain ⟨u0, N0, β0, S⟩ : ∃ u0 N0 β0, St Try.prog Try.f31.ntmps w0 NoB u0 N0 β0 σ1 ac w := ⟨_, _, _, S.z⟩
 refine wp_region_cut (fun ac w => ∃ q37 F38 q40 F41 u N β, St Try.prog Try.f31.ntmps w0 NoB u N β (σ1.dl [0] [] 1 [(0, [slv (List.replicate (f_brought n 0 24).toNat (GT.dflt : Bool)).length q37.1, slv (List.replicate (f_brought n 0 24).toNat (⟨-1, 0⟩ : TSlot)).length q40.1])]) ac w ∧ Ow w0 NoB u N F38 (List.replicate (f_brought n 0 24).toNat (GT.dflt : Bool)) q37 ∧ Ow w0 NoB u N F41 (List.replicate (f_brought n 0 24).toNat (⟨-1, 0⟩ : TSlot)) q40 ∧ Disj F38 F41) ?_ ?_
 ·refine S.draw0 (f := 7) 6 (by kernel_rfl) (by kernel_rfl) fun w S => ?_
  refine S.hq 0 [0] [] [(3, .v (I n))] .nil fun ac S => ?_
  refine S.hq 3 [3] [] [(6, .v (I n))] .nil fun ac S => ?_
  refine WD.nameW fun W hW => ?_
  refine WD.castW (l' := mkL 7 [0, 3]) (by kernel_rfl) ?_
  have hK42 ac w q37 F38 q40 F41 u N β (S : St Try.prog Try.f31.ntmps w0 NoB u N β (σ1.dl [0] [] 1 [(0, [slv (List.replicate (f_brought n 0 24).toNat (GT.dflt : Bool)).length q37.1, slv (List.replicate (f_brought n 0 24).toNat (⟨-1, 0⟩ : TSlot)).length q40.1])]) ac w) (o36 : Ow w0 NoB u N F38 (List.replicate (f_brought n 0 24).toNat (GT.dflt : Bool)) q37) (o39 : Ow w0 NoB u N F41 (List.replicate (f_brought n 0 24).toNat (⟨-1, 0⟩ : TSlot)) q40) (d43 : Disj F38 F41) : W 0 (mkL 7 [0, 1, 2, 3, 4, 5, 6]) ac w := by
   exact od hW ⟨rfl, q37, F38, q40, F41, _, _, _, S.z, o36, o39, d43⟩
  have hK44 ac w q31 F32 q34 F35 u N β (S : St Try.prog Try.f31.ntmps w0 NoB u N β (σ1.dl [0] [(8, .v (GT.val (⟨(List.replicate (f_brought n 0 24).toNat (GT.dflt : Bool)), (List.replicate (f_brought n 0 24).toNat (⟨-1, 0⟩ : TSlot))⟩ : TKept) (⟨q31, q34⟩ : PKept)))] 1 []) ac w) (o30 : Ow w0 NoB u N F32 (List.replicate (f_brought n 0 24).toNat (GT.dflt : Bool)) q31) (o33 : Ow w0 NoB u N F35 (List.replicate (f_brought n 0 24).toNat (⟨-1, 0⟩ : TSlot)) q34) (d45 : Disj F32 F35) (hNN : NN N0 u0 N u) (hBB : BB σ1.bx.length β0 β) : W 1 (mkL 7 [0, 1, 2, 3, 4, 5]) ac w := by
   exact ox1 hW 6 (S.wl hW [] .nil fun _ _ _ S => hK42 _ _ q31 F32 q34 F35 _ _ _ S o30 o33 d45)
  have hK46 ac w q8 F9 q16 F17 u N β (S : St Try.prog Try.f31.ntmps w0 NoB u N β (σ1.dl [0] [(5, .v (slv (List.replicate (f_brought n 0 24).toNat (GT.dflt : Bool)).length q8.1)), (7, .v (slv (List.replicate (f_brought n 0 24).toNat (⟨-1, 0⟩ : TSlot)).length q16.1))] 1 []) ac w) (o7 : Ow w0 NoB u N F9 (List.replicate (f_brought n 0 24).toNat (GT.dflt : Bool)) q8) (o15 : Ow w0 NoB u N F17 (List.replicate (f_brought n 0 24).toNat (⟨-1, 0⟩ : TSlot)) q16) (d47 : Disj F9 F17) (hNN : NN N0 u0 N u) (hBB : BB σ1.bx.length β0 β) : W 2 (mkL 7 [0, 1, 2, 3, 4]) ac w := by
   exact ox1 hW 5 (S.wq hW hNN hBB [] (.cons (Q_sem (s := Instr.build 45 [(0, slv (List.replicate (f_brought n 0 24).toNat (GT.dflt : Bool)).length q8.1), (1, slv (List.replicate (f_brought n 0 24).toNat (⟨-1, 0⟩ : TSlot)).length q16.1)].toArray) (v := .agg [slv (List.replicate (f_brought n 0 24).toNat (GT.dflt : Bool)).length q8.1, slv (List.replicate (f_brought n 0 24).toNat (⟨-1, 0⟩ : TSlot)).length q16.1].toArray) (fun w => by kernel_rfl)) .nil) fun _ _ _ S hB => hK44 _ _ q8 F9 q16 F17 _ _ _ S o7 o15 d47 hNN hB)
  have hK48 ac w q8 F9 u N β (S : St Try.prog Try.f31.ntmps w0 NoB u N β (σ1.dl [0] [(5, .v (slv (List.replicate (f_brought n 0 24).toNat (GT.dflt : Bool)).length q8.1)), (6, .v (I n))] 1 []) ac w) (o7 : Ow w0 NoB u N F9 (List.replicate (f_brought n 0 24).toNat (GT.dflt : Bool)) q8) (hNN : NN N0 u0 N u) (hBB : BB σ1.bx.length β0 β) : W 3 (mkL 7 [0, 1, 2, 3]) ac w := by
   refine ox1 hW 4 ?_
   refine id (S.k1 7 (c_impl_TableNew w n) fun ac w N q49 F50 S up o51 d52 => ?_)
   have hb53 := fun b h => (⟨(up b (hNN b h).1).1, (up b (hNN b h).1).2.trans (hNN b h).2⟩ : _ ∧ _)
   refine WD.sc S hb53 hBB fun hC => ?_
   have d54 := Disj.w d52 o7.sub
   replace o7 := o7.up up
   clear up d52
   exact S.wh hW [] hC fun _ S => hK46 _ _ q8 F9 q49 F50 _ _ _ S o7 o51 d54 hb53 hBB
  have hK55 ac w q16 F17 u N β (S : St Try.prog Try.f31.ntmps w0 NoB u N β (σ1.dl [0] [(4, .v (I ((f_brought n 0 24).toNat : Int))), (7, .v (slv (List.replicate (f_brought n 0 24).toNat (⟨-1, 0⟩ : TSlot)).length q16.1))] 1 []) ac w) (o15 : Ow w0 NoB u N F17 (List.replicate (f_brought n 0 24).toNat (⟨-1, 0⟩ : TSlot)) q16) (hNN : NN N0 u0 N u) (hBB : BB σ1.bx.length β0 β) : W 3 (mkL 7 [0, 1, 3, 4]) ac w := by
   refine ox1 hW 2 ?_
   refine id (S.make (α := Bool) (m := (f_brought n 0 24).toNat) (by' := 1) (d := 5) (by kernel_rfl) (by omega) (show (f_brought n 0 24).toNat ≤ 4194304 by omega) fun ac w N q56 F57 S up o58 d59 => ?_)
   have hb60 := fun b h => (⟨(up b (hNN b h).1).1, (up b (hNN b h).1).2.trans (hNN b h).2⟩ : _ ∧ _)
   refine WD.sc S hb60 hBB fun hC => ?_
   have d61 := Disj.w d59 o15.sub
   replace o15 := o15.up up
   clear up d59
   replace S := S.z (σ' := ⟨[(2, .p 0 0), (4, .v (I ((f_brought n 0 24).toNat : Int))), (5, .v (slv (f_brought n 0 24).toNat q56.1)), (7, .v (slv (List.replicate (f_brought n 0 24).toNat (⟨-1, 0⟩ : TSlot)).length q16.1))], [Zc TKept]⟩)
   replace S := S.cast (σ' := ⟨[(2, .p 0 0), (4, .v (I ((f_brought n 0 24).toNat : Int))), (5, .v (slv (List.replicate (f_brought n 0 24).toNat (GT.dflt : Bool)).length q56.1)), (7, .v (slv (List.replicate (f_brought n 0 24).toNat (⟨-1, 0⟩ : TSlot)).length q16.1))], [Zc TKept]⟩) (by rw [show (List.replicate (f_brought n 0 24).toNat (GT.dflt : Bool)).length = (f_brought n 0 24).toNat from List.length_replicate])
   exact S.wh hW [] hC fun _ S => hK46 _ _ q56 F57 q16 F17 _ _ _ S o58 o15 (Disj.symm d61) hb60 hBB
  have hK62 ac w u N β (S : St Try.prog Try.f31.ntmps w0 NoB u N β (σ1.dl [0] [(4, .v (I ((f_brought n 0 24).toNat : Int))), (6, .v (I n))] 1 []) ac w) (hNN : NN N0 u0 N u) (hBB : BB σ1.bx.length β0 β) : W 4 (mkL 7 [0, 1, 3]) ac w := by
   refine ox2 hW 2 4 ?_ ?_
   ·refine id (S.make (α := Bool) (m := (f_brought n 0 24).toNat) (by' := 1) (d := 5) (by kernel_rfl) (by omega) (show (f_brought n 0 24).toNat ≤ 4194304 by omega) fun ac w N q63 F64 S up o65 d66 => ?_)
    have hb67 := fun b h => (⟨(up b (hNN b h).1).1, (up b (hNN b h).1).2.trans (hNN b h).2⟩ : _ ∧ _)
    refine WD.sc S hb67 hBB fun hC => ?_
    clear up d66
    replace S := S.z (σ' := ⟨[(2, .p 0 0), (4, .v (I ((f_brought n 0 24).toNat : Int))), (5, .v (slv (f_brought n 0 24).toNat q63.1)), (6, .v (I n))], [Zc TKept]⟩)
    replace S := S.cast (σ' := ⟨[(2, .p 0 0), (4, .v (I ((f_brought n 0 24).toNat : Int))), (5, .v (slv (List.replicate (f_brought n 0 24).toNat (GT.dflt : Bool)).length q63.1)), (6, .v (I n))], [Zc TKept]⟩) (by rw [show (List.replicate (f_brought n 0 24).toNat (GT.dflt : Bool)).length = (f_brought n 0 24).toNat from List.length_replicate])
    exact S.wh hW [] hC fun _ S => hK48 _ _ q63 F64 _ _ _ S o65 hb67 hBB
   ·refine id (S.k1 7 (c_impl_TableNew w n) fun ac w N q68 F69 S up o70 d71 => ?_)
    have hb72 := fun b h => (⟨(up b (hNN b h).1).1, (up b (hNN b h).1).2.trans (hNN b h).2⟩ : _ ∧ _)
    refine WD.sc S hb72 hBB fun hC => ?_
    clear up d71
    exact S.wh hW [] hC fun _ S => hK55 _ _ q68 F69 _ _ _ S o70 hb72 hBB
  have hNN : NN N0 u0 N0 u0 := fun b h => ⟨h, rfl⟩
  have hBB : BB σ1.bx.length β0 β0 := fun _ _ => rfl
  exact ox1 hW 1 (S.wq hW hNN hBB [] (.cons (Q_call fun w hw => c_impl_Brought w n 0 24 (by omega) (by omega)) .nil) fun _ _ _ S hB => hK62 _ _ _ _ _ S hNN hB)
 clear S
 rintro ac w ⟨q37, F38, q40, F41, u, N, β, S, o36, o39, d73⟩
 refine S.ex fun S => ?_
 refine S.gr 2 .nil [GT.val (⟨(List.replicate (f_brought n 0 24).toNat (GT.dflt : Bool)), (List.replicate (f_brought n 0 24).toNat (⟨-1, 0⟩ : TSlot))⟩ : TKept) (⟨q37, q40⟩ : PKept)] fun ac w β S => ?_
 have o74 := ow_Kept (x := (⟨(List.replicate (f_brought n 0 24).toNat (GT.dflt : Bool)), (List.replicate (f_brought n 0 24).toNat (⟨-1, 0⟩ : TSlot))⟩ : TKept)) (p := (⟨q37, q40⟩ : PKept)) o36 o39 d73 
 exact ret1_of S (show f_keptNew n = (⟨(List.replicate (f_brought n 0 24).toNat (GT.dflt : Bool)), (List.replicate (f_brought n 0 24).toNat (⟨-1, 0⟩ : TSlot))⟩ : TKept) by clear S; (first | rfl | (unfold f_keptNew; rw [List.length_replicate]; rfl))) rfl o74

theorem c_impl_MonNew (w0 : World) (progs : List (List TIns)) (pprogs : LP (List TIns)) (hprogs : RD w0 progs pprogs) : Calls Try.prog 43 [slv progs.length pprogs.1].toArray w0 (Ret1 NoB w0 (f_monNew progs : TMon)) := by
 refine Calls.run NoB Try.func43 ?_
 intro ac β S
 have hleprogs : progs.length ≤ 4194304 := LRd.le hprogs
 refine S.go 6 .nil fun ac w β S => ?_
 refine drw ?_
 let σ1 : Sy := ⟨[(0, .v (slv progs.length pprogs.1)), (2, .p 0 0)], [Zc TMon]⟩
 obtain ⟨u0, N0, β0, S⟩ : ∃ u0 N0 β0, St Try.prog Try.f43.ntmps w0 NoB u0 N0 β0 σ1 ac w := ⟨_, _, _, S.z⟩
 refine wp_region_cut (fun ac w => ∃ q111 F112 q108 F109 q105 F106 u N β, St Try.prog Try.f43.ntmps w0 NoB u N β (σ1.dl [] [(3, .p 1 0)] 2 [(1, [slv (List.replicate (f_brought 8 0 24).toNat (⟨-1, 0⟩ : TSlot)).length q105.1, slv (List.replicate (f_brought 8 0 24).toNat (List.replicate 4 (0 : Int))).length q108.1, slv 8 q111.1, slv ([] : List TGuest).length (GT.pdflt (α := List TGuest)).1, slv ([] : List Int).length (GT.pdflt (α := List Int)).1, I 0, I 0, slv ([] : List TKept).length (GT.pdflt (α := List TKept)).1, I 0])]) ac w ∧ Ow w0 NoB u N F112 (List.replicate 8 (GT.dflt : Bool)) q111 ∧ Ow w0 NoB u N F109 (List.replicate (f_brought 8 0 24).toNat (List.replicate 4 (0 : Int))) q108 ∧ Ow w0 NoB u N F106 (List.replicate (f_brought 8 0 24).toNat (⟨-1, 0⟩ : TSlot)) q105 ∧ Disj F112 F109 ∧ Disj F112 F106 ∧ Disj F109 F106) ?_ ?_
 ·refine S.draw0 (f := 6) 5 (by kernel_rfl) (by kernel_rfl) fun w S => ?_
  refine WD.nameW fun W hW => ?_
  refine WD.castW (l' := mkL 6 []) (by kernel_rfl) ?_
  have hK113 ac w q111 F112 q108 F109 q105 F106 u N β (S : St Try.prog Try.f43.ntmps w0 NoB u N β (σ1.dl [] [(3, .p 1 0)] 2 [(1, [slv (List.replicate (f_brought 8 0 24).toNat (⟨-1, 0⟩ : TSlot)).length q105.1, slv (List.replicate (f_brought 8 0 24).toNat (List.replicate 4 (0 : Int))).length q108.1, slv 8 q111.1, slv ([] : List TGuest).length (GT.pdflt (α := List TGuest)).1, slv ([] : List Int).length (GT.pdflt (α := List Int)).1, I 0, I 0, slv ([] : List TKept).length (GT.pdflt (α := List TKept)).1, I 0])]) ac w) (o110 : Ow w0 NoB u N F112 (List.replicate 8 (GT.dflt : Bool)) q111) (o107 : Ow w0 NoB u N F109 (List.replicate (f_brought 8 0 24).toNat (List.replicate 4 (0 : Int))) q108) (o104 : Ow w0 NoB u N F106 (List.replicate (f_brought 8 0 24).toNat (⟨-1, 0⟩ : TSlot)) q105) (d114 : Disj F112 F109) (d115 : Disj F112 F106) (d116 : Disj F109 F106) : W 0 (mkL 6 [0, 1, 2, 3, 4, 5]) ac w := by
   exact od hW ⟨rfl, q111, F112, q108, F109, q105, F106, _, _, _, S.z, o110, o107, o104, d114, d115, d116⟩
  have hK117 ac w q88 F89 q85 F86 q82 F83 u N β (S : St Try.prog Try.f43.ntmps w0 NoB u N β (σ1.dl [] [(3, .p 1 0), (9, .v (GT.val (⟨(List.replicate (f_brought 8 0 24).toNat (⟨-1, 0⟩ : TSlot)), (List.replicate (f_brought 8 0 24).toNat (List.replicate 4 (0 : Int))), (List.replicate 8 (GT.dflt : Bool)), ([] : List TGuest), ([] : List Int), 0, 0, ([] : List TKept), 0⟩ : TMon) (⟨q82, q85, q88, (GT.pdflt (α := List TGuest)), (GT.pdflt (α := List Int)), (GT.pdflt (α := List TKept))⟩ : PMon)))] 2 [(1, Zc TMon)]) ac w) (o87 : Ow w0 NoB u N F89 (List.replicate 8 (GT.dflt : Bool)) q88) (o84 : Ow w0 NoB u N F86 (List.replicate (f_brought 8 0 24).toNat (List.replicate 4 (0 : Int))) q85) (o81 : Ow w0 NoB u N F83 (List.replicate (f_brought 8 0 24).toNat (⟨-1, 0⟩ : TSlot)) q82) (d118 : Disj F89 F86) (d119 : Disj F89 F83) (d120 : Disj F86 F83) (hNN : NN N0 u0 N u) (hBB : BB σ1.bx.length β0 β) : W 1 (mkL 6 [0, 1, 2, 3, 4]) ac w := by
   exact ox1 hW 5 (S.wl hW [] .nil fun _ _ _ S => hK113 _ _ q88 F89 q85 F86 q82 F83 _ _ _ S o87 o84 o81 d118 d119 d120)
  have hK121 ac w q88 F89 q85 F86 q82 F83 u N β (S : St Try.prog Try.f43.ntmps w0 NoB u N β (σ1.dl [] [(9, .v (GT.val (⟨(List.replicate (f_brought 8 0 24).toNat (⟨-1, 0⟩ : TSlot)), (List.replicate (f_brought 8 0 24).toNat (List.replicate 4 (0 : Int))), (List.replicate 8 (GT.dflt : Bool)), ([] : List TGuest), ([] : List Int), 0, 0, ([] : List TKept), 0⟩ : TMon) (⟨q82, q85, q88, (GT.pdflt (α := List TGuest)), (GT.pdflt (α := List Int)), (GT.pdflt (α := List TKept))⟩ : PMon)))] 1 []) ac w) (o87 : Ow w0 NoB u N F89 (List.replicate 8 (GT.dflt : Bool)) q88) (o84 : Ow w0 NoB u N F86 (List.replicate (f_brought 8 0 24).toNat (List.replicate 4 (0 : Int))) q85) (o81 : Ow w0 NoB u N F83 (List.replicate (f_brought 8 0 24).toNat (⟨-1, 0⟩ : TSlot)) q82) (d122 : Disj F89 F86) (d123 : Disj F89 F83) (d124 : Disj F86 F83) (hNN : NN N0 u0 N u) (hBB : BB σ1.bx.length β0 β) : W 2 (mkL 6 [0, 1, 2, 3]) ac w := by
   exact ox1 hW 4 (S.wq hW hNN hBB [] .nil fun _ _ _ S hB => hK117 _ _ q88 F89 q85 F86 q82 F83 _ _ _ S o87 o84 o81 d122 d123 d124 hNN hB)
  have hK125 ac w q8 F9 q25 F26 q16 F17 u N β (S : St Try.prog Try.f43.ntmps w0 NoB u N β (σ1.dl [] [(3, .p 1 0), (6, .v (slv (List.replicate (f_brought 8 0 24).toNat (⟨-1, 0⟩ : TSlot)).length q8.1)), (7, .v (slv (List.replicate (f_brought 8 0 24).toNat (List.replicate 4 (0 : Int))).length q25.1)), (8, .v (slv 8 q16.1))] 2 [(1, Zc TMon)]) ac w) (o7 : Ow w0 NoB u N F9 (List.replicate (f_brought 8 0 24).toNat (⟨-1, 0⟩ : TSlot)) q8) (o24 : Ow w0 NoB u N F26 (List.replicate (f_brought 8 0 24).toNat (List.replicate 4 (0 : Int))) q25) (o15 : Ow w0 NoB u N F17 (List.replicate 8 (GT.dflt : Bool)) q16) (d126 : Disj F9 F26) (d127 : Disj F9 F17) (d128 : Disj F26 F17) (hNN : NN N0 u0 N u) (hBB : BB σ1.bx.length β0 β) : W 2 (mkL 6 [0, 1, 2, 4]) ac w := by
   exact ox1 hW 3 (S.wq hW hNN hBB [] (.cons (Q_sem (s := Instr.build 42 [(0, slv (List.replicate (f_brought 8 0 24).toNat (⟨-1, 0⟩ : TSlot)).length q8.1), (1, slv (List.replicate (f_brought 8 0 24).toNat (List.replicate 4 (0 : Int))).length q25.1), (2, slv 8 q16.1)].toArray) (v := .agg [slv (List.replicate (f_brought 8 0 24).toNat (⟨-1, 0⟩ : TSlot)).length q8.1, slv (List.replicate (f_brought 8 0 24).toNat (List.replicate 4 (0 : Int))).length q25.1, slv 8 q16.1, slv ([] : List TGuest).length (GT.pdflt (α := List TGuest)).1, slv ([] : List Int).length (GT.pdflt (α := List Int)).1, I 0, I 0, slv ([] : List TKept).length (GT.pdflt (α := List TKept)).1, I 0].toArray) (fun w => by kernel_rfl)) .nil) fun _ _ _ S hB => hK117 _ _ q16 F17 q25 F26 q8 F9 _ _ _ S o15 o24 o7 (Disj.symm d128) (Disj.symm d127) (Disj.symm d126) hNN hB)
  have hK129 ac w q8 F9 q25 F26 q16 F17 u N β (S : St Try.prog Try.f43.ntmps w0 NoB u N β (σ1.dl [] [(6, .v (slv (List.replicate (f_brought 8 0 24).toNat (⟨-1, 0⟩ : TSlot)).length q8.1)), (7, .v (slv (List.replicate (f_brought 8 0 24).toNat (List.replicate 4 (0 : Int))).length q25.1)), (8, .v (slv 8 q16.1))] 1 []) ac w) (o7 : Ow w0 NoB u N F9 (List.replicate (f_brought 8 0 24).toNat (⟨-1, 0⟩ : TSlot)) q8) (o24 : Ow w0 NoB u N F26 (List.replicate (f_brought 8 0 24).toNat (List.replicate 4 (0 : Int))) q25) (o15 : Ow w0 NoB u N F17 (List.replicate 8 (GT.dflt : Bool)) q16) (d130 : Disj F9 F26) (d131 : Disj F9 F17) (d132 : Disj F26 F17) (hNN : NN N0 u0 N u) (hBB : BB σ1.bx.length β0 β) : W 3 (mkL 6 [0, 1, 2]) ac w := by
   exact ox2 hW 3 4 (S.wq hW hNN hBB [] (.cons (Q_sem (s := Instr.build 42 [(0, slv (List.replicate (f_brought 8 0 24).toNat (⟨-1, 0⟩ : TSlot)).length q8.1), (1, slv (List.replicate (f_brought 8 0 24).toNat (List.replicate 4 (0 : Int))).length q25.1), (2, slv 8 q16.1)].toArray) (v := .agg [slv (List.replicate (f_brought 8 0 24).toNat (⟨-1, 0⟩ : TSlot)).length q8.1, slv (List.replicate (f_brought 8 0 24).toNat (List.replicate 4 (0 : Int))).length q25.1, slv 8 q16.1, slv ([] : List TGuest).length (GT.pdflt (α := List TGuest)).1, slv ([] : List Int).length (GT.pdflt (α := List Int)).1, I 0, I 0, slv ([] : List TKept).length (GT.pdflt (α := List TKept)).1, I 0].toArray) (fun w => by kernel_rfl)) .nil) fun _ _ _ S hB => hK121 _ _ q16 F17 q25 F26 q8 F9 _ _ _ S o15 o24 o7 (Disj.symm d132) (Disj.symm d131) (Disj.symm d130) hNN hB) (S.wq hW hNN hBB [] .nil fun _ _ _ S hB => hK125 _ _ q8 F9 q25 F26 q16 F17 _ _ _ S o7 o24 o15 d130 d131 d132 hNN hB)
  have hK133 ac w q8 F9 q25 F26 u N β (S : St Try.prog Try.f43.ntmps w0 NoB u N β (σ1.dl [] [(3, .p 1 0), (6, .v (slv (List.replicate (f_brought 8 0 24).toNat (⟨-1, 0⟩ : TSlot)).length q8.1)), (7, .v (slv (List.replicate (f_brought 8 0 24).toNat (List.replicate 4 (0 : Int))).length q25.1))] 2 [(1, Zc TMon)]) ac w) (o7 : Ow w0 NoB u N F9 (List.replicate (f_brought 8 0 24).toNat (⟨-1, 0⟩ : TSlot)) q8) (o24 : Ow w0 NoB u N F26 (List.replicate (f_brought 8 0 24).toNat (List.replicate 4 (0 : Int))) q25) (d134 : Disj F9 F26) (hNN : NN N0 u0 N u) (hBB : BB σ1.bx.length β0 β) : W 3 (mkL 6 [0, 1, 4]) ac w := by
   refine ox1 hW 2 ?_
   refine id (S.make (α := Bool) (m := 8) (by' := 1) (d := 8) (by kernel_rfl) (by omega) (show 8 ≤ 4194304 by omega) fun ac w N q135 F136 S up o137 d138 => ?_)
   have hb139 := fun b h => (⟨(up b (hNN b h).1).1, (up b (hNN b h).1).2.trans (hNN b h).2⟩ : _ ∧ _)
   refine WD.sc S hb139 hBB fun hC => ?_
   have d140 := Disj.w d138 o7.sub
   have d141 := Disj.w d138 o24.sub
   replace o7 := o7.up up
   replace o24 := o24.up up
   clear up d138
   exact S.wh hW [] hC fun _ S => hK125 _ _ q8 F9 q25 F26 q135 F136 _ _ _ S o7 o24 o137 d134 d140 d141 hb139 hBB
  have hK142 ac w q8 F9 q16 F17 u N β (S : St Try.prog Try.f43.ntmps w0 NoB u N β (σ1.dl [] [(3, .p 1 0), (6, .v (slv (List.replicate (f_brought 8 0 24).toNat (⟨-1, 0⟩ : TSlot)).length q8.1)), (8, .v (slv 8 q16.1))] 2 [(1, Zc TMon)]) ac w) (o7 : Ow w0 NoB u N F9 (List.replicate (f_brought 8 0 24).toNat (⟨-1, 0⟩ : TSlot)) q8) (o15 : Ow w0 NoB u N F17 (List.replicate 8 (GT.dflt : Bool)) q16) (d143 : Disj F9 F17) (hNN : NN N0 u0 N u) (hBB : BB σ1.bx.length β0 β) : W 3 (mkL 6 [0, 2, 4]) ac w := by
   refine ox1 hW 1 ?_
   refine id (S.k1 7 (c_impl_MemNew w 8) fun ac w N q144 F145 S up o146 d147 => ?_)
   have hb148 := fun b h => (⟨(up b (hNN b h).1).1, (up b (hNN b h).1).2.trans (hNN b h).2⟩ : _ ∧ _)
   refine WD.sc S hb148 hBB fun hC => ?_
   have d149 := Disj.w d147 o7.sub
   have d150 := Disj.w d147 o15.sub
   replace o7 := o7.up up
   replace o15 := o15.up up
   clear up d147
   exact S.wh hW [] hC fun _ S => hK125 _ _ q8 F9 q144 F145 q16 F17 _ _ _ S o7 o146 o15 d149 d143 (Disj.symm d150) hb148 hBB
  have hK151 ac w q8 F9 q25 F26 u N β (S : St Try.prog Try.f43.ntmps w0 NoB u N β (σ1.dl [] [(6, .v (slv (List.replicate (f_brought 8 0 24).toNat (⟨-1, 0⟩ : TSlot)).length q8.1)), (7, .v (slv (List.replicate (f_brought 8 0 24).toNat (List.replicate 4 (0 : Int))).length q25.1))] 1 []) ac w) (o7 : Ow w0 NoB u N F9 (List.replicate (f_brought 8 0 24).toNat (⟨-1, 0⟩ : TSlot)) q8) (o24 : Ow w0 NoB u N F26 (List.replicate (f_brought 8 0 24).toNat (List.replicate 4 (0 : Int))) q25) (d152 : Disj F9 F26) (hNN : NN N0 u0 N u) (hBB : BB σ1.bx.length β0 β) : W 4 (mkL 6 [0, 1]) ac w := by
   refine ox2 hW 2 4 ?_ (S.wq hW hNN hBB [] .nil fun _ _ _ S hB => hK133 _ _ q8 F9 q25 F26 _ _ _ S o7 o24 d152 hNN hB)
   refine id (S.make (α := Bool) (m := 8) (by' := 1) (d := 8) (by kernel_rfl) (by omega) (show 8 ≤ 4194304 by omega) fun ac w N q153 F154 S up o155 d156 => ?_)
   have hb157 := fun b h => (⟨(up b (hNN b h).1).1, (up b (hNN b h).1).2.trans (hNN b h).2⟩ : _ ∧ _)
   refine WD.sc S hb157 hBB fun hC => ?_
   have d158 := Disj.w d156 o7.sub
   have d159 := Disj.w d156 o24.sub
   replace o7 := o7.up up
   replace o24 := o24.up up
   clear up d156
   exact S.wh hW [] hC fun _ S => hK129 _ _ q8 F9 q25 F26 q153 F154 _ _ _ S o7 o24 o155 d152 d158 d159 hb157 hBB
  have hK160 ac w q8 F9 q16 F17 u N β (S : St Try.prog Try.f43.ntmps w0 NoB u N β (σ1.dl [] [(6, .v (slv (List.replicate (f_brought 8 0 24).toNat (⟨-1, 0⟩ : TSlot)).length q8.1)), (8, .v (slv 8 q16.1))] 1 []) ac w) (o7 : Ow w0 NoB u N F9 (List.replicate (f_brought 8 0 24).toNat (⟨-1, 0⟩ : TSlot)) q8) (o15 : Ow w0 NoB u N F17 (List.replicate 8 (GT.dflt : Bool)) q16) (d161 : Disj F9 F17) (hNN : NN N0 u0 N u) (hBB : BB σ1.bx.length β0 β) : W 4 (mkL 6 [0, 2]) ac w := by
   refine ox2 hW 1 4 ?_ (S.wq hW hNN hBB [] .nil fun _ _ _ S hB => hK142 _ _ q8 F9 q16 F17 _ _ _ S o7 o15 d161 hNN hB)
   refine id (S.k1 7 (c_impl_MemNew w 8) fun ac w N q162 F163 S up o164 d165 => ?_)
   have hb166 := fun b h => (⟨(up b (hNN b h).1).1, (up b (hNN b h).1).2.trans (hNN b h).2⟩ : _ ∧ _)
   refine WD.sc S hb166 hBB fun hC => ?_
   have d167 := Disj.w d165 o7.sub
   have d168 := Disj.w d165 o15.sub
   replace o7 := o7.up up
   replace o15 := o15.up up
   clear up d165
   exact S.wh hW [] hC fun _ S => hK129 _ _ q8 F9 q162 F163 q16 F17 _ _ _ S o7 o164 o15 d167 d161 (Disj.symm d168) hb166 hBB
  have hK169 ac w q8 F9 u N β (S : St Try.prog Try.f43.ntmps w0 NoB u N β (σ1.dl [] [(3, .p 1 0), (6, .v (slv (List.replicate (f_brought 8 0 24).toNat (⟨-1, 0⟩ : TSlot)).length q8.1))] 2 [(1, Zc TMon)]) ac w) (o7 : Ow w0 NoB u N F9 (List.replicate (f_brought 8 0 24).toNat (⟨-1, 0⟩ : TSlot)) q8) (hNN : NN N0 u0 N u) (hBB : BB σ1.bx.length β0 β) : W 4 (mkL 6 [0, 4]) ac w := by
   refine ox2 hW 1 2 ?_ ?_
   ·refine id (S.k1 7 (c_impl_MemNew w 8) fun ac w N q170 F171 S up o172 d173 => ?_)
    have hb174 := fun b h => (⟨(up b (hNN b h).1).1, (up b (hNN b h).1).2.trans (hNN b h).2⟩ : _ ∧ _)
    refine WD.sc S hb174 hBB fun hC => ?_
    have d175 := Disj.w d173 o7.sub
    replace o7 := o7.up up
    clear up d173
    exact S.wh hW [] hC fun _ S => hK133 _ _ q8 F9 q170 F171 _ _ _ S o7 o172 d175 hb174 hBB
   ·refine id (S.make (α := Bool) (m := 8) (by' := 1) (d := 8) (by kernel_rfl) (by omega) (show 8 ≤ 4194304 by omega) fun ac w N q176 F177 S up o178 d179 => ?_)
    have hb180 := fun b h => (⟨(up b (hNN b h).1).1, (up b (hNN b h).1).2.trans (hNN b h).2⟩ : _ ∧ _)
    refine WD.sc S hb180 hBB fun hC => ?_
    have d181 := Disj.w d179 o7.sub
    replace o7 := o7.up up
    clear up d179
    exact S.wh hW [] hC fun _ S => hK142 _ _ q8 F9 q176 F177 _ _ _ S o7 o178 d181 hb180 hBB
  have hK182 ac w q16 F17 u N β (S : St Try.prog Try.f43.ntmps w0 NoB u N β (σ1.dl [] [(3, .p 1 0), (8, .v (slv 8 q16.1))] 2 [(1, Zc TMon)]) ac w) (o15 : Ow w0 NoB u N F17 (List.replicate 8 (GT.dflt : Bool)) q16) (hNN : NN N0 u0 N u) (hBB : BB σ1.bx.length β0 β) : W 4 (mkL 6 [2, 4]) ac w := by
   refine ox1 hW 0 ?_
   refine id (S.k1 6 (c_impl_TableNew w 8) fun ac w N q183 F184 S up o185 d186 => ?_)
   have hb187 := fun b h => (⟨(up b (hNN b h).1).1, (up b (hNN b h).1).2.trans (hNN b h).2⟩ : _ ∧ _)
   refine WD.sc S hb187 hBB fun hC => ?_
   have d188 := Disj.w d186 o15.sub
   replace o15 := o15.up up
   clear up d186
   exact S.wh hW [] hC fun _ S => hK142 _ _ q183 F184 q16 F17 _ _ _ S o185 o15 (Disj.symm d188) hb187 hBB
  have hK189 ac w q8 F9 u N β (S : St Try.prog Try.f43.ntmps w0 NoB u N β (σ1.dl [] [(6, .v (slv (List.replicate (f_brought 8 0 24).toNat (⟨-1, 0⟩ : TSlot)).length q8.1))] 1 []) ac w) (o7 : Ow w0 NoB u N F9 (List.replicate (f_brought 8 0 24).toNat (⟨-1, 0⟩ : TSlot)) q8) (hNN : NN N0 u0 N u) (hBB : BB σ1.bx.length β0 β) : W 5 (mkL 6 [0]) ac w := by
   refine ox3 hW 1 2 4 ?_ ?_ (S.wq hW hNN hBB [] .nil fun _ _ _ S hB => hK169 _ _ q8 F9 _ _ _ S o7 hNN hB)
   ·refine id (S.k1 7 (c_impl_MemNew w 8) fun ac w N q190 F191 S up o192 d193 => ?_)
    have hb194 := fun b h => (⟨(up b (hNN b h).1).1, (up b (hNN b h).1).2.trans (hNN b h).2⟩ : _ ∧ _)
    refine WD.sc S hb194 hBB fun hC => ?_
    have d195 := Disj.w d193 o7.sub
    replace o7 := o7.up up
    clear up d193
    exact S.wh hW [] hC fun _ S => hK151 _ _ q8 F9 q190 F191 _ _ _ S o7 o192 d195 hb194 hBB
   ·refine id (S.make (α := Bool) (m := 8) (by' := 1) (d := 8) (by kernel_rfl) (by omega) (show 8 ≤ 4194304 by omega) fun ac w N q196 F197 S up o198 d199 => ?_)
    have hb200 := fun b h => (⟨(up b (hNN b h).1).1, (up b (hNN b h).1).2.trans (hNN b h).2⟩ : _ ∧ _)
    refine WD.sc S hb200 hBB fun hC => ?_
    have d201 := Disj.w d199 o7.sub
    replace o7 := o7.up up
    clear up d199
    exact S.wh hW [] hC fun _ S => hK160 _ _ q8 F9 q196 F197 _ _ _ S o7 o198 d201 hb200 hBB
  have hK202 ac w q16 F17 u N β (S : St Try.prog Try.f43.ntmps w0 NoB u N β (σ1.dl [] [(8, .v (slv 8 q16.1))] 1 []) ac w) (o15 : Ow w0 NoB u N F17 (List.replicate 8 (GT.dflt : Bool)) q16) (hNN : NN N0 u0 N u) (hBB : BB σ1.bx.length β0 β) : W 5 (mkL 6 [2]) ac w := by
   refine ox2 hW 0 4 ?_ (S.wq hW hNN hBB [] .nil fun _ _ _ S hB => hK182 _ _ q16 F17 _ _ _ S o15 hNN hB)
   refine id (S.k1 6 (c_impl_TableNew w 8) fun ac w N q203 F204 S up o205 d206 => ?_)
   have hb207 := fun b h => (⟨(up b (hNN b h).1).1, (up b (hNN b h).1).2.trans (hNN b h).2⟩ : _ ∧ _)
   refine WD.sc S hb207 hBB fun hC => ?_
   have d208 := Disj.w d206 o15.sub
   replace o15 := o15.up up
   clear up d206
   exact S.wh hW [] hC fun _ S => hK160 _ _ q203 F204 q16 F17 _ _ _ S o205 o15 (Disj.symm d208) hb207 hBB
  have hK209 ac w u N β (S : St Try.prog Try.f43.ntmps w0 NoB u N β (σ1.dl [] [(3, .p 1 0)] 2 [(1, Zc TMon)]) ac w) (hNN : NN N0 u0 N u) (hBB : BB σ1.bx.length β0 β) : W 5 (mkL 6 [4]) ac w := by
   refine ox2 hW 0 2 ?_ ?_
   ·refine id (S.k1 6 (c_impl_TableNew w 8) fun ac w N q210 F211 S up o212 d213 => ?_)
    have hb214 := fun b h => (⟨(up b (hNN b h).1).1, (up b (hNN b h).1).2.trans (hNN b h).2⟩ : _ ∧ _)
    refine WD.sc S hb214 hBB fun hC => ?_
    clear up d213
    exact S.wh hW [] hC fun _ S => hK169 _ _ q210 F211 _ _ _ S o212 hb214 hBB
   ·refine id (S.make (α := Bool) (m := 8) (by' := 1) (d := 8) (by kernel_rfl) (by omega) (show 8 ≤ 4194304 by omega) fun ac w N q215 F216 S up o217 d218 => ?_)
    have hb219 := fun b h => (⟨(up b (hNN b h).1).1, (up b (hNN b h).1).2.trans (hNN b h).2⟩ : _ ∧ _)
    refine WD.sc S hb219 hBB fun hC => ?_
    clear up d218
    exact S.wh hW [] hC fun _ S => hK182 _ _ q215 F216 _ _ _ S o217 hb219 hBB
  have hNN : NN N0 u0 N0 u0 := fun b h => ⟨h, rfl⟩
  have hBB : BB σ1.bx.length β0 β0 := fun _ _ => rfl
  refine ox3 hW 0 2 4 ?_ ?_ (S.wq hW hNN hBB [] .nil fun _ _ _ S hB => hK209 _ _ _ _ _ S hNN hB)
  ·refine id (S.k1 6 (c_impl_TableNew w 8) fun ac w N q220 F221 S up o222 d223 => ?_)
   have hb224 := fun b h => (⟨(up b (hNN b h).1).1, (up b (hNN b h).1).2.trans (hNN b h).2⟩ : _ ∧ _)
   refine WD.sc S hb224 hBB fun hC => ?_
   clear up d223
   exact S.wh hW [] hC fun _ S => hK189 _ _ q220 F221 _ _ _ S o222 hb224 hBB
  ·refine id (S.make (α := Bool) (m := 8) (by' := 1) (d := 8) (by kernel_rfl) (by omega) (show 8 ≤ 4194304 by omega) fun ac w N q225 F226 S up o227 d228 => ?_)
   have hb229 := fun b h => (⟨(up b (hNN b h).1).1, (up b (hNN b h).1).2.trans (hNN b h).2⟩ : _ ∧ _)
   refine WD.sc S hb229 hBB fun hC => ?_
   clear up d228
   exact S.wh hW [] hC fun _ S => hK202 _ _ q225 F226 _ _ _ S o227 hb229 hBB
 clear S
 rintro ac w ⟨q111, F112, q108, F109, q105, F106, u, N, β, S, o110, o107, o104, d230, d231, d232⟩
 refine S.ex fun S => ?_
 have l233 : (progs.take (if 2 < (progs.length : Int) then 2 else (progs.length : Int)).toNat).length = (if 2 < (progs.length : Int) then 2 else (progs.length : Int)).toNat - 0 := by first | (simp; done) | (simp; omega)
 refine S.go 14 (.cons (Q_slice (hi := some (I (if 2 < (progs.length : Int) then 2 else (progs.length : Int)))) (S.arg hprogs) (l := progs.length) (a := 0) (b := (if 2 < (progs.length : Int) then 2 else (progs.length : Int)).toNat) rfl (.inl ⟨rfl, rfl⟩) (.inr (congrArg (fun z => some (I z)) (show (if 2 < (progs.length : Int) then 2 else (progs.length : Int)) = (((if 2 < (progs.length : Int) then 2 else (progs.length : Int)).toNat : Nat) : Int) by omega))) (by omega) (by omega) Try.underlying30 (by kernel_rfl)) .nil) fun ac w β S => ?_
 have o240 := S.nilOw (α := TGuest)
 have o241 := S.nilOw (α := TKept)
 refine lp (fun mm ac w => ∃ (k : Nat) (gs : List TGuest) (tb : List TKept) (q234 : _) (F235 : _) (q237 : _) (F238 : _) (u : _) (N : _) (β : _), mm = progs.length - k ∧ (k ≤ progs.length) ∧ (k ≤ 2) ∧ (gs = ((progs.take 2).take k).map f_guestNew) ∧ (tb = ((progs.take 2).take k).map (fun _ => f_keptNew 4)) ∧ St Try.prog Try.f43.ntmps w0 NoB u N β ⟨[(2, .p 0 0), (3, .p 1 0), (14, .v (slv (if 2 < (progs.length : Int) then 2 else (progs.length : Int)).toNat (pprogs.1.sl 0 1))), (15, .v (I ((if 2 < (progs.length : Int) then 2 else (progs.length : Int)).toNat : Int))), (16, .v (I (k : Int)))], [Zc TMon, [slv (List.replicate (f_brought 8 0 24).toNat (⟨-1, 0⟩ : TSlot)).length q105.1, slv (List.replicate (f_brought 8 0 24).toNat (List.replicate 4 (0 : Int))).length q108.1, slv 8 q111.1, slv gs.length q234.1, slv ([] : List Int).length (GT.pdflt (α := List Int)).1, I 0, I 0, slv tb.length q237.1, I 0]]⟩ ac w ∧ Ow w0 NoB u N F235 gs q234 ∧ Ow w0 NoB u N F238 tb q237 ∧ Ow w0 NoB u N F106 (List.replicate (f_brought 8 0 24).toNat (⟨-1, 0⟩ : TSlot)) q105 ∧ Ow w0 NoB u N F109 (List.replicate (f_brought 8 0 24).toNat (List.replicate 4 (0 : Int))) q108 ∧ Ow w0 NoB u N F112 (List.replicate 8 (GT.dflt : Bool)) q111 ∧ Disj F235 F238 ∧ Disj F235 F106 ∧ Disj F235 F109 ∧ Disj F235 F112 ∧ Disj F238 F106 ∧ Disj F238 F109 ∧ Disj F238 F112) _ ⟨0, ([] : List TGuest), ([] : List TKept), (GT.pdflt (α := List TGuest)), NoB, (GT.pdflt (α := List TKept)), NoB, _, _, _, rfl, o0, o0, (by rfl), (by rfl), S.z, o240, o241, o104, o107, o110, (fun b _ h => False.elim h), (Disj.symm (fun b _ h => False.elim h)), (Disj.symm (fun b _ h => False.elim h)), (Disj.symm (fun b _ h => False.elim h)), (Disj.symm (fun b _ h => False.elim h)), (Disj.symm (fun b _ h => False.elim h)), (Disj.symm (fun b _ h => False.elim h))⟩ ?_
 clear S o104 o107 o110 o240 o241
 rintro f249 mm hf250 ac w ⟨k, gs, tb, q234, F235, q237, F238, u, N, β, rfl, hk, hkm, hgs, htb, S, o236, o239, o104, o107, o110, d242, d243, d244, d245, d246, d247, d248⟩
 refine S.rs fun S => ?_
 have hlgs : gs.length ≤ 2 := by rw [hgs, List.length_map, List.length_take]; omega
 have hltb : tb.length ≤ 2 := by rw [htb, List.length_map, List.length_take]; omega
 refine S.gd 6 .nil (decide ((k : Int) < ((if 2 < (progs.length : Int) then 2 else (progs.length : Int)).toNat : Int))) (fun ac w β h251 g252 S => ?_) (fun ac w β h251 g252 S => ?_)
 ·refine S.go 13 (.cons (Q_idx (show GT.rd KK _ _ (progs.take (if 2 < (progs.length : Int) then 2 else (progs.length : Int)).toNat) ((pprogs.1.sl 0 1, fun i => pprogs.2 (0 + i)) : LP (List TIns)) from rd_sl (S.arg hprogs) (a := 0) (b := (if 2 < (progs.length : Int) then 2 else (progs.length : Int)).toNat) (by omega) (by omega)) (l := (if 2 < (progs.length : Int) then 2 else (progs.length : Int)).toNat) (k := k) (i := (k : Int)) (by omega) rfl (by omega) Try.underlying30 (by kernel_rfl)) (.cons (qx (show GT.rd KK _ _ (progs.take (if 2 < (progs.length : Int) then 2 else (progs.length : Int)).toNat) ((pprogs.1.sl 0 1, fun i => pprogs.2 (0 + i)) : LP (List TIns)) from rd_sl (S.arg hprogs) (a := 0) (b := (if 2 < (progs.length : Int) then 2 else (progs.length : Int)).toNat) (by omega) (by omega)) 28 k) .nil)) fun ac w β S => ?_
  refine drw ?_
  refine S.draw0 (f := 8) 5 (by kernel_rfl) (by kernel_rfl) fun w S => ?_
  refine S.hq 0 [1, 0] [] [(20, .p 1 3)] .nil fun ac S => ?_
  refine S.hq 1 [1] [] [(21, .v (slv gs.length q234.1))] .nil fun ac S => ?_
  refine S.hq 2 [3, 2] [] [(22, .v (slv (el (progs.take (if 2 < (progs.length : Int) then 2 else (progs.length : Int)).toNat) k).length ((pprogs.1.sl 0 1, fun i => pprogs.2 (0 + i)).2 k).1))] .nil fun ac S => ?_
  refine WD.one (i := 3) (by kernel_rfl) ?_
  refine id (S.k1 23 (c_impl_GuestNew w (el (progs.take (if 2 < (progs.length : Int) then 2 else (progs.length : Int)).toNat) k) ((pprogs.1.sl 0 1, fun i => pprogs.2 (0 + i)).2 k) (S.rd (LRd.el (show GT.rd KK _ _ (progs.take (if 2 < (progs.length : Int) then 2 else (progs.length : Int)).toNat) ((pprogs.1.sl 0 1, fun i => pprogs.2 (0 + i)) : LP (List TIns)) from rd_sl (S.arg hprogs) (a := 0) (b := (if 2 < (progs.length : Int) then 2 else (progs.length : Int)).toNat) (by omega) (by omega)) k (by omega)))) fun ac w N q253 F254 S up o255 d256 => ?_)
  refine WD.next S up (by kernel_rfl) ?_
  have d257 := Disj.w d256 o236.sub
  have d258 := Disj.w d256 o239.sub
  have d259 := Disj.w d256 o104.sub
  have d260 := Disj.w d256 o107.sub
  have d261 := Disj.w d256 o110.sub
  replace o236 := o236.up up
  replace o239 := o239.up up
  replace o104 := o104.up up
  replace o107 := o107.up up
  replace o110 := o110.up up
  clear up d256
  have i265 : In64 (f_guestNew (el (progs.take (if 2 < (progs.length : Int) then 2 else (progs.length : Int)).toNat) k)).acc := RGuest.acc (d := (f_guestNew (el (progs.take (if 2 < (progs.length : Int) then 2 else (progs.length : Int)).toNat) k))) o255.rn
  have i266 : In64 (f_guestNew (el (progs.take (if 2 < (progs.length : Int) then 2 else (progs.length : Int)).toNat) k)).pc := RGuest.pc (d := (f_guestNew (el (progs.take (if 2 < (progs.length : Int) then 2 else (progs.length : Int)).toNat) k))) o255.rn
  have i273 : RCtl (f_guestNew (el (progs.take (if 2 < (progs.length : Int) then 2 else (progs.length : Int)).toNat) k)).ctl := RGuest.ctl (d := (f_guestNew (el (progs.take (if 2 < (progs.length : Int) then 2 else (progs.length : Int)).toNat) k))) o255.rn
  have i274 : In64 (f_guestNew (el (progs.take (if 2 < (progs.length : Int) then 2 else (progs.length : Int)).toNat) k)).pend := RGuest.pend (d := (f_guestNew (el (progs.take (if 2 < (progs.length : Int) then 2 else (progs.length : Int)).toNat) k))) o255.rn
  have i275 : RExit (f_guestNew (el (progs.take (if 2 < (progs.length : Int) then 2 else (progs.length : Int)).toNat) k)).exit := RGuest.exit (d := (f_guestNew (el (progs.take (if 2 < (progs.length : Int) then 2 else (progs.length : Int)).toNat) k))) o255.rn
  obtain ⟨F262, F267, F270, F276, o263, o268, o271, o277, s264, s269, s272, s278, d279, d280, d281, d282, d283, d284⟩ := sp_Guest o255
  refine WD.one (i := 4) (by kernel_rfl) ?_
  have o289 := ow_Guest (x := (f_guestNew (el (progs.take (if 2 < (progs.length : Int) then 2 else (progs.length : Int)).toNat) k))) (p := q253) o263 o268 o271 o277 d279 d280 d281 d282 d283 d284 i265 i266 i273 i274 i275
  refine id (S.bs1 (α := TGuest) (x := (f_guestNew (el (progs.take (if 2 < (progs.length : Int) then 2 else (progs.length : Int)).toNat) k))) (p := q253) o289.own o289.sub o289.young (d := 24) (by kernel_rfl) fun ac w N q285 F286 S up o287 d288 => ?_)
  refine WD.next S up (by kernel_rfl) ?_
  have d290 := d288 _ (Disj.symm (Disj.or (Disj.part (Disj.symm d257) s264) (Disj.or (Disj.part (Disj.symm d257) s269) (Disj.or (Disj.part (Disj.symm d257) s272) (Disj.or (Disj.part (Disj.symm d257) s278) Disj.nob))))) o236.sub
  have d291 := d288 _ (Disj.symm (Disj.or (Disj.part (Disj.symm d258) s264) (Disj.or (Disj.part (Disj.symm d258) s269) (Disj.or (Disj.part (Disj.symm d258) s272) (Disj.or (Disj.part (Disj.symm d258) s278) Disj.nob))))) o239.sub
  have d292 := d288 _ (Disj.symm (Disj.or (Disj.part (Disj.symm d259) s264) (Disj.or (Disj.part (Disj.symm d259) s269) (Disj.or (Disj.part (Disj.symm d259) s272) (Disj.or (Disj.part (Disj.symm d259) s278) Disj.nob))))) o104.sub
  have d293 := d288 _ (Disj.symm (Disj.or (Disj.part (Disj.symm d260) s264) (Disj.or (Disj.part (Disj.symm d260) s269) (Disj.or (Disj.part (Disj.symm d260) s272) (Disj.or (Disj.part (Disj.symm d260) s278) Disj.nob))))) o107.sub
  have d294 := d288 _ (Disj.symm (Disj.or (Disj.part (Disj.symm d261) s264) (Disj.or (Disj.part (Disj.symm d261) s269) (Disj.or (Disj.part (Disj.symm d261) s272) (Disj.or (Disj.part (Disj.symm d261) s278) Disj.nob))))) o110.sub
  replace o236 := o236.up up
  replace o239 := o239.up up
  replace o104 := o104.up up
  replace o107 := o107.up up
  replace o110 := o110.up up
  clear up d288
  refine WD.one (i := 5) (by kernel_rfl) ?_
  refine id (S.appOwn (α := TGuest) o236 o287 d290 (by' := 184) (d := 25) (lx := gs.length) (ly := 1) rfl rfl (by kernel_rfl) (show _ ≤ 4194304 by simp only [List.length_append, List.length_cons, List.length_nil]; omega) fun ac w N q295 F296 S up o297 d298 => ?_)
  refine WD.last (by kernel_rfl) ?_
  have d299 := d298 _ (Disj.symm d242) d291 o239.sub
  have d300 := d298 _ (Disj.symm d243) d292 o104.sub
  have d301 := d298 _ (Disj.symm d244) d293 o107.sub
  have d302 := d298 _ (Disj.symm d245) d294 o110.sub
  replace o239 := o239.upF (Disj.symm d242) up
  replace o104 := o104.upF (Disj.symm d243) up
  replace o107 := o107.upF (Disj.symm d244) up
  replace o110 := o110.upF (Disj.symm d245) up
  clear up d298
  refine WD.one (i := 6) (by kernel_rfl) ?_
  refine S.stepq (i := 6) (keep := [2, 3, 14, 15, 16, 25, 26]) (m := 2) (σ' := ⟨[(2, .p 0 0), (3, .p 1 0), (14, .v (slv (if 2 < (progs.length : Int) then 2 else (progs.length : Int)).toNat (pprogs.1.sl 0 1))), (15, .v (I ((if 2 < (progs.length : Int) then 2 else (progs.length : Int)).toNat : Int))), (16, .v (I (k : Int))), (25, .v (slv (gs ++ [(f_guestNew (el (progs.take (if 2 < (progs.length : Int) then 2 else (progs.length : Int)).toNat) k))]).length q295.1)), (26, .p 1 3)], [Zc TMon, [slv (List.replicate (f_brought 8 0 24).toNat (⟨-1, 0⟩ : TSlot)).length q105.1, slv (List.replicate (f_brought 8 0 24).toNat (List.replicate 4 (0 : Int))).length q108.1, slv 8 q111.1, slv gs.length q234.1, slv ([] : List Int).length (GT.pdflt (α := List Int)).1, I 0, I 0, slv tb.length q237.1, I 0]]⟩) .nil (by kernel_rfl) fun ac w β S hβ => ?_
  refine WD.last (by kernel_rfl) ?_
  clear hβ
  refine WD.one (i := 7) (by kernel_rfl) ?_
  refine S.stepq (i := 7) (keep := [2, 3, 14, 15, 16]) (m := 2) (σ' := ⟨[(2, .p 0 0), (3, .p 1 0), (14, .v (slv (if 2 < (progs.length : Int) then 2 else (progs.length : Int)).toNat (pprogs.1.sl 0 1))), (15, .v (I ((if 2 < (progs.length : Int) then 2 else (progs.length : Int)).toNat : Int))), (16, .v (I (k : Int)))], [Zc TMon, [slv (List.replicate (f_brought 8 0 24).toNat (⟨-1, 0⟩ : TSlot)).length q105.1, slv (List.replicate (f_brought 8 0 24).toNat (List.replicate 4 (0 : Int))).length q108.1, slv 8 q111.1, slv (gs ++ [(f_guestNew (el (progs.take (if 2 < (progs.length : Int) then 2 else (progs.length : Int)).toNat) k))]).length q295.1, slv ([] : List Int).length (GT.pdflt (α := List Int)).1, I 0, I 0, slv tb.length q237.1, I 0]]⟩) .nil (by kernel_rfl) fun ac w β S hβ => ?_
  refine WD.last (by kernel_rfl) ?_
  clear hβ
  refine WD.done (by kernel_rfl) ?_ _
  refine S.ex fun S => ?_
  refine S.go 1 .nil fun ac w β S => ?_
  refine drw ?_
  refine S.draw0 (f := 7) 4 (by kernel_rfl) (by kernel_rfl) fun w S => ?_
  refine S.hq 0 [1, 0] [] [(27, .p 1 7)] .nil fun ac S => ?_
  refine S.hq 1 [1] [] [(28, .v (slv tb.length q237.1))] .nil fun ac S => ?_
  refine WD.one (i := 2) (by kernel_rfl) ?_
  refine id (S.k1 29 (c_impl_KeptNew w 4) fun ac w N q303 F304 S up o305 d306 => ?_)
  refine WD.next S up (by kernel_rfl) ?_
  have d307 := Disj.w d306 o239.sub
  have d308 := Disj.w d306 o104.sub
  have d309 := Disj.w d306 o107.sub
  have d310 := Disj.w d306 o110.sub
  have d311 := Disj.w d306 o297.sub
  replace o239 := o239.up up
  replace o104 := o104.up up
  replace o107 := o107.up up
  replace o110 := o110.up up
  replace o297 := o297.up up
  clear up d306
  obtain ⟨F312, F315, o313, o316, s314, s317, d318⟩ := sp_Kept o305
  refine WD.one (i := 3) (by kernel_rfl) ?_
  have o323 := ow_Kept (x := (f_keptNew 4)) (p := q303) o313 o316 d318 
  refine id (S.bs1 (α := TKept) (x := (f_keptNew 4)) (p := q303) o323.own o323.sub o323.young (d := 30) (by kernel_rfl) fun ac w N q319 F320 S up o321 d322 => ?_)
  refine WD.next S up (by kernel_rfl) ?_
  have d324 := d322 _ (Disj.symm (Disj.or (Disj.part (Disj.symm d307) s314) (Disj.or (Disj.part (Disj.symm d307) s317) Disj.nob))) o239.sub
  have d325 := d322 _ (Disj.symm (Disj.or (Disj.part (Disj.symm d308) s314) (Disj.or (Disj.part (Disj.symm d308) s317) Disj.nob))) o104.sub
  have d326 := d322 _ (Disj.symm (Disj.or (Disj.part (Disj.symm d309) s314) (Disj.or (Disj.part (Disj.symm d309) s317) Disj.nob))) o107.sub
  have d327 := d322 _ (Disj.symm (Disj.or (Disj.part (Disj.symm d310) s314) (Disj.or (Disj.part (Disj.symm d310) s317) Disj.nob))) o110.sub
  have d328 := d322 _ (Disj.symm (Disj.or (Disj.part (Disj.symm d311) s314) (Disj.or (Disj.part (Disj.symm d311) s317) Disj.nob))) o297.sub
  replace o239 := o239.up up
  replace o104 := o104.up up
  replace o107 := o107.up up
  replace o110 := o110.up up
  replace o297 := o297.up up
  clear up d322
  refine WD.one (i := 4) (by kernel_rfl) ?_
  refine id (S.appOwn (α := TKept) o239 o321 d324 (by' := 48) (d := 31) (lx := tb.length) (ly := 1) rfl rfl (by kernel_rfl) (show _ ≤ 4194304 by simp only [List.length_append, List.length_cons, List.length_nil]; omega) fun ac w N q329 F330 S up o331 d332 => ?_)
  refine WD.last (by kernel_rfl) ?_
  have d333 := d332 _ (Disj.symm d246) d325 o104.sub
  have d334 := d332 _ (Disj.symm d247) d326 o107.sub
  have d335 := d332 _ (Disj.symm d248) d327 o110.sub
  have d336 := d332 _ (Disj.symm d299) d328 o297.sub
  replace o104 := o104.upF (Disj.symm d246) up
  replace o107 := o107.upF (Disj.symm d247) up
  replace o110 := o110.upF (Disj.symm d248) up
  replace o297 := o297.upF (Disj.symm d299) up
  clear up d332
  refine WD.one (i := 5) (by kernel_rfl) ?_
  refine S.stepq (i := 5) (keep := [2, 3, 14, 15, 16, 31, 32]) (m := 2) (σ' := ⟨[(2, .p 0 0), (3, .p 1 0), (14, .v (slv (if 2 < (progs.length : Int) then 2 else (progs.length : Int)).toNat (pprogs.1.sl 0 1))), (15, .v (I ((if 2 < (progs.length : Int) then 2 else (progs.length : Int)).toNat : Int))), (16, .v (I (k : Int))), (31, .v (slv (tb ++ [(f_keptNew 4)]).length q329.1)), (32, .p 1 7)], [Zc TMon, [slv (List.replicate (f_brought 8 0 24).toNat (⟨-1, 0⟩ : TSlot)).length q105.1, slv (List.replicate (f_brought 8 0 24).toNat (List.replicate 4 (0 : Int))).length q108.1, slv 8 q111.1, slv (gs ++ [(f_guestNew (el (progs.take (if 2 < (progs.length : Int) then 2 else (progs.length : Int)).toNat) k))]).length q295.1, slv ([] : List Int).length (GT.pdflt (α := List Int)).1, I 0, I 0, slv tb.length q237.1, I 0]]⟩) .nil (by kernel_rfl) fun ac w β S hβ => ?_
  refine WD.last (by kernel_rfl) ?_
  clear hβ
  refine WD.one (i := 6) (by kernel_rfl) ?_
  refine S.stepq (i := 6) (keep := [2, 3, 14, 15, 16]) (m := 2) (σ' := ⟨[(2, .p 0 0), (3, .p 1 0), (14, .v (slv (if 2 < (progs.length : Int) then 2 else (progs.length : Int)).toNat (pprogs.1.sl 0 1))), (15, .v (I ((if 2 < (progs.length : Int) then 2 else (progs.length : Int)).toNat : Int))), (16, .v (I (k : Int)))], [Zc TMon, [slv (List.replicate (f_brought 8 0 24).toNat (⟨-1, 0⟩ : TSlot)).length q105.1, slv (List.replicate (f_brought 8 0 24).toNat (List.replicate 4 (0 : Int))).length q108.1, slv 8 q111.1, slv (gs ++ [(f_guestNew (el (progs.take (if 2 < (progs.length : Int) then 2 else (progs.length : Int)).toNat) k))]).length q295.1, slv ([] : List Int).length (GT.pdflt (α := List Int)).1, I 0, I 0, slv (tb ++ [(f_keptNew 4)]).length q329.1, I 0]]⟩) .nil (by kernel_rfl) fun ac w β S hβ => ?_
  refine WD.last (by kernel_rfl) ?_
  clear hβ
  refine WD.done (by kernel_rfl) ?_ _
  refine S.ex fun S => ?_
  refine S.ge 6 (.cons (qp (k : Int) 1) .nil) f249 fun ac w β S => hf250.of (progs.length - (k + 1)) _ _ (by omega) ⟨k + 1, (gs ++ [(f_guestNew (el (progs.take (if 2 < (progs.length : Int) then 2 else (progs.length : Int)).toNat) k))]), (tb ++ [(f_keptNew 4)]), q295, F296, q329, F330, _, _, _, rfl, ?_, ?_, ?_, ?_, S.z, o297, o331, o104, o107, o110, d336, (Disj.symm d300), (Disj.symm d301), (Disj.symm d302), (Disj.symm d333), (Disj.symm d334), (Disj.symm d335)⟩
  ·exact oz
  ·exact oz
  ·clear S; (first | (rw [map_take_step (by omega) (by omega), ← hgs]; done) | (rw [map_take_step (by omega) (by omega), ← hgs, el_take (by omega)]))
  ·clear S; (first | (rw [map_take_step (by omega) (by omega), ← htb]; done) | (rw [map_take_step (by omega) (by omega), ← htb, el_take (by omega)]))
 refine S.gr 13 .nil [GT.val (⟨(List.replicate (f_brought 8 0 24).toNat (⟨-1, 0⟩ : TSlot)), (List.replicate (f_brought 8 0 24).toNat (List.replicate 4 (0 : Int))), (List.replicate 8 (GT.dflt : Bool)), gs, ([] : List Int), 0, 0, tb, 0⟩ : TMon) (⟨q105, q108, q111, q234, (GT.pdflt (α := List Int)), q237⟩ : PMon)] fun ac w β S => ?_
 have o337 := S.nilOw (α := Int)
 have o338 := ow_Mon (x := (⟨(List.replicate (f_brought 8 0 24).toNat (⟨-1, 0⟩ : TSlot)), (List.replicate (f_brought 8 0 24).toNat (List.replicate 4 (0 : Int))), (List.replicate 8 (GT.dflt : Bool)), gs, ([] : List Int), 0, 0, tb, 0⟩ : TMon)) (p := (⟨q105, q108, q111, q234, (GT.pdflt (α := List Int)), q237⟩ : PMon)) o104 o107 o110 o236 o337 o239 (Disj.symm d232) (Disj.symm d231) (Disj.symm d243) (fun b _ h => False.elim h) (Disj.symm d246) (Disj.symm d230) (Disj.symm d244) (fun b _ h => False.elim h) (Disj.symm d247) (Disj.symm d245) (fun b _ h => False.elim h) (Disj.symm d248) (fun b _ h => False.elim h) d242 (Disj.symm (fun b _ h => False.elim h)) (show In64 0 from ⟨by decide, by decide⟩) (show In64 0 from ⟨by decide, by decide⟩) (show In64 0 from ⟨by decide, by decide⟩)
 exact ret1_of S (show f_monNew progs = (⟨(List.replicate (f_brought 8 0 24).toNat (⟨-1, 0⟩ : TSlot)), (List.replicate (f_brought 8 0 24).toNat (List.replicate 4 (0 : Int))), (List.replicate 8 (GT.dflt : Bool)), gs, ([] : List Int), 0, 0, tb, 0⟩ : TMon) by clear S; (rw [hgs, htb, map_take_end (by omega), map_take_end (by omega)]; rfl)) rfl o338

theorem c_impl_HostNew (w0 : World) (all : List (List (List TIns))) (pall : LP (List (List TIns))) (hall : RD w0 all pall) : Calls Try.prog 8 [slv all.length pall.1].toArray w0 (Ret1 NoB w0 (f_hostNew all : THost)) := by
 refine Calls.run NoB Try.func8 ?_
 intro ac β S
 have hleall : all.length ≤ 4194304 := LRd.le hall
 refine S.go 7 .nil fun ac w β S => S.K1 (r := (List.replicate (f_brought 12 0 24).toNat (List.replicate 4 (0 : Int)))) (d := 6) (c_impl_MemNew w 12) fun ac w N q1 F2 S up o3 d4 => ?_
 clear up d4
 have l5 : (all.take (if 3 < (all.length : Int) then 3 else (all.length : Int)).toNat).length = (if 3 < (all.length : Int) then 3 else (all.length : Int)).toNat - 0 := by first | (simp; done) | (simp; omega)
 refine S.go 18 (.cons (Q_sem (s := Instr.build 35 [(0, slv (List.replicate (f_brought 12 0 24).toNat (List.replicate 4 (0 : Int))).length q1.1)].toArray) (v := .agg [slv (List.replicate (f_brought 12 0 24).toNat (List.replicate 4 (0 : Int))).length q1.1, slv ([] : List TMon).length (GT.pdflt (α := List TMon)).1, slv ([] : List TEntry).length (GT.pdflt (α := List TEntry)).1, slv ([] : List TEntry).length (GT.pdflt (α := List TEntry)).1].toArray) (fun w => by kernel_rfl)) (.cons (Q_slice (hi := some (I (if 3 < (all.length : Int) then 3 else (all.length : Int)))) (S.arg hall) (l := all.length) (a := 0) (b := (if 3 < (all.length : Int) then 3 else (all.length : Int)).toNat) rfl (.inl ⟨rfl, rfl⟩) (.inr (congrArg (fun z => some (I z)) (show (if 3 < (all.length : Int) then 3 else (all.length : Int)) = (((if 3 < (all.length : Int) then 3 else (all.length : Int)).toNat : Nat) : Int) by omega))) (by omega) (by omega) Try.underlying29 (by kernel_rfl)) .nil)) fun ac w β S => ?_
 have o9 := S.nilOw (α := TMon)
 refine lp (fun mm ac w => ∃ (k : Nat) (ms : List TMon) (q6 : _) (F7 : _) (u : _) (N : _) (β : _), mm = all.length - k ∧ (k ≤ all.length) ∧ (k ≤ 3) ∧ (ms = ((all.take 3).take k).map f_monNew) ∧ St Try.prog Try.f8.ntmps w0 NoB u N β ⟨[(2, .p 0 0), (3, .p 1 0), (12, .v (slv (if 3 < (all.length : Int) then 3 else (all.length : Int)).toNat (pall.1.sl 0 1))), (13, .v (I ((if 3 < (all.length : Int) then 3 else (all.length : Int)).toNat : Int))), (14, .v (I (k : Int)))], [Zc THost, [slv (List.replicate (f_brought 12 0 24).toNat (List.replicate 4 (0 : Int))).length q1.1, slv ms.length q6.1, slv ([] : List TEntry).length (GT.pdflt (α := List TEntry)).1, slv ([] : List TEntry).length (GT.pdflt (α := List TEntry)).1]]⟩ ac w ∧ Ow w0 NoB u N F7 ms q6 ∧ Ow w0 NoB u N F2 (List.replicate (f_brought 12 0 24).toNat (List.replicate 4 (0 : Int))) q1 ∧ Disj F7 F2) _ ⟨0, ([] : List TMon), (GT.pdflt (α := List TMon)), NoB, _, _, _, rfl, o0, o0, (by rfl), S.z, o9, o3, (Disj.symm (fun b _ h => False.elim h))⟩ ?_
 clear S o3 o9
 rintro f11 mm hf12 ac w ⟨k, ms, q6, F7, u, N, β, rfl, hk, hkm, hms, S, o8, o3, d10⟩
 refine S.rs fun S => ?_
 have hlms : ms.length ≤ 3 := by rw [hms, List.length_map, List.length_take]; omega
 refine S.gd 6 .nil (decide ((k : Int) < ((if 3 < (all.length : Int) then 3 else (all.length : Int)).toNat : Int))) (fun ac w β h13 g14 S => ?_) (fun ac w β h13 g14 S => ?_)
 ·refine S.go 12 (.cons (Q_idx (show GT.rd KK _ _ (all.take (if 3 < (all.length : Int) then 3 else (all.length : Int)).toNat) ((pall.1.sl 0 1, fun i => pall.2 (0 + i)) : LP (List (List TIns))) from rd_sl (S.arg hall) (a := 0) (b := (if 3 < (all.length : Int) then 3 else (all.length : Int)).toNat) (by omega) (by omega)) (l := (if 3 < (all.length : Int) then 3 else (all.length : Int)).toNat) (k := k) (i := (k : Int)) (by omega) rfl (by omega) Try.underlying29 (by kernel_rfl)) (.cons (qx (show GT.rd KK _ _ (all.take (if 3 < (all.length : Int) then 3 else (all.length : Int)).toNat) ((pall.1.sl 0 1, fun i => pall.2 (0 + i)) : LP (List (List TIns))) from rd_sl (S.arg hall) (a := 0) (b := (if 3 < (all.length : Int) then 3 else (all.length : Int)).toNat) (by omega) (by omega)) 30 k) .nil)) fun ac w β S => ?_
  refine drw ?_
  refine S.draw0 (f := 8) 5 (by kernel_rfl) (by kernel_rfl) fun w S => ?_
  refine S.hq 0 [1, 0] [] [(18, .p 1 1)] .nil fun ac S => ?_
  refine S.hq 1 [1] [] [(19, .v (slv ms.length q6.1))] .nil fun ac S => ?_
  refine S.hq 2 [3, 2] [] [(20, .v (slv (el (all.take (if 3 < (all.length : Int) then 3 else (all.length : Int)).toNat) k).length ((pall.1.sl 0 1, fun i => pall.2 (0 + i)).2 k).1))] .nil fun ac S => ?_
  refine WD.one (i := 3) (by kernel_rfl) ?_
  refine id (S.k1 21 (c_impl_MonNew w (el (all.take (if 3 < (all.length : Int) then 3 else (all.length : Int)).toNat) k) ((pall.1.sl 0 1, fun i => pall.2 (0 + i)).2 k) (S.rd (LRd.el (show GT.rd KK _ _ (all.take (if 3 < (all.length : Int) then 3 else (all.length : Int)).toNat) ((pall.1.sl 0 1, fun i => pall.2 (0 + i)) : LP (List (List TIns))) from rd_sl (S.arg hall) (a := 0) (b := (if 3 < (all.length : Int) then 3 else (all.length : Int)).toNat) (by omega) (by omega)) k (by omega)))) fun ac w N q15 F16 S up o17 d18 => ?_)
  refine WD.next S up (by kernel_rfl) ?_
  have d19 := Disj.w d18 o8.sub
  have d20 := Disj.w d18 o3.sub
  replace o8 := o8.up up
  replace o3 := o3.up up
  clear up d18
  have i36 : In64 (f_monNew (el (all.take (if 3 < (all.length : Int) then 3 else (all.length : Int)).toNat) k)).pend := RMon.pend (d := (f_monNew (el (all.take (if 3 < (all.length : Int) then 3 else (all.length : Int)).toNat) k))) o17.rn
  have i37 : In64 (f_monNew (el (all.take (if 3 < (all.length : Int) then 3 else (all.length : Int)).toNat) k)).traps := RMon.traps (d := (f_monNew (el (all.take (if 3 < (all.length : Int) then 3 else (all.length : Int)).toNat) k))) o17.rn
  have i41 : In64 (f_monNew (el (all.take (if 3 < (all.length : Int) then 3 else (all.length : Int)).toNat) k)).owned := RMon.owned (d := (f_monNew (el (all.take (if 3 < (all.length : Int) then 3 else (all.length : Int)).toNat) k))) o17.rn
  obtain ⟨F21, F24, F27, F30, F33, F38, o22, o25, o28, o31, o34, o39, s23, s26, s29, s32, s35, s40, d42, d43, d44, d45, d46, d47, d48, d49, d50, d51, d52, d53, d54, d55, d56⟩ := sp_Mon o17
  refine WD.one (i := 4) (by kernel_rfl) ?_
  have o61 := ow_Mon (x := (f_monNew (el (all.take (if 3 < (all.length : Int) then 3 else (all.length : Int)).toNat) k))) (p := q15) o22 o25 o28 o31 o34 o39 d42 d43 d44 d45 d46 d47 d48 d49 d50 d51 d52 d53 d54 d55 d56 i36 i37 i41
  refine id (S.bs1 (α := TMon) (x := (f_monNew (el (all.take (if 3 < (all.length : Int) then 3 else (all.length : Int)).toNat) k))) (p := q15) o61.own o61.sub o61.young (d := 22) (by kernel_rfl) fun ac w N q57 F58 S up o59 d60 => ?_)
  refine WD.next S up (by kernel_rfl) ?_
  have d62 := d60 _ (Disj.symm (Disj.or (Disj.part (Disj.symm d19) s23) (Disj.or (Disj.part (Disj.symm d19) s26) (Disj.or (Disj.part (Disj.symm d19) s29) (Disj.or (Disj.part (Disj.symm d19) s32) (Disj.or (Disj.part (Disj.symm d19) s35) (Disj.or (Disj.part (Disj.symm d19) s40) Disj.nob))))))) o8.sub
  have d63 := d60 _ (Disj.symm (Disj.or (Disj.part (Disj.symm d20) s23) (Disj.or (Disj.part (Disj.symm d20) s26) (Disj.or (Disj.part (Disj.symm d20) s29) (Disj.or (Disj.part (Disj.symm d20) s32) (Disj.or (Disj.part (Disj.symm d20) s35) (Disj.or (Disj.part (Disj.symm d20) s40) Disj.nob))))))) o3.sub
  replace o8 := o8.up up
  replace o3 := o3.up up
  clear up d60
  refine WD.one (i := 5) (by kernel_rfl) ?_
  refine id (S.appOwn (α := TMon) o8 o59 d62 (by' := 168) (d := 23) (lx := ms.length) (ly := 1) rfl rfl (by kernel_rfl) (show _ ≤ 4194304 by simp only [List.length_append, List.length_cons, List.length_nil]; omega) fun ac w N q64 F65 S up o66 d67 => ?_)
  refine WD.last (by kernel_rfl) ?_
  have d68 := d67 _ (Disj.symm d10) d63 o3.sub
  replace o3 := o3.upF (Disj.symm d10) up
  clear up d67
  refine WD.one (i := 6) (by kernel_rfl) ?_
  refine S.stepq (i := 6) (keep := [2, 3, 12, 13, 14, 23, 24]) (m := 2) (σ' := ⟨[(2, .p 0 0), (3, .p 1 0), (12, .v (slv (if 3 < (all.length : Int) then 3 else (all.length : Int)).toNat (pall.1.sl 0 1))), (13, .v (I ((if 3 < (all.length : Int) then 3 else (all.length : Int)).toNat : Int))), (14, .v (I (k : Int))), (23, .v (slv (ms ++ [(f_monNew (el (all.take (if 3 < (all.length : Int) then 3 else (all.length : Int)).toNat) k))]).length q64.1)), (24, .p 1 1)], [Zc THost, [slv (List.replicate (f_brought 12 0 24).toNat (List.replicate 4 (0 : Int))).length q1.1, slv ms.length q6.1, slv ([] : List TEntry).length (GT.pdflt (α := List TEntry)).1, slv ([] : List TEntry).length (GT.pdflt (α := List TEntry)).1]]⟩) .nil (by kernel_rfl) fun ac w β S hβ => ?_
  refine WD.last (by kernel_rfl) ?_
  clear hβ
  refine WD.one (i := 7) (by kernel_rfl) ?_
  refine S.stepq (i := 7) (keep := [2, 3, 12, 13, 14]) (m := 2) (σ' := ⟨[(2, .p 0 0), (3, .p 1 0), (12, .v (slv (if 3 < (all.length : Int) then 3 else (all.length : Int)).toNat (pall.1.sl 0 1))), (13, .v (I ((if 3 < (all.length : Int) then 3 else (all.length : Int)).toNat : Int))), (14, .v (I (k : Int)))], [Zc THost, [slv (List.replicate (f_brought 12 0 24).toNat (List.replicate 4 (0 : Int))).length q1.1, slv (ms ++ [(f_monNew (el (all.take (if 3 < (all.length : Int) then 3 else (all.length : Int)).toNat) k))]).length q64.1, slv ([] : List TEntry).length (GT.pdflt (α := List TEntry)).1, slv ([] : List TEntry).length (GT.pdflt (α := List TEntry)).1]]⟩) .nil (by kernel_rfl) fun ac w β S hβ => ?_
  refine WD.last (by kernel_rfl) ?_
  clear hβ
  refine WD.done (by kernel_rfl) ?_ _
  refine S.ex fun S => ?_
  refine S.ge 6 (.cons (qp (k : Int) 1) .nil) f11 fun ac w β S => hf12.of (all.length - (k + 1)) _ _ (by omega) ⟨k + 1, (ms ++ [(f_monNew (el (all.take (if 3 < (all.length : Int) then 3 else (all.length : Int)).toNat) k))]), q64, F65, _, _, _, rfl, ?_, ?_, ?_, S.z, o66, o3, (Disj.symm d68)⟩
  ·exact oz
  ·exact oz
  ·clear S; (first | (rw [map_take_step (by omega) (by omega), ← hms]; done) | (rw [map_take_step (by omega) (by omega), ← hms, el_take (by omega)]))
 refine S.gr 13 .nil [GT.val (⟨(List.replicate (f_brought 12 0 24).toNat (List.replicate 4 (0 : Int))), ms, ([] : List TEntry), ([] : List TEntry)⟩ : THost) (⟨q1, q6, (GT.pdflt (α := List TEntry)), (GT.pdflt (α := List TEntry))⟩ : PHost)] fun ac w β S => ?_
 have o69 := S.nilOw (α := TEntry)
 have o70 := S.nilOw (α := TEntry)
 have o71 := ow_Host (x := (⟨(List.replicate (f_brought 12 0 24).toNat (List.replicate 4 (0 : Int))), ms, ([] : List TEntry), ([] : List TEntry)⟩ : THost)) (p := (⟨q1, q6, (GT.pdflt (α := List TEntry)), (GT.pdflt (α := List TEntry))⟩ : PHost)) o3 o8 o69 o70 (Disj.symm d10) (fun b _ h => False.elim h) (fun b _ h => False.elim h) (fun b _ h => False.elim h) (fun b _ h => False.elim h) (fun b _ h => False.elim h) 
 exact ret1_of S (show f_hostNew all = (⟨(List.replicate (f_brought 12 0 24).toNat (List.replicate 4 (0 : Int))), ms, ([] : List TEntry), ([] : List TEntry)⟩ : THost) by clear S; (rw [hms, map_take_end (by omega)]; rfl)) rfl o71

theorem k0_impl_within {p : Prop} (h : p := by clear S; first | rfl | (simp [f_within, *]; done) | (simp [f_within, *]; omega) | (simp_all [f_within]; done) | (simp_all [f_within]; omega)) : p := h
theorem c_impl_within (w0 : World) (n : Int) (a : Int) (b : Int) : Calls Try.prog 45 [I n, I a, I b].toArray w0 (fun e w' => e = .returned (B (f_within n a b)) ∧ Chg NoB w0 w') := by
 refine Calls.run NoB Try.func45 ?_
 intro ac β S
 refine S.gd 11 .nil (decide (n ≥ a)) (fun ac w β h1 g2 S => ?_) (fun ac w β h1 g2 S => ?_)
 ·exact S.gf 8 .nil [B (decide (n ≤ b))] (retB k0_impl_within)
 exact S.gf 8 .nil [B false] (retB k0_impl_within)

theorem c_impl_PageOk (w0 : World) (cells : List Int) (pcells : LP Int) (hcells : RD w0 cells pcells) : Calls Try.prog 84 [slv cells.length pcells.1].toArray w0 (fun e w' => e = .returned (B (f_pageOk cells)) ∧ Chg NoB w0 w') := by
 refine Calls.run NoB Try.func84 ?_
 intro ac β S
 have hlecells : cells.length ≤ 4194304 := LRd.le hcells
 refine S.go 14 .nil fun ac w β S => ?_
 refine lp (fun mm ac w => ∃ (k : Nat)  (u : _) (N : _) (β : _), mm = cells.length - k ∧ (k ≤ cells.length) ∧ ((cells.take k).all (fun v => f_within v 0 99) = true) ∧ St Try.prog Try.f84.ntmps w0 NoB u N β ⟨[(0, .v (slv cells.length pcells.1)), (5, .v (slv cells.length pcells.1)), (6, .v (I (cells.length : Int))), (7, .v (I (k : Int)))], []⟩ ac w) _ ⟨0, _, _, _, rfl, o0, (by simp), S.z⟩ ?_
 clear S
 rintro f1 mm hf2 ac w ⟨k, u, N, β, rfl, hk, he, S⟩
 refine S.rs fun S => ?_
 refine S.gd 6 .nil (decide ((k : Int) < (cells.length : Int))) (fun ac w β h3 g4 S => ?_) (fun ac w β h3 g4 S => ?_)
 ·refine S.gb 19 (.cons (qn (S.arg hcells) k Try.underlying24) (.cons (qx (S.arg hcells) 3 k) (.cons (Q_call fun w hw => c_impl_within w (el cells k) 0 99) .nil))) (!(f_within (el cells k) 0 99)) (fun ac w β h5 S => ?_) (fun ac w β h5 S => ?_)
  ·have h6 := not_t h5
   have g7 := within_f h6
   exact S.gf 7 .nil [B false] (retB (by clear S; (first | (unfold f_pageOk; rw [all_bad (k := k) (by omega) (by first | assumption | simp_all)]; simp; done) | (unfold f_pageOk; rw [all_end (by omega) he]; simp; done) | (unfold f_pageOk; rw [all_end (by omega) he]; simp [*]; done) | (unfold f_pageOk; rw [all_end (by omega) he]; simp; omega))))
  have h8 := not_f h5
  have g9 := within_t h8
  refine S.ge 8 (.cons (qp (k : Int) 1) .nil) f1 fun ac w β S => hf2.of (cells.length - (k + 1)) _ _ (by omega) ⟨k + 1, _, _, _, rfl, ?_, ?_, S.z⟩
  ·exact oz
  ·clear S; exact all_step (by omega) he (by first | assumption | (simp only [f_slotOk, f_within] at *; simp_all; done) | (simp_all; done) | (simp_all; omega))
 exact S.gf 15 .nil [B ((cells.length : Int) == 4)] (retB (by clear S; (first | (unfold f_pageOk; rw [all_end (by omega) he]; simp; done) | (unfold f_pageOk; rw [all_end (by omega) he]; simp [*]; done) | (unfold f_pageOk; rw [all_end (by omega) he]; simp; omega) | (unfold f_pageOk; rw [all_bad (k := k) (by omega) (by first | assumption | simp_all)]; simp; done))))

theorem c_impl_MemOk (w0 : World) (m : List (List Int)) (pm : LP (List Int)) (hm : RD w0 m pm) (pages : Int) : Calls Try.prog 44 [slv m.length pm.1, I pages].toArray w0 (fun e w' => e = .returned (B (f_memOk m pages)) ∧ Chg NoB w0 w') := by
 refine Calls.run NoB Try.func44 ?_
 intro ac β S
 have hlem : m.length ≤ 4194304 := LRd.le hm
 refine S.go 14 .nil fun ac w β S => ?_
 refine lp (fun mm ac w => ∃ (k : Nat)  (u : _) (N : _) (β : _), mm = m.length - k ∧ (k ≤ m.length) ∧ ((m.take k).all f_pageOk = true) ∧ St Try.prog Try.f44.ntmps w0 NoB u N β ⟨[(0, .v (slv m.length pm.1)), (1, .v (I pages)), (7, .v (slv m.length pm.1)), (8, .v (I (m.length : Int))), (9, .v (I (k : Int)))], []⟩ ac w) _ ⟨0, _, _, _, rfl, o0, (by simp), S.z⟩ ?_
 clear S
 rintro f1 mm hf2 ac w ⟨k, u, N, β, rfl, hk, he, S⟩
 refine S.rs fun S => ?_
 refine S.gd 6 .nil (decide ((k : Int) < (m.length : Int))) (fun ac w β h3 g4 S => ?_) (fun ac w β h3 g4 S => ?_)
 ·refine S.gb 19 (.cons (qn (S.arg hm) k Try.underlying31) (.cons (qx (S.arg hm) 24 k) (.cons (Q_call fun w hw => c_impl_PageOk w (el m k) (pm.2 k) (rd_of (LRd.el (S.arg hm) k (by omega)) hw)) .nil))) (!(f_pageOk (el m k))) (fun ac w β h5 S => ?_) (fun ac w β h5 S => ?_)
  ·have h6 := not_t h5
   exact S.gf 7 .nil [B false] (retB (by clear S; (first | (unfold f_memOk; rw [all_bad (k := k) (by omega) (by first | assumption | simp_all)]; simp; done) | (unfold f_memOk; rw [all_end (by omega) he]; simp; done) | (unfold f_memOk; rw [all_end (by omega) he]; simp [*]; done) | (unfold f_memOk; rw [all_end (by omega) he]; simp; omega))))
  have h7 := not_f h5
  refine S.ge 8 (.cons (qp (k : Int) 1) .nil) f1 fun ac w β S => hf2.of (m.length - (k + 1)) _ _ (by omega) ⟨k + 1, _, _, _, rfl, ?_, ?_, S.z⟩
  ·exact oz
  ·clear S; exact all_step (by omega) he (by first | assumption | (simp only [f_slotOk, f_within] at *; simp_all; done) | (simp_all; done) | (simp_all; omega))
 exact S.gf 16 .nil [B ((m.length : Int) == pages)] (retB (by clear S; (first | (unfold f_memOk; rw [all_end (by omega) he]; simp; done) | (unfold f_memOk; rw [all_end (by omega) he]; simp [*]; done) | (unfold f_memOk; rw [all_end (by omega) he]; simp; omega) | (unfold f_memOk; rw [all_bad (k := k) (by omega) (by first | assumption | simp_all)]; simp; done))))

theorem k0_impl_BufferOk {p : Prop} (h : p := by clear S; (first | (unfold f_bufferOk; rw [show b.length = i by omega, he]; first | rfl | (simp [*]; done) | (simp; omega) | (rw [Bool.eq_iff_iff]; simp; omega)) | (unfold f_bufferOk; rw [rng_bad (k := i) (by omega) (rng_bad (k := k) (by omega) (by simp_all <;> fail))]; rfl))) : p := h
theorem c_impl_BufferOk (w0 : World) (b : List TEntry) (pb : LP TEntry) (hb : RD w0 b pb) : Calls Try.prog 46 [slv b.length pb.1].toArray w0 (fun e w' => e = .returned (B (f_bufferOk b)) ∧ Chg NoB w0 w') := by
 refine Calls.run NoB Try.func46 ?_
 intro ac β S
 have hleb : b.length ≤ 4194304 := LRd.le hb
 refine S.go 14 .nil fun ac w β S => ?_
 refine lp (fun mm ac w => ∃ (i : Nat)  (u : _) (N : _) (β : _), mm = b.length - i ∧ (i ≤ b.length) ∧ ((List.range i).all (fun i => (List.range i).all fun k => !(decide ((el b i).tag = (el b k).tag) && decide ((el b i).page = (el b k).page))) = true) ∧ St Try.prog Try.f46.ntmps w0 NoB u N β ⟨[(0, .v (slv b.length pb.1)), (7, .v (slv b.length pb.1)), (8, .v (I (b.length : Int))), (9, .v (I (i : Int)))], []⟩ ac w) _ ⟨0, _, _, _, rfl, o0, (by rfl), S.z⟩ ?_
 clear S
 rintro f1 mm hf2 ac w ⟨i, u, N, β, rfl, hi, he, S⟩
 refine S.rs fun S => ?_
 refine S.gd 6 .nil (decide ((i : Int) < (b.length : Int))) (fun ac w β h3 g4 S => ?_) (fun ac w β h3 g4 S => ?_)
 ·have l5 : (b.take i).length = i - 0 := by first | (simp; done) | (simp; omega)
  refine S.go 25 (.cons (qn (S.arg hb) i Try.underlying33) (.cons (qs (S.arg hb) 119 i) (.cons (Q_slice (S.arg hb) (l := b.length) (a := 0) (b := i) rfl (.inl ⟨rfl, rfl⟩) (.inr rfl) (by omega) (by omega) Try.underlying33 (by kernel_rfl)) .nil))) fun ac w β S => ?_
  refine lp (fun mm ac w => ∃ (k : Nat)  (u : _) (N : _) (β : _), mm = i - k ∧ (k ≤ i) ∧ ((List.range k).all (fun k => !(decide ((el b i).tag = (el b k).tag) && decide ((el b i).page = (el b k).page))) = true) ∧ St Try.prog Try.f46.ntmps w0 NoB u N β ⟨[(0, .v (slv b.length pb.1)), (4, .p 0 0), (7, .v (slv b.length pb.1)), (8, .v (I (b.length : Int))), (9, .v (I (i : Int))), (16, .v (slv i (pb.1.sl 0 4))), (17, .v (I (i : Int))), (18, .v (I (k : Int)))], [GT.cells (el b i) ()]⟩ ac w) _ ⟨0, _, _, _, rfl, o0, (by rfl), S.z⟩ ?_
  clear S
  rintro f6 mm hf7 ac w ⟨k, u, N, β, rfl, hk, he2, S⟩
  refine S.rs fun S => ?_
  have eltk : k < i → el (b.take i) k = el b k := fun h => el_take h
  refine S.gd 6 .nil (decide ((k : Int) < (i : Int))) (fun ac w β h8 g9 S => ?_) (fun ac w β h8 g9 S => ?_)
  ·refine S.gd 21 (.cons (Q_idx (show GT.rd KK _ _ (b.take i) ((pb.1.sl 0 4, fun i => pb.2 (0 + i)) : LP TEntry) from rd_sl (S.arg hb) (a := 0) (b := i) (by omega) (by omega)) (l := i) (k := k) (i := (k : Int)) (by omega) rfl (by omega) Try.underlying33 (by kernel_rfl)) (.cons (qs (show GT.rd KK _ _ (b.take i) ((pb.1.sl 0 4, fun i => pb.2 (0 + i)) : LP TEntry) from rd_sl (S.arg hb) (a := 0) (b := i) (by omega) (by omega)) 119 k) .nil)) ((el b i).tag == (el (b.take i) k).tag) (fun ac w β h10 g11 S => ?_) (fun ac w β h10 g11 S => ?_)
   ·refine S.gd 8 .nil ((el b i).page == (el (b.take i) k).page) (fun ac w β h12 g13 S => ?_) (fun ac w β h12 g13 S => ?_)
    ·exact S.gf 7 .nil [B false] (retB k0_impl_BufferOk)
    refine S.ge 8 (.cons (qp (k : Int) 1) .nil) f6 fun ac w β S => hf7.of (i - (k + 1)) _ _ (by omega) ⟨k + 1, _, _, _, rfl, ?_, ?_, S.z⟩
    ·exact oz
    ·clear S; (refine rng_step he2 ?_; simp_all)
   refine S.ge 16 (.cons (qp (k : Int) 1) .nil) f6 fun ac w β S => hf7.of (i - (k + 1)) _ _ (by omega) ⟨k + 1, _, _, _, rfl, ?_, ?_, S.z⟩
   ·exact oz
   ·clear S; (refine rng_step he2 ?_; simp_all)
  refine S.ge 11 (.cons (qp (i : Int) 1) .nil) f1 fun ac w β S => hf2.of (b.length - (i + 1)) _ _ (by omega) ⟨i + 1, _, _, _, rfl, ?_, ?_, S.z⟩
  ·exact oz
  ·clear S; (refine rng_step he ?_); (have e : k = i := (by omega)); rw [e] at he2; exact he2
 exact S.gf 15 .nil [B (decide ((b.length : Int) ≤ 6))] (retB k0_impl_BufferOk)

theorem k0_impl_SlotOk {p : Prop} (h : p := by clear S; first | rfl | (simp [f_slotOk, *]; done) | (simp [f_slotOk, *]; omega) | (simp_all [f_slotOk]; done) | (simp_all [f_slotOk]; omega)) : p := h
theorem c_impl_SlotOk (w0 : World) (s : TSlot) (pages : Int) (pre0 : 0 ≤ pages) (pre1 : pages ≤ 1000) : Calls Try.prog 103 [GT.val s (), I pages].toArray w0 (fun e w' => e = .returned (B (f_slotOk s pages)) ∧ Chg NoB w0 w') := by
 refine Calls.run NoB Try.func103 ?_
 intro ac β S
 refine S.go 7 .nil fun ac w β S => ?_
 refine drw ?_
 rcases Bool.eq_false_or_eq_true (decide (s = (⟨-1, 0⟩ : TSlot))) with h1 | h1
 ·refine S.drawnO [(3, true)] (keep := [4]) (m := 0) (σ' := ⟨[(4, .v (B true))], []⟩) (.cons (Q_call fun w hw => c_impl_NoSlot w ) (.cons (Eq_eq_Slot (t := 54) s (⟨-1, 0⟩ : TSlot) (by kernel_rfl)) .nil)) rfl (by kernel_rfl) (by kernel_rfl) (.cons h1 .nil) fun ac w S => ?_
  refine S.ex fun S => ?_
  exact S.gf 2 .nil [B true] (retB k0_impl_SlotOk)
 ·rcases Bool.eq_false_or_eq_true (decide (pages > 0)) with h2 | h2
  ·have g3 := of_decide_eq_true h2
   rcases Bool.eq_false_or_eq_true (f_within s.page 0 (pages - 1)) with h4 | h4
   ·have g5 := within_t h4
    refine S.drawnO [(3, false), (6, true), (13, true)] (keep := [4]) (m := 0) (σ' := ⟨[(4, .v (B (f_within s.rights 1 3)))], []⟩) (.cons (Q_call fun w hw => c_impl_NoSlot w ) (.cons (Eq_eq_Slot (t := 54) s (⟨-1, 0⟩ : TSlot) (by kernel_rfl)) (.cons (qm pages 1) (.cons (Q_call fun w hw => c_impl_within w s.page 0 (pages - 1)) (.cons (Q_call fun w hw => c_impl_within w s.rights 1 3) .nil))))) rfl (by kernel_rfl) (by kernel_rfl) (.cons h1 (.cons h2 (.cons h4 .nil))) fun ac w S => ?_
    refine S.ex fun S => ?_
    exact S.gf 2 .nil [B (f_within s.rights 1 3)] (retB k0_impl_SlotOk)
   ·have g6 := within_f h4
    refine S.drawnO [(3, false), (6, true), (13, false)] (keep := [4]) (m := 0) (σ' := ⟨[(4, .v (B false))], []⟩) (.cons (Q_call fun w hw => c_impl_NoSlot w ) (.cons (Eq_eq_Slot (t := 54) s (⟨-1, 0⟩ : TSlot) (by kernel_rfl)) (.cons (qm pages 1) (.cons (Q_call fun w hw => c_impl_within w s.page 0 (pages - 1)) .nil)))) rfl (by kernel_rfl) (by kernel_rfl) (.cons h1 (.cons h2 (.cons h4 .nil))) fun ac w S => ?_
    refine S.ex fun S => ?_
    exact S.gf 2 .nil [B false] (retB k0_impl_SlotOk)
  ·have g7 := of_decide_eq_false h2
   refine S.drawnO [(3, false), (6, false)] (keep := [4]) (m := 0) (σ' := ⟨[(4, .v (B false))], []⟩) (.cons (Q_call fun w hw => c_impl_NoSlot w ) (.cons (Eq_eq_Slot (t := 54) s (⟨-1, 0⟩ : TSlot) (by kernel_rfl)) .nil)) rfl (by kernel_rfl) (by kernel_rfl) (.cons h1 (.cons h2 .nil)) fun ac w S => ?_
   refine S.ex fun S => ?_
   exact S.gf 2 .nil [B false] (retB k0_impl_SlotOk)

theorem c_impl_TableOk (w0 : World) (t : List TSlot) (pt : LP TSlot) (ht : RD w0 t pt) (size : Int) (pages : Int) (pre0 : 0 ≤ pages) (pre1 : pages ≤ 1000) : Calls Try.prog 85 [slv t.length pt.1, I size, I pages].toArray w0 (fun e w' => e = .returned (B (f_tableOk t size pages)) ∧ Chg NoB w0 w') := by
 refine Calls.run NoB Try.func85 ?_
 intro ac β S
 have hlet : t.length ≤ 4194304 := LRd.le ht
 refine S.go 14 .nil fun ac w β S => ?_
 refine lp (fun mm ac w => ∃ (k : Nat)  (u : _) (N : _) (β : _), mm = t.length - k ∧ (k ≤ t.length) ∧ ((t.take k).all (fun s => f_slotOk s pages) = true) ∧ St Try.prog Try.f85.ntmps w0 NoB u N β ⟨[(0, .v (slv t.length pt.1)), (1, .v (I size)), (2, .v (I pages)), (9, .v (slv t.length pt.1)), (10, .v (I (t.length : Int))), (11, .v (I (k : Int)))], []⟩ ac w) _ ⟨0, _, _, _, rfl, o0, (by simp), S.z⟩ ?_
 clear S
 rintro f1 mm hf2 ac w ⟨k, u, N, β, rfl, hk, he, S⟩
 refine S.rs fun S => ?_
 refine S.gd 6 .nil (decide ((k : Int) < (t.length : Int))) (fun ac w β h3 g4 S => ?_) (fun ac w β h3 g4 S => ?_)
 ·refine S.gb 21 (.cons (qn (S.arg ht) k Try.underlying37) (.cons (qs (S.arg ht) 54 k) (.cons (Q_call fun w hw => c_impl_SlotOk w (el t k) pages (by omega) (by omega)) .nil))) (!(f_slotOk (el t k) pages)) (fun ac w β h5 S => ?_) (fun ac w β h5 S => ?_)
  ·have h6 := not_t h5
   exact S.gf 7 .nil [B false] (retB (by clear S; (first | (unfold f_tableOk; rw [all_bad (k := k) (by omega) (by first | assumption | simp_all)]; simp; done) | (unfold f_tableOk; rw [all_end (by omega) he]; simp; done) | (unfold f_tableOk; rw [all_end (by omega) he]; simp [*]; done) | (unfold f_tableOk; rw [all_end (by omega) he]; simp; omega))))
  have h7 := not_f h5
  refine S.ge 8 (.cons (qp (k : Int) 1) .nil) f1 fun ac w β S => hf2.of (t.length - (k + 1)) _ _ (by omega) ⟨k + 1, _, _, _, rfl, ?_, ?_, S.z⟩
  ·exact oz
  ·clear S; exact all_step (by omega) he (by first | assumption | (simp only [f_slotOk, f_within] at *; simp_all; done) | (simp_all; done) | (simp_all; omega))
 exact S.gf 16 .nil [B ((t.length : Int) == size)] (retB (by clear S; (first | (unfold f_tableOk; rw [all_end (by omega) he]; simp; done) | (unfold f_tableOk; rw [all_end (by omega) he]; simp [*]; done) | (unfold f_tableOk; rw [all_end (by omega) he]; simp; omega) | (unfold f_tableOk; rw [all_bad (k := k) (by omega) (by first | assumption | simp_all)]; simp; done))))

theorem c_impl_PendOk (w0 : World) (p : Int) : Calls Try.prog 86 [I p].toArray w0 (fun e w' => e = .returned (B (f_within p 0 255)) ∧ Chg NoB w0 w') := by
 refine Calls.run NoB Try.func86 ?_
 intro ac β S
 exact S.gf 13 (.cons (Q_call fun w hw => c_impl_within w p 0 255) .nil) [B (f_within p 0 255)] (retB (by clear S; first | rfl | (simp [f_within, *]; done) | (simp [f_within, *]; omega) | (simp_all [f_within]; done) | (simp_all [f_within]; omega)))

theorem k0_impl_InsOk {p : Prop} (h : p := by clear S; first | rfl | (simp [f_insOk, *]; done) | (simp [f_insOk, *]; omega) | (simp_all [f_insOk]; done) | (simp_all [f_insOk]; omega)) : p := h
theorem c_impl_InsOk (w0 : World) (i : TIns) : Calls Try.prog 132 [GT.val i ()].toArray w0 (fun e w' => e = .returned (B (f_insOk i)) ∧ Chg NoB w0 w') := by
 refine Calls.run NoB Try.func132 ?_
 intro ac β S
 refine S.gd 21 .nil (i.opc == 1) (fun ac w β h1 g2 S => ?_) (fun ac w β h1 g2 S => ?_)
 ·exact S.gf 13 (.cons (Q_call fun w hw => c_impl_within w i.x 0 99) .nil) [B (f_within i.x 0 99)] (retB k0_impl_InsOk)
 refine S.gd 7 .nil (i.opc == 2) (fun ac w β h3 g4 S => ?_) (fun ac w β h3 g4 S => ?_)
 ·exact S.gf 13 (.cons (Q_call fun w hw => c_impl_within w i.x 0 99) .nil) [B (f_within i.x 0 99)] (retB k0_impl_InsOk)
 refine S.gd 7 .nil (i.opc == 5) (fun ac w β h5 g6 S => ?_) (fun ac w β h5 g6 S => ?_)
 ·exact S.gf 13 (.cons (Q_call fun w hw => c_impl_within w i.x 0 99) .nil) [B (f_within i.x 0 99)] (retB k0_impl_InsOk)
 refine S.gd 6 .nil (i.opc == 6) (fun ac w β h7 g8 S => ?_) (fun ac w β h7 g8 S => ?_)
 ·exact S.gf 10 (.cons (Q_call fun w hw => c_impl_within w i.x 0 99) .nil) [B (f_within i.x 0 99)] (retB k0_impl_InsOk)
 refine S.gd 8 .nil (i.opc == 3) (fun ac w β h9 g10 S => ?_) (fun ac w β h9 g10 S => ?_)
 ·exact S.gf 13 (.cons (Q_call fun w hw => c_impl_within w i.x 0 15) .nil) [B (f_within i.x 0 15)] (retB k0_impl_InsOk)
 refine S.gd 6 .nil (i.opc == 4) (fun ac w β h11 g12 S => ?_) (fun ac w β h11 g12 S => ?_)
 ·exact S.gf 10 (.cons (Q_call fun w hw => c_impl_within w i.x 0 15) .nil) [B (f_within i.x 0 15)] (retB k0_impl_InsOk)
 refine S.gd 7 .nil (i.opc == 7) (fun ac w β h13 g14 S => ?_) (fun ac w β h13 g14 S => ?_)
 ·exact S.gf 10 .nil [B (i.x == 0)] (retB k0_impl_InsOk)
 refine S.gd 7 .nil (i.opc == 8) (fun ac w β h15 g16 S => ?_) (fun ac w β h15 g16 S => ?_)
 ·exact S.gf 10 (.cons (Q_call fun w hw => c_impl_within w i.x 0 11) .nil) [B (f_within i.x 0 11)] (retB k0_impl_InsOk)
 exact S.gf 10 .nil [B false] (retB k0_impl_InsOk)

theorem c_impl_ProgOk (w0 : World) (p : List TIns) (pp : LP TIns) (hp : RD w0 p pp) : Calls Try.prog 113 [slv p.length pp.1].toArray w0 (fun e w' => e = .returned (B (f_progOk p)) ∧ Chg NoB w0 w') := by
 refine Calls.run NoB Try.func113 ?_
 intro ac β S
 have hlep : p.length ≤ 4194304 := LRd.le hp
 refine S.go 14 .nil fun ac w β S => ?_
 refine lp (fun mm ac w => ∃ (k : Nat)  (u : _) (N : _) (β : _), mm = p.length - k ∧ (k ≤ p.length) ∧ ((p.take k).all f_insOk = true) ∧ St Try.prog Try.f113.ntmps w0 NoB u N β ⟨[(0, .v (slv p.length pp.1)), (5, .v (slv p.length pp.1)), (6, .v (I (p.length : Int))), (7, .v (I (k : Int)))], []⟩ ac w) _ ⟨0, _, _, _, rfl, o0, (by simp), S.z⟩ ?_
 clear S
 rintro f1 mm hf2 ac w ⟨k, u, N, β, rfl, hk, he, S⟩
 refine S.rs fun S => ?_
 refine S.gd 6 .nil (decide ((k : Int) < (p.length : Int))) (fun ac w β h3 g4 S => ?_) (fun ac w β h3 g4 S => ?_)
 ·refine S.gb 20 (.cons (qn (S.arg hp) k Try.underlying28) (.cons (qs (S.arg hp) 27 k) (.cons (Q_call fun w hw => c_impl_InsOk w (el p k)) .nil))) (!(f_insOk (el p k))) (fun ac w β h5 S => ?_) (fun ac w β h5 S => ?_)
  ·have h6 := not_t h5
   exact S.gf 7 .nil [B false] (retB (by clear S; (first | (unfold f_progOk; rw [all_bad (k := k) (by omega) (by first | assumption | simp_all)]; simp; done) | (unfold f_progOk; rw [all_end (by omega) he]; simp; done) | (unfold f_progOk; rw [all_end (by omega) he]; simp [*]; done) | (unfold f_progOk; rw [all_end (by omega) he]; simp; omega))))
  have h7 := not_f h5
  refine S.ge 8 (.cons (qp (k : Int) 1) .nil) f1 fun ac w β S => hf2.of (p.length - (k + 1)) _ _ (by omega) ⟨k + 1, _, _, _, rfl, ?_, ?_, S.z⟩
  ·exact oz
  ·clear S; exact all_step (by omega) he (by first | assumption | (simp only [f_slotOk, f_within] at *; simp_all; done) | (simp_all; done) | (simp_all; omega))
 exact S.gf 15 (.cons (Q_call fun w hw => c_impl_within w (p.length : Int) 1 12) .nil) [B (f_within (p.length : Int) 1 12)] (retB (by clear S; (first | (unfold f_progOk; rw [all_end (by omega) he]; simp; done) | (unfold f_progOk; rw [all_end (by omega) he]; simp [*]; done) | (unfold f_progOk; rw [all_end (by omega) he]; simp; omega) | (unfold f_progOk; rw [all_bad (k := k) (by omega) (by first | assumption | simp_all)]; simp; done))))

theorem c_impl_CtlFaults (w0 : World) (c : TCtl) : Calls Try.prog 133 [GT.val c ()].toArray w0 (Ret1 NoB w0 (f_ctlFaults c : List Int)) := by
 refine Calls.run NoB Try.func133 ?_
 intro ac β S
 refine S.go 8 .nil fun ac w β S => S.B0 (α := Int) (d := 4) fun ac w N q1 F2 S up o3 d4 => ?_
 clear up d4
 refine S.go 12 (.cons (Q_call fun w hw => c_impl_within w c.traps 0 3) .nil) fun ac w β S => ?_
 refine cutC S (fun ac w => ∃ (acc1 : List Int) (q5 : _) (F6 : _) (u : _) (N : _) (β : _), (acc1 = (if f_within c.traps 0 3 then [] else [1])) ∧ St Try.prog Try.f133.ntmps w0 NoB u N β ⟨[(1, .p 0 0), (3, .v (slv acc1.length q5.1))], [GT.cells c ()]⟩ ac w ∧ Ow w0 NoB u N F6 acc1 q5) ?_ ?_
 ·clear S; intro S
  refine S.gb 0 .nil (!(f_within c.traps 0 3)) (fun ac w β h8 S => ?_) (fun ac w β h8 S => ?_)
  ·have h9 := not_t h8
   have g10 := within_f h9
   refine S.go 3 .nil fun ac w β S => S.B1 (α := Int) (x := 1) (p := ()) (F := NoB) (show In64 1 from ⟨by decide, by decide⟩) (fun b h => False.elim h) (fun b h => False.elim h) (d := 10) fun ac w N q11 F12 S up o13 d14 => ?_
   have d15 := d14 _ (fun b _ h => False.elim h) o3.sub
   replace o3 := o3.up up
   clear up d14
   refine S.AF0 (α := Int) o3 o13.rn (fun _ _ h => h) (by' := 8) (d := 11) (lx := 0) (ly := 1) rfl fun ac w N q16 F17 S up o18 d19 => ?_
   have d20 := d19 _ (Disj.symm d15) o13.sub
   replace o13 := o13.upF (Disj.symm d15) up
   clear up d19
   exact S.gn 2 .nil fun ac w β S => ⟨rfl, ([1]), q16, F17, _, _, _, (by clear S; (first | (rw [if_pos (by assumption)]; simp [*]; done) | (rw [if_neg (by simp [*])]; simp [*]; done) | ((repeat' split) <;> first | rfl | (simp; done) | (exfalso; simp_all; done) | (simp_all; done)))), S.z, o18⟩
  have h21 := not_f h8
  have g22 := within_t h21
  exact S.gn 2 .nil fun ac w β S => ⟨rfl, ([] : List Int), q1, F2, _, _, _, (by clear S; (first | (rw [if_pos (by assumption)]; simp [*]; done) | (rw [if_neg (by simp [*])]; simp [*]; done) | ((repeat' split) <;> first | rfl | (simp; done) | (exfalso; simp_all; done) | (simp_all; done)))), S.z, o3⟩
 clear S o3
 rintro ac w ⟨acc1, q5, F6, u, N, β, ha1, S, o7⟩
 have hl1 : acc1.length ≤ 1 := by rw [ha1]; (repeat' split) <;> simp
 refine S.ex fun S => ?_
 refine S.go 10 (.cons (Q_call fun w hw => c_impl_within w c.post 0 255) .nil) fun ac w β S => ?_
 refine cutC S (fun ac w => ∃ (acc2 : List Int) (q23 : _) (F24 : _) (u : _) (N : _) (β : _), (acc2 = (if f_within c.traps 0 3 then [] else [1]) ++ (if f_within c.post 0 255 then [] else [2])) ∧ St Try.prog Try.f133.ntmps w0 NoB u N β ⟨[(1, .p 0 0), (3, .v (slv acc2.length q23.1))], [GT.cells c ()]⟩ ac w ∧ Ow w0 NoB u N F24 acc2 q23) ?_ ?_
 ·clear S; intro S
  refine S.gb 0 .nil (!(f_within c.post 0 255)) (fun ac w β h26 S => ?_) (fun ac w β h26 S => ?_)
  ·have h27 := not_t h26
   have g28 := within_f h27
   refine S.go 3 .nil fun ac w β S => S.B1 (α := Int) (x := 2) (p := ()) (F := NoB) (show In64 2 from ⟨by decide, by decide⟩) (fun b h => False.elim h) (fun b h => False.elim h) (d := 17) fun ac w N q29 F30 S up o31 d32 => ?_
   have d33 := d32 _ (fun b _ h => False.elim h) o7.sub
   replace o7 := o7.up up
   clear up d32
   refine S.AF (α := Int) o7 o31.rn (fun _ _ h => h) (by' := 8) (d := 18) (lx := acc1.length) (ly := 1) rfl rfl (show _ ≤ 4194304 by simp only [List.length_append, List.length_cons, List.length_nil]; omega) fun ac w N q34 F35 S up o36 d37 => ?_
   have d38 := d37 _ (Disj.symm d33) o31.sub
   replace o31 := o31.upF (Disj.symm d33) up
   clear up d37
   exact S.gn 2 .nil fun ac w β S => ⟨rfl, (acc1 ++ [2]), q34, F35, _, _, _, (by clear S; (first | (rw [if_pos (by assumption)]; simp [*]; done) | (rw [if_neg (by simp [*])]; simp [*]; done) | (rw [ha1]; (repeat' split) <;> first | rfl | (simp; done) | (exfalso; simp_all; done) | (simp_all; done)))), S.z, o36⟩
  have h39 := not_f h26
  have g40 := within_t h39
  exact S.gn 2 .nil fun ac w β S => ⟨rfl, acc1, q5, F6, _, _, _, (by clear S; (first | (rw [if_pos (by assumption)]; simp [*]; done) | (rw [if_neg (by simp [*])]; simp [*]; done) | (rw [ha1]; (repeat' split) <;> first | rfl | (simp; done) | (exfalso; simp_all; done) | (simp_all; done)))), S.z, o7⟩
 clear S o7
 rintro ac w ⟨acc2, q23, F24, u, N, β, ha2, S, o25⟩
 have hl2 : acc2.length ≤ 2 := by rw [ha2]; (repeat' split) <;> simp
 refine S.ex fun S => ?_
 refine S.gd 8 .nil (c.post != 0) (fun ac w β h41 g42 S => ?_) (fun ac w β h41 g42 S => ?_)
 ·refine S.go 6 .nil fun ac w β S => ?_
  refine cutC S (fun ac w => ∃ (acc3 : List Int) (q43 : _) (F44 : _) (u : _) (N : _) (β : _), (acc3 = (if f_within c.traps 0 3 then [] else [1]) ++ (if f_within c.post 0 255 then [] else [2]) ++ (if c.post ≠ 0 ∧ c.opn = false then [3] else [])) ∧ St Try.prog Try.f133.ntmps w0 NoB u N β ⟨[(1, .p 0 0), (3, .v (slv acc3.length q43.1))], [GT.cells c ()]⟩ ac w ∧ Ow w0 NoB u N F44 acc3 q43) ?_ ?_
  ·clear S; intro S
   refine S.gb 0 .nil (!c.opn) (fun ac w β h46 S => ?_) (fun ac w β h46 S => ?_)
   ·have h47 := not_t h46
    refine S.go 3 .nil fun ac w β S => S.B1 (α := Int) (x := 3) (p := ()) (F := NoB) (show In64 3 from ⟨by decide, by decide⟩) (fun b h => False.elim h) (fun b h => False.elim h) (d := 28) fun ac w N q48 F49 S up o50 d51 => ?_
    have d52 := d51 _ (fun b _ h => False.elim h) o25.sub
    replace o25 := o25.up up
    clear up d51
    refine S.AF (α := Int) o25 o50.rn (fun _ _ h => h) (by' := 8) (d := 29) (lx := acc2.length) (ly := 1) rfl rfl (show _ ≤ 4194304 by simp only [List.length_append, List.length_cons, List.length_nil]; omega) fun ac w N q53 F54 S up o55 d56 => ?_
    have d57 := d56 _ (Disj.symm d52) o50.sub
    replace o50 := o50.upF (Disj.symm d52) up
    clear up d56
    exact S.gn 2 .nil fun ac w β S => ⟨rfl, (acc2 ++ [3]), q53, F54, _, _, _, (by clear S; (first | (rw [if_pos (by assumption)]; simp [*]; done) | (rw [if_neg (by simp [*])]; simp [*]; done) | (rw [ha2]; (repeat' split) <;> first | rfl | (simp; done) | (exfalso; simp_all; done) | (simp_all; done)))), S.z, o55⟩
   have h58 := not_f h46
   exact S.gn 2 .nil fun ac w β S => ⟨rfl, acc2, q23, F24, _, _, _, (by clear S; (first | (rw [if_pos (by assumption)]; simp [*]; done) | (rw [if_neg (by simp [*])]; simp [*]; done) | (rw [ha2]; (repeat' split) <;> first | rfl | (simp; done) | (exfalso; simp_all; done) | (simp_all; done)))), S.z, o25⟩
  clear S o25
  rintro ac w ⟨acc3, q43, F44, u, N, β, ha3, S, o45⟩
  have hl3 : acc3.length ≤ 3 := by rw [ha3]; (repeat' split) <;> simp
  refine S.ex fun S => ?_
  refine S.gd 8 .nil (c.traps == 2) (fun ac w β h59 g60 S => ?_) (fun ac w β h59 g60 S => ?_)
  ·refine S.go 6 .nil fun ac w β S => ?_
   refine cutC S (fun ac w => ∃ (acc4 : List Int) (q61 : _) (F62 : _) (u : _) (N : _) (β : _), (acc4 = (if f_within c.traps 0 3 then [] else [1]) ++ (if f_within c.post 0 255 then [] else [2]) ++ (if c.post ≠ 0 ∧ c.opn = false then [3] else []) ++ (if c.traps = 2 ∧ c.post ≠ 0 then [4] else [])) ∧ St Try.prog Try.f133.ntmps w0 NoB u N β ⟨[(3, .v (slv acc4.length q61.1))], []⟩ ac w ∧ Ow w0 NoB u N F62 acc4 q61) ?_ ?_
   ·clear S; intro S
    refine S.lt 37 h41 fun S => ?_
    refine S.go 3 .nil fun ac w β S => S.B1 (α := Int) (x := 4) (p := ()) (F := NoB) (show In64 4 from ⟨by decide, by decide⟩) (fun b h => False.elim h) (fun b h => False.elim h) (d := 39) fun ac w N q64 F65 S up o66 d67 => ?_
    have d68 := d67 _ (fun b _ h => False.elim h) o45.sub
    replace o45 := o45.up up
    clear up d67
    refine S.AF (α := Int) o45 o66.rn (fun _ _ h => h) (by' := 8) (d := 40) (lx := acc3.length) (ly := 1) rfl rfl (show _ ≤ 4194304 by simp only [List.length_append, List.length_cons, List.length_nil]; omega) fun ac w N q69 F70 S up o71 d72 => ?_
    have d73 := d72 _ (Disj.symm d68) o66.sub
    replace o66 := o66.upF (Disj.symm d68) up
    clear up d72
    exact S.gn 2 .nil fun ac w β S => ⟨rfl, (acc3 ++ [4]), q69, F70, _, _, _, (by clear S; (first | (rw [if_pos (by assumption)]; simp [*]; done) | (rw [if_neg (by simp [*])]; simp [*]; done) | (rw [ha3]; (repeat' split) <;> first | rfl | (simp; done) | (exfalso; simp_all; done) | (simp_all; done)))), S.z, o71⟩
   clear S o45
   rintro ac w ⟨acc4, q61, F62, u, N, β, ha4, S, o63⟩
   have hl4 : acc4.length ≤ 4 := by rw [ha4]; (repeat' split) <;> simp
   refine S.ex fun S => ?_
   refine S.gr 8 .nil [slv acc4.length q61.1] fun ac w β S => ?_
   exact ret1_of S (show f_ctlFaults c = acc4 by clear S; (rw [ha4]; rfl)) rfl o63
  refine S.go 6 .nil fun ac w β S => ?_
  refine cutC S (fun ac w => ∃ (acc4 : List Int) (q74 : _) (F75 : _) (u : _) (N : _) (β : _), (acc4 = (if f_within c.traps 0 3 then [] else [1]) ++ (if f_within c.post 0 255 then [] else [2]) ++ (if c.post ≠ 0 ∧ c.opn = false then [3] else []) ++ (if c.traps = 2 ∧ c.post ≠ 0 then [4] else [])) ∧ St Try.prog Try.f133.ntmps w0 NoB u N β ⟨[(3, .v (slv acc4.length q74.1))], []⟩ ac w ∧ Ow w0 NoB u N F75 acc4 q74) ?_ ?_
  ·clear S; intro S
   exact S.gn 2 .nil fun ac w β S => ⟨rfl, acc3, q43, F44, _, _, _, (by clear S; (first | (rw [if_pos (by assumption)]; simp [*]; done) | (rw [if_neg (by simp [*])]; simp [*]; done) | (rw [ha3]; (repeat' split) <;> first | rfl | (simp; done) | (exfalso; simp_all; done) | (simp_all; done)))), S.z, o45⟩
  clear S o45
  rintro ac w ⟨acc4, q74, F75, u, N, β, ha4, S, o76⟩
  have hl4 : acc4.length ≤ 4 := by rw [ha4]; (repeat' split) <;> simp
  refine S.ex fun S => ?_
  refine S.gr 8 .nil [slv acc4.length q74.1] fun ac w β S => ?_
  exact ret1_of S (show f_ctlFaults c = acc4 by clear S; (rw [ha4]; rfl)) rfl o76
 refine S.go 6 .nil fun ac w β S => ?_
 refine cutC S (fun ac w => ∃ (acc3 : List Int) (q77 : _) (F78 : _) (u : _) (N : _) (β : _), (acc3 = (if f_within c.traps 0 3 then [] else [1]) ++ (if f_within c.post 0 255 then [] else [2]) ++ (if c.post ≠ 0 ∧ c.opn = false then [3] else [])) ∧ St Try.prog Try.f133.ntmps w0 NoB u N β ⟨[(1, .p 0 0), (3, .v (slv acc3.length q77.1))], [GT.cells c ()]⟩ ac w ∧ Ow w0 NoB u N F78 acc3 q77) ?_ ?_
 ·clear S; intro S
  exact S.gn 2 .nil fun ac w β S => ⟨rfl, acc2, q23, F24, _, _, _, (by clear S; (first | (rw [if_pos (by assumption)]; simp [*]; done) | (rw [if_neg (by simp [*])]; simp [*]; done) | (rw [ha2]; (repeat' split) <;> first | rfl | (simp; done) | (exfalso; simp_all; done) | (simp_all; done)))), S.z, o25⟩
 clear S o25
 rintro ac w ⟨acc3, q77, F78, u, N, β, ha3, S, o79⟩
 have hl3 : acc3.length ≤ 3 := by rw [ha3]; (repeat' split) <;> simp
 refine S.ex fun S => ?_
 refine S.gd 8 .nil (c.traps == 2) (fun ac w β h80 g81 S => ?_) (fun ac w β h80 g81 S => ?_)
 ·refine S.go 6 .nil fun ac w β S => ?_
  refine cutC S (fun ac w => ∃ (acc4 : List Int) (q82 : _) (F83 : _) (u : _) (N : _) (β : _), (acc4 = (if f_within c.traps 0 3 then [] else [1]) ++ (if f_within c.post 0 255 then [] else [2]) ++ (if c.post ≠ 0 ∧ c.opn = false then [3] else []) ++ (if c.traps = 2 ∧ c.post ≠ 0 then [4] else [])) ∧ St Try.prog Try.f133.ntmps w0 NoB u N β ⟨[(3, .v (slv acc4.length q82.1))], []⟩ ac w ∧ Ow w0 NoB u N F83 acc4 q82) ?_ ?_
  ·clear S; intro S
   refine S.lt 37 h41 fun S => ?_
   exact S.gn 2 .nil fun ac w β S => ⟨rfl, acc3, q77, F78, _, _, _, (by clear S; (first | (rw [if_pos (by assumption)]; simp [*]; done) | (rw [if_neg (by simp [*])]; simp [*]; done) | (rw [ha3]; (repeat' split) <;> first | rfl | (simp; done) | (exfalso; simp_all; done) | (simp_all; done)))), S.z, o79⟩
  clear S o79
  rintro ac w ⟨acc4, q82, F83, u, N, β, ha4, S, o84⟩
  have hl4 : acc4.length ≤ 4 := by rw [ha4]; (repeat' split) <;> simp
  refine S.ex fun S => ?_
  refine S.gr 8 .nil [slv acc4.length q82.1] fun ac w β S => ?_
  exact ret1_of S (show f_ctlFaults c = acc4 by clear S; (rw [ha4]; rfl)) rfl o84
 refine S.go 6 .nil fun ac w β S => ?_
 refine cutC S (fun ac w => ∃ (acc4 : List Int) (q85 : _) (F86 : _) (u : _) (N : _) (β : _), (acc4 = (if f_within c.traps 0 3 then [] else [1]) ++ (if f_within c.post 0 255 then [] else [2]) ++ (if c.post ≠ 0 ∧ c.opn = false then [3] else []) ++ (if c.traps = 2 ∧ c.post ≠ 0 then [4] else [])) ∧ St Try.prog Try.f133.ntmps w0 NoB u N β ⟨[(3, .v (slv acc4.length q85.1))], []⟩ ac w ∧ Ow w0 NoB u N F86 acc4 q85) ?_ ?_
 ·clear S; intro S
  exact S.gn 2 .nil fun ac w β S => ⟨rfl, acc3, q77, F78, _, _, _, (by clear S; (first | (rw [if_pos (by assumption)]; simp [*]; done) | (rw [if_neg (by simp [*])]; simp [*]; done) | (rw [ha3]; (repeat' split) <;> first | rfl | (simp; done) | (exfalso; simp_all; done) | (simp_all; done)))), S.z, o79⟩
 clear S o79
 rintro ac w ⟨acc4, q85, F86, u, N, β, ha4, S, o87⟩
 have hl4 : acc4.length ≤ 4 := by rw [ha4]; (repeat' split) <;> simp
 refine S.ex fun S => ?_
 refine S.gr 8 .nil [slv acc4.length q85.1] fun ac w β S => ?_
 exact ret1_of S (show f_ctlFaults c = acc4 by clear S; (rw [ha4]; rfl)) rfl o87

theorem c_impl_CtlOk (w0 : World) (c : TCtl) : Calls Try.prog 114 [GT.val c ()].toArray w0 (fun e w' => e = .returned (B (f_ctlOk c)) ∧ Chg NoB w0 w') := by
 refine Calls.run NoB Try.func114 ?_
 intro ac β S
 refine S.go 9 .nil fun ac w β S => S.K1 (r := f_ctlFaults c) (d := 4) (c_impl_CtlFaults w c) fun ac w N q1 F2 S up o3 d4 => ?_
 clear up d4
 exact S.gf 6 .nil [B (((f_ctlFaults c).length : Int) == 0)] (retB (by clear S; first | rfl | (simp [f_ctlOk, *]; done) | (simp [f_ctlOk, *]; omega) | (simp_all [f_ctlOk]; done) | (simp_all [f_ctlOk]; omega)))

theorem k0_impl_ExitOk {p : Prop} (h : p := by clear S; (unfold f_exitOk; (repeat' split) <;> first | rfl | (exfalso; simp_all; done) | (exfalso; omega) | (rw [Bool.eq_iff_iff]; simp [TExit.ext_iff, *]; done) | (rw [Bool.eq_iff_iff]; simp_all [TExit.ext_iff, and_assoc]; done) | (rw [Bool.eq_iff_iff]; simp_all [TExit.ext_iff, and_assoc]; omega))) : p := h
theorem c_impl_ExitOk (w0 : World) (x : TExit) : Calls Try.prog 115 [GT.val x ()].toArray w0 (fun e w' => e = .returned (B (f_exitOk x)) ∧ Chg NoB w0 w') := by
 refine Calls.run NoB Try.func115 ?_
 intro ac β S
 refine S.gd 21 .nil (x.kind == 0) (fun ac w β h1 g2 S => ?_) (fun ac w β h1 g2 S => ?_)
 ·refine S.gd 10 .nil (x.page == 0) (fun ac w β h3 g4 S => ?_) (fun ac w β h3 g4 S => ?_)
  ·refine S.gb 5 .nil (!x.wr) (fun ac w β h5 S => ?_) (fun ac w β h5 S => ?_)
   ·have h6 := not_t h5
    exact S.gf 8 .nil [B (x.n == 0)] (retB k0_impl_ExitOk)
   have h7 := not_f h5
   exact S.gf 8 .nil [B false] (retB k0_impl_ExitOk)
  exact S.gf 13 .nil [B false] (retB k0_impl_ExitOk)
 refine S.gd 6 .nil (x.kind == 4) (fun ac w β h8 g9 S => ?_) (fun ac w β h8 g9 S => ?_)
 ·refine S.gd 7 .nil (x.page == 0) (fun ac w β h10 g11 S => ?_) (fun ac w β h10 g11 S => ?_)
  ·refine S.gb 5 .nil (!x.wr) (fun ac w β h12 S => ?_) (fun ac w β h12 S => ?_)
   ·have h13 := not_t h12
    exact S.gf 8 .nil [B (x.n == 0)] (retB k0_impl_ExitOk)
   have h14 := not_f h12
   exact S.gf 8 .nil [B false] (retB k0_impl_ExitOk)
  exact S.gf 13 .nil [B false] (retB k0_impl_ExitOk)
 refine S.gd 7 .nil (x.kind == 1) (fun ac w β h15 g16 S => ?_) (fun ac w β h15 g16 S => ?_)
 ·refine S.gb 7 (.cons (Q_call fun w hw => c_impl_within w x.page 0 3) .nil) (f_within x.page 0 3) (fun ac w β h17 S => ?_) (fun ac w β h17 S => ?_)
  ·have g18 := within_t h17
   exact S.gf 8 .nil [B (x.n == 0)] (retB k0_impl_ExitOk)
  have g19 := within_f h17
  exact S.gf 8 .nil [B false] (retB k0_impl_ExitOk)
 refine S.gd 8 .nil (x.kind == 2) (fun ac w β h20 g21 S => ?_) (fun ac w β h20 g21 S => ?_)
 ·refine S.gb 10 (.cons (Q_call fun w hw => c_impl_within w x.n 0 99) .nil) (f_within x.n 0 99) (fun ac w β h22 S => ?_) (fun ac w β h22 S => ?_)
  ·have g23 := within_t h22
   refine S.gd 5 .nil (x.page == 0) (fun ac w β h24 g25 S => ?_) (fun ac w β h24 g25 S => ?_)
   ·exact S.gf 8 .nil [B (!x.wr)] (retB k0_impl_ExitOk)
   exact S.gf 8 .nil [B false] (retB k0_impl_ExitOk)
  have g26 := within_f h22
  exact S.gf 13 .nil [B false] (retB k0_impl_ExitOk)
 refine S.gd 6 .nil (x.kind == 3) (fun ac w β h27 g28 S => ?_) (fun ac w β h27 g28 S => ?_)
 ·refine S.gb 7 (.cons (Q_call fun w hw => c_impl_within w x.n 0 99) .nil) (f_within x.n 0 99) (fun ac w β h29 S => ?_) (fun ac w β h29 S => ?_)
  ·have g30 := within_t h29
   refine S.gd 5 .nil (x.page == 0) (fun ac w β h31 g32 S => ?_) (fun ac w β h31 g32 S => ?_)
   ·exact S.gf 8 .nil [B (!x.wr)] (retB k0_impl_ExitOk)
   exact S.gf 8 .nil [B false] (retB k0_impl_ExitOk)
  have g33 := within_f h29
  exact S.gf 13 .nil [B false] (retB k0_impl_ExitOk)
 exact S.gf 10 .nil [B false] (retB k0_impl_ExitOk)

theorem k0_impl_GuestOk {p : Prop} (h : p := by clear S; first | rfl | (simp [f_guestOk, *]; done) | (simp [f_guestOk, *]; omega) | (simp_all [f_guestOk]; done) | (simp_all [f_guestOk]; omega)) : p := h
theorem c_impl_GuestOk (w0 : World) (g : TGuest) (pg : PGuest) (hg : RD w0 g pg) : Calls Try.prog 87 [GT.val g pg].toArray w0 (fun e w' => e = .returned (B (f_guestOk g)) ∧ Chg NoB w0 w') := by
 refine Calls.run NoB Try.func87 ?_
 intro ac β S
 have hleg_prog : g.prog.length ≤ 4194304 := LRd.le (RGuest.prog (d := g) hg)
 have hleg_written : g.written.length ≤ 4194304 := LRd.le (RGuest.written (d := g) hg)
 have hleg_live : g.live.length ≤ 4194304 := LRd.le (RGuest.live (d := g) hg)
 have hleg_seen : g.seen.length ≤ 4194304 := LRd.le (RGuest.seen (d := g) hg)
 refine S.gb 12 (.cons (Q_call fun w hw => c_impl_ProgOk w g.prog pg.prog (rd_of (RGuest.prog (d := g) (S.arg hg)) hw)) .nil) (f_progOk g.prog) (fun ac w β h1 S => ?_) (fun ac w β h1 S => ?_)
 ·refine S.gb 5 (.cons (Q_call fun w hw => c_impl_within w g.acc 0 99) .nil) (f_within g.acc 0 99) (fun ac w β h2 S => ?_) (fun ac w β h2 S => ?_)
  ·have g3 := within_t h2
   refine S.gb 5 (.cons (Q_call fun w hw => c_impl_within w g.pc 0 12) .nil) (f_within g.pc 0 12) (fun ac w β h4 S => ?_) (fun ac w β h4 S => ?_)
   ·have g5 := within_t h4
    refine S.gb 5 (.cons (Q_call fun w hw => c_impl_TableOk w g.written pg.written (rd_of (RGuest.written (d := g) (S.arg hg)) hw) 4 8 (by omega) (by omega)) .nil) (f_tableOk g.written 4 8) (fun ac w β h6 S => ?_) (fun ac w β h6 S => ?_)
    ·have g7 := tableOk_t h6
     refine S.gb 5 (.cons (Q_call fun w hw => c_impl_TableOk w g.live pg.live (rd_of (RGuest.live (d := g) (S.arg hg)) hw) 4 8 (by omega) (by omega)) .nil) (f_tableOk g.live 4 8) (fun ac w β h8 S => ?_) (fun ac w β h8 S => ?_)
     ·have g9 := tableOk_t h8
      refine S.gb 5 (.cons (Q_call fun w hw => c_impl_CtlOk w g.ctl) .nil) (f_ctlOk g.ctl) (fun ac w β h10 S => ?_) (fun ac w β h10 S => ?_)
      ·refine S.gb 5 (.cons (Q_call fun w hw => c_impl_PendOk w g.pend) .nil) (f_within g.pend 0 255) (fun ac w β h11 S => ?_) (fun ac w β h11 S => ?_)
       ·have g12 := within_t h11
        refine S.gb 5 (.cons (Q_call fun w hw => c_impl_ExitOk w g.exit) .nil) (f_exitOk g.exit) (fun ac w β h13 S => ?_) (fun ac w β h13 S => ?_)
        ·exact S.gf 9 .nil [B (decide ((g.seen.length : Int) ≤ 40))] (retB k0_impl_GuestOk)
        exact S.gf 9 .nil [B false] (retB k0_impl_GuestOk)
       have g14 := within_f h11
       exact S.gf 14 .nil [B false] (retB k0_impl_GuestOk)
      exact S.gf 19 .nil [B false] (retB k0_impl_GuestOk)
     exact S.gf 24 .nil [B false] (retB k0_impl_GuestOk)
    exact S.gf 29 .nil [B false] (retB k0_impl_GuestOk)
   have g15 := within_f h4
   exact S.gf 34 .nil [B false] (retB k0_impl_GuestOk)
  have g16 := within_f h2
  exact S.gf 39 .nil [B false] (retB k0_impl_GuestOk)
 exact S.gf 44 .nil [B false] (retB k0_impl_GuestOk)

theorem c_impl_RightsOk (w0 : World) (r : Int) : Calls Try.prog 116 [I r].toArray w0 (fun e w' => e = .returned (B (f_within r 0 3)) ∧ Chg NoB w0 w') := by
 refine Calls.run NoB Try.func116 ?_
 intro ac β S
 exact S.gf 13 (.cons (Q_call fun w hw => c_impl_within w r 0 3) .nil) [B (f_within r 0 3)] (retB (by clear S; first | rfl | (simp [f_within, *]; done) | (simp [f_within, *]; omega) | (simp_all [f_within]; done) | (simp_all [f_within]; omega)))

theorem k0_impl_Enough {p : Prop} (h : p := by clear S; first | rfl | (simp [f_enough, *]; done) | (simp [f_enough, *]; omega) | (simp_all [f_enough]; done) | (simp_all [f_enough]; omega)) : p := h
theorem c_impl_Enough (w0 : World) (rights : Int) (need : Int) : Calls Try.prog 88 [I rights, I need].toArray w0 (fun e w' => e = .returned (B (f_enough rights need)) ∧ Chg NoB w0 w') := by
 refine Calls.run NoB Try.func88 ?_
 intro ac β S
 refine S.gb 10 (.cons (Q_call fun w hw => c_impl_RightsOk w rights) .nil) (f_within rights 0 3) (fun ac w β h1 S => ?_) (fun ac w β h1 S => ?_)
 ·have g2 := within_t h1
  refine S.gb 4 (.cons (Q_call fun w hw => c_impl_RightsOk w need) .nil) (f_within need 0 3) (fun ac w β h3 S => ?_) (fun ac w β h3 S => ?_)
  ·have g4 := within_t h3
   exact S.gf 10 (.cons (Q_land64 (x := rights) (y := need)) .nil) [B ((land64 rights need) == need)] (retB k0_impl_Enough)
  have g5 := within_f h3
  exact S.gf 10 .nil [B false] (retB k0_impl_Enough)
 have g6 := within_f h1
 exact S.gf 14 .nil [B false] (retB k0_impl_Enough)

theorem k0_impl_MonOk {p : Prop} (h : p := by clear S; (symm; rw [← Bool.not_eq_true]; intro hc; simp only [f_monOk, f_monHead, f_monTail, Bool.and_eq_true, decide_eq_true_eq, beq_iff_eq] at hc; first | omega | (simp_all; done) | (simp_all; omega) | (have hx := all_el (k := k) hc.1.2 (by omega); simp_all; done) | (have hx := rng_el (k := j) hc.2 (by omega); unfold f_pageSlot at hx; split at hx <;> first | (simp_all; done) | (simp_all; omega)))) : p := h
theorem c_impl_MonOk (w0 : World) (m : TMon) (pm : PMon) (hm : RD w0 m pm) : Calls Try.prog 47 [GT.val m pm].toArray w0 (fun e w' => e = .returned (B (f_monOk m)) ∧ Chg NoB w0 w') := by
 refine Calls.run NoB Try.func47 ?_
 intro ac β S
 have hlem_outer : m.outer.length ≤ 4194304 := LRd.le (RMon.outer (d := m) hm)
 have hlem_out : m.out.length ≤ 4194304 := LRd.le (RMon.out (d := m) hm)
 have hlem_dirty : m.dirty.length ≤ 4194304 := LRd.le (RMon.dirty (d := m) hm)
 have hlem_guests : m.guests.length ≤ 4194304 := LRd.le (RMon.guests (d := m) hm)
 have hlem_outs : m.outs.length ≤ 4194304 := LRd.le (RMon.outs (d := m) hm)
 have hlem_tables : m.tables.length ≤ 4194304 := LRd.le (RMon.tables (d := m) hm)
 refine S.gb 15 (.cons (Q_call fun w hw => c_impl_within w (m.guests.length : Int) 1 2) .nil) (!(f_within (m.guests.length : Int) 1 2)) (fun ac w β h1 S => ?_) (fun ac w β h1 S => ?_)
 ·have h2 := not_t h1
  have g3 := within_f h2
  exact S.gf 59 .nil [B false] (retB k0_impl_MonOk)
 have h4 := not_f h1
 have g5 := within_t h4
 refine S.gd 9 .nil ((m.tables.length : Int) != (m.guests.length : Int)) (fun ac w β h6 g7 S => ?_) (fun ac w β h6 g7 S => ?_)
 ·exact S.gf 50 .nil [B false] (retB k0_impl_MonOk)
 refine S.gb 6 (.cons (Q_call fun w hw => c_impl_TableOk w m.outer pm.outer (rd_of (RMon.outer (d := m) (S.arg hm)) hw) 8 12 (by omega) (by omega)) .nil) (!(f_tableOk m.outer 8 12)) (fun ac w β h8 S => ?_) (fun ac w β h8 S => ?_)
 ·have h9 := not_t h8
  exact S.gf 44 .nil [B false] (retB k0_impl_MonOk)
 have h10 := not_f h8
 have g11 := tableOk_t h10
 refine S.gd 6 .nil ((m.out.length : Int) != 8) (fun ac w β h12 g13 S => ?_) (fun ac w β h12 g13 S => ?_)
 ·exact S.gf 38 .nil [B false] (retB k0_impl_MonOk)
 refine S.gd 6 .nil ((m.dirty.length : Int) != 8) (fun ac w β h14 g15 S => ?_) (fun ac w β h14 g15 S => ?_)
 ·exact S.gf 32 .nil [B false] (retB k0_impl_MonOk)
 refine S.gd 6 .nil (decide ((m.outs.length : Int) > 40)) (fun ac w β h16 g17 S => ?_) (fun ac w β h16 g17 S => ?_)
 ·exact S.gf 26 .nil [B false] (retB k0_impl_MonOk)
 refine S.gb 6 (.cons (Q_call fun w hw => c_impl_PendOk w m.pend) .nil) (!(f_within m.pend 0 255)) (fun ac w β h18 S => ?_) (fun ac w β h18 S => ?_)
 ·have h19 := not_t h18
  have g20 := within_f h19
  exact S.gf 20 .nil [B false] (retB k0_impl_MonOk)
 have h21 := not_f h18
 have g22 := within_t h21
 refine S.gb 6 (.cons (Q_call fun w hw => c_impl_within w m.traps 0 3) .nil) (!(f_within m.traps 0 3)) (fun ac w β h23 S => ?_) (fun ac w β h23 S => ?_)
 ·have h24 := not_t h23
  have g25 := within_f h24
  exact S.gf 14 .nil [B false] (retB k0_impl_MonOk)
 have h26 := not_f h23
 have g27 := within_t h26
 refine S.gb 7 (.cons (Q_call fun w hw => c_impl_within w m.owned 0 1000000000) .nil) (!(f_within m.owned 0 1000000000)) (fun ac w β h28 S => ?_) (fun ac w β h28 S => ?_)
 ·have h29 := not_t h28
  have g30 := within_f h29
  exact S.gf 7 .nil [B false] (retB k0_impl_MonOk)
 have h31 := not_f h28
 have g32 := within_t h31
 refine S.go 13 .nil fun ac w β S => ?_
 refine lp (fun mm ac w => ∃ (k : Nat)  (u : _) (N : _) (β : _), mm = m.guests.length - k ∧ (k ≤ m.guests.length) ∧ ((m.guests.take k).all f_guestOk = true) ∧ St Try.prog Try.f47.ntmps w0 NoB u N β ⟨[(1, .p 0 0), (64, .v (slv m.guests.length pm.guests.1)), (65, .v (I (m.guests.length : Int))), (66, .v (I (k : Int)))], [GT.cells m pm]⟩ ac w) _ ⟨0, _, _, _, rfl, o0, (by simp), S.z⟩ ?_
 clear S
 rintro f33 mm hf34 ac w ⟨k, u, N, β, rfl, hk, he, S⟩
 refine S.rs fun S => ?_
 refine S.gd 6 .nil (decide ((k : Int) < (m.guests.length : Int))) (fun ac w β h35 g36 S => ?_) (fun ac w β h35 g36 S => ?_)
 ·refine S.gb 20 (.cons (qn (RMon.guests (d := m) (S.arg hm)) k Try.underlying39) (.cons (qs (RMon.guests (d := m) (S.arg hm)) 115 k) (.cons (Q_call fun w hw => c_impl_GuestOk w (el m.guests k) (pm.guests.2 k) (rd_of (LRd.el (RMon.guests (d := m) (S.arg hm)) k (by omega)) hw)) .nil))) (!(f_guestOk (el m.guests k))) (fun ac w β h37 S => ?_) (fun ac w β h37 S => ?_)
  ·have h38 := not_t h37
   exact S.gf 7 .nil [B false] (retB k0_impl_MonOk)
  have h39 := not_f h37
  refine S.ge 8 (.cons (qp (k : Int) 1) .nil) f33 fun ac w β S => hf34.of (m.guests.length - (k + 1)) _ _ (by omega) ⟨k + 1, _, _, _, rfl, ?_, ?_, S.z⟩
  ·exact oz
  ·clear S; exact all_step (by omega) he (by first | assumption | (simp only [f_slotOk, f_within] at *; simp_all; done) | (simp_all; done) | (simp_all; omega))
 refine S.go 16 .nil fun ac w β S => ?_
 refine lp (fun mm ac w => ∃ (j : Nat)  (u : _) (N : _) (β : _), mm = m.outer.length - j ∧ (j ≤ m.outer.length) ∧ ((List.range j).all (f_pageSlot m) = true) ∧ St Try.prog Try.f47.ntmps w0 NoB u N β ⟨[(1, .p 0 0), (75, .v (slv m.outer.length pm.outer.1)), (76, .v (I (m.outer.length : Int))), (77, .v (I (j : Int)))], [GT.cells m pm]⟩ ac w) _ ⟨0, _, _, _, rfl, o0, (by rfl), S.z⟩ ?_
 clear S
 rintro f40 mm hf41 ac w ⟨j, u, N, β, rfl, hj, hp, S⟩
 refine S.rs fun S => ?_
 have hlo : m.outer.length = 8 := by omega
 have hlu : m.out.length = 8 := by omega
 refine S.gd 6 .nil (decide ((j : Int) < (m.outer.length : Int))) (fun ac w β h42 g43 S => ?_) (fun ac w β h42 g43 S => ?_)
 ·refine S.gb 18 (.cons (qn (RMon.outer (d := m) (S.arg hm)) j Try.underlying37) (.cons (qs (RMon.outer (d := m) (S.arg hm)) 54 j) (.cons (Q_call fun w hw => c_impl_NoSlot w ) (.cons (Eq_eq_Slot (t := 54) (el m.outer j) (⟨-1, 0⟩ : TSlot) (by kernel_rfl)) .nil)))) (decide ((el m.outer j) = (⟨-1, 0⟩ : TSlot))) (fun ac w β h44 S => ?_) (fun ac w β h44 S => ?_)
  ·refine S.gb 12 (.cons (qn (RMon.out (d := m) (S.arg hm)) j Try.underlying31) (.cons (qx (RMon.out (d := m) (S.arg hm)) 24 j) (.cons (Q_call fun w hw => c_impl_PageOk w (el m.out j) (pm.out.2 j) (rd_of (LRd.el (RMon.out (d := m) (S.arg hm)) j (by omega)) hw)) .nil))) (!(f_pageOk (el m.out j))) (fun ac w β h45 S => ?_) (fun ac w β h45 S => ?_)
   ·have h46 := not_t h45
    exact S.gf 7 .nil [B false] (retB k0_impl_MonOk)
   have h47 := not_f h45
   refine S.ge 8 (.cons (qp (j : Int) 1) .nil) f40 fun ac w β S => hf41.of (m.outer.length - (j + 1)) _ _ (by omega) ⟨j + 1, _, _, _, rfl, ?_, ?_, S.z⟩
   ·exact oz
   ·clear S; (refine rng_step hp ?_; unfold f_pageSlot; (repeat' split) <;> first | (exfalso; simp_all; done) | (simp_all; done) | (simp_all; omega))
  refine S.gb 8 (.cons (Q_call fun w hw => c_impl_Enough w (el m.outer j).rights 1) .nil) (!(f_enough (el m.outer j).rights 1)) (fun ac w β h48 S => ?_) (fun ac w β h48 S => ?_)
  ·have h49 := not_t h48
   exact S.gf 17 .nil [B false] (retB k0_impl_MonOk)
  have h50 := not_f h48
  have g51 := enough_t h50
  have b52 : (el m.out j).length ≤ 4194304 := LRd.le (LRd.el (RMon.out (d := m) (S.arg hm)) j (by omega))
  refine S.gd 10 (.cons (qn (RMon.out (d := m) (S.arg hm)) j Try.underlying31) (.cons (qx (RMon.out (d := m) (S.arg hm)) 24 j) .nil)) (decide (((el m.out j).length : Int) > 0)) (fun ac w β h53 g54 S => ?_) (fun ac w β h53 g54 S => ?_)
  ·exact S.gf 7 .nil [B false] (retB k0_impl_MonOk)
  refine S.ge 8 (.cons (qp (j : Int) 1) .nil) f40 fun ac w β S => hf41.of (m.outer.length - (j + 1)) _ _ (by omega) ⟨j + 1, _, _, _, rfl, ?_, ?_, S.z⟩
  ·exact oz
  ·clear S; (refine rng_step hp ?_; unfold f_pageSlot; (repeat' split) <;> first | (exfalso; simp_all; done) | (simp_all; done) | (simp_all; omega))
 exact S.gf 12 .nil [B true] (retB (by clear S; (first | rfl | (symm; simp only [f_monOk, f_monHead, f_monTail, Bool.and_eq_true, decide_eq_true_eq, beq_iff_eq]; (repeat' apply And.intro); all_goals first | assumption | omega | (simp_all; done) | (simp_all; omega) | (exact all_end (by omega) he) | ((have e8 : j = 8 := (by omega)); subst e8; exact hp)))))

theorem k0_impl_HostOk {p : Prop} (h : p := by clear S; (first | (symm; rw [← Bool.not_eq_true]; intro hc; simp only [f_hostOk, f_hostHead, Bool.and_eq_true] at hc; (first | (simp_all; done) | (simp_all; omega))) | (rw [hostOk_dead (fold_dead (k := i) (by omega) stepMon_none hu (stepMon_bad (by assumption)))]) | (rw [hostOk_dead (fold_dead (k := i) (by omega) stepMon_none hu ((stepMon_ok hmok).trans (fold_dead (k := k) (by omega) stepSlot_none hu2 (stepSlot_hit (by omega) (by assumption)))))]) | (unfold f_hostOk f_hostUsed f_hostHead; rw [take_all (by omega)] at hu; rw [hu]; simp_all; done))) : p := h
theorem c_impl_HostOk (w0 : World) (h : THost) (ph : PHost) (hh : RD w0 h ph) : Calls Try.prog 9 [GT.val h ph].toArray w0 (fun e w' => e = .returned (B (f_hostOk h)) ∧ Chg NoB w0 w') := by
 refine Calls.run NoB Try.func9 ?_
 intro ac β S
 have hleh_mem : h.mem.length ≤ 4194304 := LRd.le (RHost.mem (d := h) hh)
 have hleh_mons : h.mons.length ≤ 4194304 := LRd.le (RHost.mons (d := h) hh)
 have hleh_buf : h.buf.length ≤ 4194304 := LRd.le (RHost.buf (d := h) hh)
 have hleh_iobuf : h.iobuf.length ≤ 4194304 := LRd.le (RHost.iobuf (d := h) hh)
 refine S.gb 14 (.cons (Q_call fun w hw => c_impl_MemOk w h.mem ph.mem (rd_of (RHost.mem (d := h) (S.arg hh)) hw) 12) .nil) (!(f_memOk h.mem 12)) (fun ac w β h1 S => ?_) (fun ac w β h1 S => ?_)
 ·have h2 := not_t h1
  exact S.gf 27 .nil [B false] (retB k0_impl_HostOk)
 have h3 := not_f h1
 refine S.gb 7 (.cons (Q_call fun w hw => c_impl_within w (h.mons.length : Int) 1 3) .nil) (!(f_within (h.mons.length : Int) 1 3)) (fun ac w β h4 S => ?_) (fun ac w β h4 S => ?_)
 ·have h5 := not_t h4
  have g6 := within_f h5
  exact S.gf 20 .nil [B false] (retB k0_impl_HostOk)
 have h7 := not_f h4
 have g8 := within_t h7
 refine S.gb 6 (.cons (Q_call fun w hw => c_impl_BufferOk w h.buf ph.buf (rd_of (RHost.buf (d := h) (S.arg hh)) hw)) .nil) (!(f_bufferOk h.buf)) (fun ac w β h9 S => ?_) (fun ac w β h9 S => ?_)
 ·have h10 := not_t h9
  exact S.gf 14 .nil [B false] (retB k0_impl_HostOk)
 have h11 := not_f h9
 refine S.gb 7 (.cons (Q_call fun w hw => c_impl_BufferOk w h.iobuf ph.iobuf (rd_of (RHost.iobuf (d := h) (S.arg hh)) hw)) .nil) (!(f_bufferOk h.iobuf)) (fun ac w β h12 S => ?_) (fun ac w β h12 S => ?_)
 ·have h13 := not_t h12
  exact S.gf 7 .nil [B false] (retB k0_impl_HostOk)
 have h14 := not_f h12
 refine S.go 5 .nil fun ac w β S => S.Mk (α := Bool) (m := 12) (by' := 1) (d := 31) (by omega) (show 12 ≤ 4194304 by omega) fun ac w N q15 F16 S up o17 d18 => ?_
 clear up d18
 refine S.go 13 .nil fun ac w β S => ?_
 refine lp (fun mm ac w => ∃ (i : Nat) (us : List Bool) (q19 : _) (F20 : _) (u : _) (N : _) (β : _), mm = h.mons.length - i ∧ (i ≤ h.mons.length) ∧ ((h.mons.take i).foldl stepMon (some (List.replicate 12 false)) = some us) ∧ (us.length = 12) ∧ St Try.prog Try.f9.ntmps w0 NoB u N β ⟨[(3, .v (slv 12 q19.1)), (33, .v (slv h.mons.length ph.mons.1)), (34, .v (I (h.mons.length : Int))), (35, .v (I (i : Int)))], [GT.cells h ph]⟩ ac w ∧ Ow w0 NoB u N F20 us q19) _ ⟨0, (List.replicate 12 (GT.dflt : Bool)), q15, F16, _, _, _, rfl, o0, (by rfl), (by rfl), S.z, o17⟩ ?_
 clear S o17
 rintro f22 mm hf23 ac w ⟨i, us, q19, F20, u, N, β, rfl, hi, hu, hul, S, o21⟩
 refine S.rs fun S => ?_
 refine S.gd 6 .nil (decide ((i : Int) < (h.mons.length : Int))) (fun ac w β h24 g25 S => ?_) (fun ac w β h24 g25 S => ?_)
 ·refine S.gb 21 (.cons (qn (RHost.mons (d := h) (S.arg hh)) i Try.underlying32) (.cons (qs (RHost.mons (d := h) (S.arg hh)) 42 i) (.cons (Q_call fun w hw => c_impl_MonOk w (el h.mons i) (ph.mons.2 i) (rd_of (LRd.el (RHost.mons (d := h) (S.arg hh)) i (by omega)) hw)) .nil))) (!(f_monOk (el h.mons i))) (fun ac w β h26 S => ?_) (fun ac w β h26 S => ?_)
  ·have h27 := not_t h26
   exact S.gf 7 .nil [B false] (retB k0_impl_HostOk)
  have h28 := not_f h26
  have g29 := monOk_t h28
  have b30 : (el h.mons i).outer.length ≤ 4194304 := LRd.le (RMon.outer (d := (el h.mons i)) (LRd.el (RHost.mons (d := h) (S.arg hh)) i (by omega)))
  refine S.go 12 .nil fun ac w β S => ?_
  refine lp (fun mm ac w => ∃ (k : Nat) (us2 : List Bool) (q31 : _) (F32 : _) (u : _) (N : _) (β : _), mm = (el h.mons i).outer.length - k ∧ (k ≤ (el h.mons i).outer.length) ∧ (((el h.mons i).outer.take k).foldl stepSlot (some us) = some us2) ∧ (us2.length = 12) ∧ St Try.prog Try.f9.ntmps w0 NoB u N β ⟨[(3, .v (slv 12 q31.1)), (33, .v (slv h.mons.length ph.mons.1)), (34, .v (I (h.mons.length : Int))), (35, .v (I (i : Int))), (43, .v (slv (el h.mons i).outer.length (ph.mons.2 i).outer.1)), (44, .v (I ((el h.mons i).outer.length : Int))), (45, .v (I (k : Int)))], [GT.cells h ph, GT.cells (el h.mons i) (ph.mons.2 i)]⟩ ac w ∧ Ow w0 NoB u N F32 us2 q31) _ ⟨0, us, q19, F20, _, _, _, rfl, o0, (by rfl), (by omega), S.z, o21⟩ ?_
  clear S o21
  rintro f34 mm hf35 ac w ⟨k, us2, q31, F32, u, N, β, rfl, hk, hu2, hul2, S, o33⟩
  refine S.rs fun S => ?_
  have hmok : f_monOk (el h.mons i) = true := by assumption
  have hpg := page_lt hmok k
  have hol := (monOk_t hmok).1
  refine S.gd 6 .nil (decide ((k : Int) < ((el h.mons i).outer.length : Int))) (fun ac w β h36 g37 S => ?_) (fun ac w β h36 g37 S => ?_)
  ·refine S.gd 21 (.cons (qn (RMon.outer (d := (el h.mons i)) (LRd.el (RHost.mons (d := h) (S.arg hh)) i (by omega))) k Try.underlying37) (.cons (qs (RMon.outer (d := (el h.mons i)) (LRd.el (RHost.mons (d := h) (S.arg hh)) i (by omega))) 54 k) .nil)) (decide ((el (el h.mons i).outer k).page < 0)) (fun ac w β h38 g39 S => ?_) (fun ac w β h38 g39 S => ?_)
   ·refine S.ge 9 (.cons (qp (k : Int) 1) .nil) f34 fun ac w β S => hf35.of ((el h.mons i).outer.length - (k + 1)) _ _ (by omega) ⟨k + 1, us2, q31, F32, _, _, _, rfl, ?_, ?_, ?_, S.z, o33⟩
    ·exact oz
    ·clear S; (rw [fold_step (by omega), hu2]; first | exact stepSlot_neg (by omega) | exact stepSlot_new (by omega) (by assumption) | exact stepSlot_new (by omega) (by simp_all))
    ·clear S; (first | omega | (simp; omega))
   refine S.gb 13 (.cons (Q_idx o33.rn (l := 12) (k := (el (el h.mons i).outer k).page.toNat) (i := (el (el h.mons i).outer k).page) (by omega) (by omega) (by omega) Try.underlying38 (by kernel_rfl)) (.cons (qx o33.rn 4 ((el (el h.mons i).outer k).page.toNat)) .nil)) (el us2 (el (el h.mons i).outer k).page.toNat) (fun ac w β h40 S => ?_) (fun ac w β h40 S => ?_)
   ·exact S.gf 7 .nil [B false] (retB k0_impl_HostOk)
   refine S.go 8 (.cons (Q_idx o33.rn (l := 12) (k := (el (el h.mons i).outer k).page.toNat) (i := (el (el h.mons i).outer k).page) (by omega) (by omega) (by omega) Try.underlying38 (by kernel_rfl)) .nil) fun ac w β S => S.SF (α := Bool) o33 (t := 4) (k := (el (el h.mons i).outer k).page.toNat) (j := 0) (off := q31.1.off + (el (el h.mons i).outer k).page.toNat * 1) (v := B true) (y := true) (q := ()) (fun _ _ _ => ⟨NoB, trivial, fun _ h => False.elim h⟩) fun w N F42 q43 S up o41 d44 s45 n46 => ?_
   clear up d44 o33 n46
   have l47 : (us2.set (el (el h.mons i).outer k).page.toNat true).length = us2.length := List.length_set
   refine S.ge 7 (.cons (qp (k : Int) 1) .nil) f34 fun ac w β S => hf35.of ((el h.mons i).outer.length - (k + 1)) _ _ (by omega) ⟨k + 1, (us2.set (el (el h.mons i).outer k).page.toNat true), (q31.1, q43), F42, _, _, _, rfl, ?_, ?_, ?_, S.z, o41⟩
   ·exact oz
   ·clear S; (rw [fold_step (by omega), hu2]; first | exact stepSlot_neg (by omega) | exact stepSlot_new (by omega) (by assumption) | exact stepSlot_new (by omega) (by simp_all))
   ·clear S; (first | omega | (simp; omega))
  refine S.ge 11 (.cons (qp (i : Int) 1) .nil) f22 fun ac w β S => hf23.of (h.mons.length - (i + 1)) _ _ (by omega) ⟨i + 1, us2, q31, F32, _, _, _, rfl, ?_, ?_, ?_, S.z, o33⟩
  ·exact oz
  ·clear S; (rw [fold_step (by omega), hu, stepMon_ok (by assumption)]; rw [take_all (by omega)] at hu2; exact hu2)
  ·clear S; omega
 exact S.gf 12 .nil [B true] (retB k0_impl_HostOk)

theorem c_laws_FnManyMons (w0 : World) (code : List TByte) (pcode : LP TByte) (hcode : GT.rd KR (Lt w0.heap.size) w0 code pcode) : Calls Try.prog 3 [slv code.length pcode.1].toArray w0 (fun e w' => e = .returned (B true) ∧ Chg NoB w0 w') := by
 refine Calls.run NoB Try.func3 ?_
 intro ac β S
 have hlecode : code.length ≤ 9223372036854775807 := LRd.le hcode
 refine S.gb 12 (.cons (Q_call fun w hw => c_laws_big w code pcode (rd_of (S.arg hcode) hw)) .nil) (decide (((code.length : Nat) : Int) > 1048576)) (fun ac w β h1 S => ?_) (fun ac w β h1 S => ?_)
 ·exact S.gf 7 .nil [B true] (retB rfl)
 have hcl : code.length ≤ 1048576 := by have hx := of_decide_eq_false h1; omega
 have hkcode : RD w0 code pcode := cutB hcode hcl
 refine S.go 6 .nil fun ac w β S => S.KE (d := 12) (c_spec_DrawPlaces w code pcode (S.rd (S.arg hkcode)) (by omega)) fun ac w N p2 q3 F4 ⟨h7, h8⟩ S up o5 d6 => ?_
 clear up d6
 have b0 := el_pl h7 h8 0
 have b1 := el_pl h7 h8 1
 have hv : 0 ≤ Int.tmod (el p2 0) 100 ∧ Int.tmod (el p2 0) 100 < 100 := by rw [Int.tmod_eq_emod_of_nonneg b0.1.1]; omega
 have hc : 0 ≤ Int.tmod (el p2 1) 5 ∧ Int.tmod (el p2 1) 5 < 5 := by rw [Int.tmod_eq_emod_of_nonneg b1.1.1]; omega
 refine S.go 10 (.cons (qn o5.rn 0 Try.underlying24) (.cons (qx o5.rn 3 0) (.cons (Q_rem (x := (el p2 0)) (y := 100) (by decide)) (.cons (Q_sem (s := Instr.build 27 [(0, I 1), (1, I (Int.tmod (el p2 0) 100))].toArray) (v := .agg [I 1, I (Int.tmod (el p2 0) 100)].toArray) (fun w => by kernel_rfl)) .nil)))) fun ac w β S => S.B1 (α := TIns) (x := (⟨1, Int.tmod (el p2 0) 100⟩ : TIns)) (p := ()) (F := NoB) (show RIns (⟨1, Int.tmod (el p2 0) 100⟩ : TIns) from ⟨(show In64 1 from ⟨by decide, by decide⟩), (show In64 (Int.tmod (el p2 0) 100) from ⟨by omega, by omega⟩)⟩) (fun _ h => False.elim h) (fun _ h => False.elim h) (d := 18) fun ac w N q9 F10 S up o11 d12 => ?_
 have dp := (d12 F4 (fun b _ h => False.elim h) o5.sub).symm
 replace o5 := o5.up up
 clear up d12
 generalize hpr : [(⟨1, Int.tmod (el p2 0) 100⟩ : TIns)] = pr at o11
 have hlp : pr.length = 1 := by rw [← hpr]; rfl
 refine S.go 5 .nil fun ac w β S => S.B0 (α := List THdr) (d := 19) fun ac w N qa Fa S up oa da => ?_
 have dap : Disj Fa F10 := (Disj.w da o11.sub).symm
 have dal : Disj Fa F4 := (Disj.w da o5.sub).symm
 replace o5 := o5.up up
 replace o11 := o11.up up
 refine S.go 10 .nil fun ac w β S => ?_
 refine lp (fun mm ac w => ∃ (k : Nat) (qa : LP (List THdr)) (Fa : Bl) (u : _) (N : _) (β : _), mm = 5 - k ∧ (k : Int) ≤ 1 + Int.tmod (el p2 1) 5 ∧ St Try.prog Try.f3.ntmps w0 NoB u N β ⟨[(3, .v (slv p2.length q3.1)), (4, .v (slv 1 q9.1)), (5, .v (slv k qa.1)), (6, .v (I (k : Int)))], []⟩ ac w ∧ Ow w0 NoB u N F4 p2 q3 ∧ Ow w0 NoB u N F10 pr q9 ∧ Ow w0 NoB u N Fa (List.replicate k (List.replicate 3 (⟨pr.length, q9.1⟩ : THdr))) qa ∧ Disj Fa F10 ∧ Disj Fa F4) _ ⟨0, qa, Fa, _, _, _, rfl, by omega, S.z, o5, o11, oa, dap, dal⟩ ?_
 clear S o5 o11 oa dap dal
 rintro f mm hf ac w ⟨k, qa, Fa, u, N, β, rfl, hk, S, o5, o11, oa, dap, dal⟩
 refine S.rs fun S => ?_
 have hlr : (List.replicate k (List.replicate 3 (⟨pr.length, q9.1⟩ : THdr))).length = k := List.length_replicate
 refine S.gd 12 (.cons (qn o5.rn 1 Try.underlying24) (.cons (qx o5.rn 3 1) (.cons (Q_rem (x := (el p2 1)) (y := 5) (by decide)) (.cons (qp 1 (Int.tmod (el p2 1) 5)) .nil)))) (decide ((k : Int) < 1 + Int.tmod (el p2 1) 5)) (fun ac w β h1 g1 S => ?_) (fun ac w β h1 g1 S => ?_)
 ·refine S.go 10 .nil fun ac w β S => S.BF (α := THdr) (List.replicate 3 (⟨pr.length, q9.1⟩ : THdr)) () (d := 33) (fun _ _ _ => trivial) (show 3 ≤ 4194304 by decide) (hop := by rw [hlp]; kernel_rfl) fun ac w N qb Fb S up ob db => ?_
  have dbp := Disj.w db o11.sub
  have dbl := Disj.w db o5.sub
  have dba := Disj.w db oa.sub
  replace o5 := o5.up up
  replace o11 := o11.up up
  replace oa := oa.up up
  refine S.B1 (α := List THdr) (x := List.replicate 3 (⟨pr.length, q9.1⟩ : THdr)) (p := qb) ob.own ob.sub ob.young (d := 34) fun ac w N qc Fc S up oc dc => ?_
  have dca := dc Fa dba oa.sub
  have dcp := dc F10 dbp o11.sub
  have dcl := dc F4 dbl o5.sub
  replace o5 := o5.up up
  replace o11 := o11.up up
  replace oa := oa.up up
  refine S.AO (α := List THdr) oa oc dca (by' := 24) (d := 35) (lx := k) (ly := 1) hlr.symm rfl (by rw [hlr]; simp only [List.length_cons, List.length_nil]; unfold KK; omega) fun ac w N qd Fd S up od dd => ?_
  have hlen : (List.replicate k (List.replicate 3 (⟨pr.length, q9.1⟩ : THdr)) ++ [List.replicate 3 (⟨pr.length, q9.1⟩ : THdr)]).length = k + 1 := by rw [List.length_append, hlr]; rfl
  rw [hlen] at S ⊢
  have ddp := dd F10 dap.symm dcp o11.sub
  have ddl := dd F4 dal.symm dcl o5.sub
  replace o5 := o5.upF dal.symm up
  replace o11 := o11.upF dap.symm up
  clear up dd oa oc ob
  have hx : List.replicate k (List.replicate 3 (⟨pr.length, q9.1⟩ : THdr)) ++ [List.replicate 3 (⟨pr.length, q9.1⟩ : THdr)] = List.replicate (k + 1) (List.replicate 3 (⟨pr.length, q9.1⟩ : THdr)) := List.replicate_succ'.symm
  refine S.ge 9 (.cons (qp (k : Int) 1) .nil) f fun ac w β S => hf.of (5 - (k + 1)) _ _ (by omega) ⟨k + 1, qd, Fd, _, _, _, rfl, by omega, S.z, o5, o11, by rw [← hx]; exact od, ddp.symm, ddl.symm⟩
 have hk1 : (k : Int) = 1 + Int.tmod (el p2 1) 5 := by omega
 obtain ⟨Y, hY⟩ : ∃ z, z = f_hostNew (List.replicate k (List.replicate 3 pr)) := ⟨_, rfl⟩
 refine S.go 13 .nil fun ac w β S => ?_
 have hnew := c_impl_HostNew w (List.replicate k (List.replicate 3 pr)) ((qa.1, fun j => ((qa.2 j).1, fun _ => q9)) : LP (List (List TIns))) (S.rd (hdr_rd oa.rn o11.rn))
 rw [List.length_replicate, ← hY] at hnew
 refine S.K1 (r := Y) (d := 37) hnew fun ac w N qh Fh S up oh dh => ?_
 replace o5 := o5.up up
 have hm := many_ok h7 h8 (n := k) (Y := Y) (by omega) (by rw [hpr]; exact hY)
 obtain ⟨G1, G2, G3, G4, u1, u2, u3, u4, -⟩ := sp_Host oh
 have hml : Y.mons.length ≤ 3 := by omega
 refine S.go 11 .nil fun ac w β S => ?_
 refine lp (fun mm ac w => ∃ (j : Nat) (u : _) (N : _) (β : _), mm = Y.mons.length - j ∧ j ≤ Y.mons.length ∧ St Try.prog Try.f3.ntmps w0 NoB u N β ⟨[(3, .v (slv p2.length q3.1)), (7, .p 0 0), (8, .v (I (j : Int)))], [GT.cells Y qh]⟩ ac w ∧ Ow w0 NoB u N F4 p2 q3 ∧ Ow w0 NoB u N Fh Y qh) _ ⟨0, _, _, _, rfl, o0, S.z, o5, oh⟩ ?_
 clear S o5 oh u1 u2 u3 u4
 rintro f2 mm hf2 ac w ⟨j, u, N, β, rfl, hj, S, o5, oh⟩
 refine S.rs fun S => ?_
 obtain ⟨G1, G2, G3, G4, u1, u2, u3, u4, -⟩ := sp_Host oh
 refine S.gd 10 .nil (decide ((j : Int) < (Y.mons.length : Int))) (fun ac w β h2 g2 S => ?_) (fun ac w β h2 g2 S => ?_)
 ·have hq := hm.2.2.2 j (by omega)
  have hg : (((el Y.mons j).guests.length : Int) != 2) = false := by rw [hq.1]; rfl
  have ht : (((el Y.mons j).tables.length : Int) != 2) = false := by rw [hq.2]; rfl
  refine S.go 16 (.cons (qn u2.rn j Try.underlying32) (.cons (qc u2.rn 39 j 3 (slv (el Y.mons j).guests.length (qh.mons.2 j).guests.1)) .nil)) fun ac w β S => S.lt 53 hg fun S => ?_
  refine S.go 11 (.cons (qn u2.rn j Try.underlying32) (.cons (qc u2.rn 40 j 7 (slv (el Y.mons j).tables.length (qh.mons.2 j).tables.1)) .nil)) fun ac w β S => S.lt 62 ht fun S => ?_
  exact S.ge 9 (.cons (qp (j : Int) 1) .nil) f2 fun ac w β S => hf2.of (Y.mons.length - (j + 1)) _ _ (by omega) ⟨j + 1, _, _, _, rfl, by omega, S.z, o5, oh⟩
 refine S.go 30 .nil fun ac w β S => ?_
 refine drw ?_
 have hmin : (if 1 + Int.tmod (el p2 1) 5 < 3 then 1 + Int.tmod (el p2 1) 5 else 3) = (Y.mons.length : Int) := by rw [hm.1, ← hk1]; omega
 have e1 : ((Y.mons.length : Int) == (if 1 + Int.tmod (el p2 1) 5 < 3 then 1 + Int.tmod (el p2 1) 5 else 3)) = true := by rw [hmin]; exact beq_self_eq_true _
 have e3 : ((Y.buf.length : Int) == 0) = true := by rw [hm.2.2.1]; rfl
 refine S.drawnO [(10, true), (14, true), (18, true)] (keep := [2]) (m := 0) (σ' := ⟨[(2, .v (B true))], []⟩) (.cons (qn o5.rn 1 Try.underlying24) (.cons (qx o5.rn 3 1) (.cons (Q_rem (x := (el p2 1)) (y := 5) (by decide)) (.cons (qp 1 (Int.tmod (el p2 1) 5)) (.cons (Q_call fun w hw => c_impl_HostOk w Y qh (rd_of oh.rn hw)) .nil))))) rfl (by kernel_rfl) (by kernel_rfl) (.cons e1 (.cons hm.2.1 (.cons e3 .nil))) fun ac w S => ?_
 refine S.ex fun S => ?_
 exact S.gf 4 .nil [B true] (retB rfl)

end Go.Proofs.Ytgonaioedbphgaa
