/- The walks: what each function that the laws reach computes (part 3). -/
import Derived.Test.YtgonaioedbphgaaW2
import Derived.Test.YtgonaioedbphgaaProg
import Derived.KernelRfl
namespace Go.Proofs.Ytgonaioedbphgaa
open Go
set_option linter.unusedVariables false
set_option linter.unusedSimpArgs false
set_option maxRecDepth 100000
set_option maxHeartbeats 2000000

theorem k0_impl_Fill {p : Prop} (h : p := by clear S; (unfold f_fill; (repeat' split) <;> first | rfl | (exfalso; omega) | (exfalso; simp_all; done) | (exfalso; simp_all; omega) | (simp_all; done))) : p := h
theorem c_impl_Fill (w0 : World) (k : TKept) (pk : PKept) (hk : RD w0 k pk) (inner : List TSlot) (pinner : LP TSlot) (hinner : RD w0 inner pinner) (outer : List TSlot) (pouter : LP TSlot) (houter : RD w0 outer pouter) (page : Int) : Calls Try.prog 11 [GT.val k pk, slv inner.length pinner.1, slv outer.length pouter.1, I page].toArray w0 (Ret1 NoB w0 (f_fill k inner outer page : TKept)) := by
 refine Calls.run NoB Try.func11 ?_
 intro ac β S
 have hlek_known : k.known.length ≤ 4194304 := LRd.le (RKept.known (d := k) hk)
 have hlek_slots : k.slots.length ≤ 4194304 := LRd.le (RKept.slots (d := k) hk)
 have hleinner : inner.length ≤ 4194304 := LRd.le hinner
 have hleouter : outer.length ≤ 4194304 := LRd.le houter
 refine S.go 9 .nil fun ac w β S => S.K1 (r := k) (d := 11) (c_impl_copyKept w k pk (S.rd (S.arg hk))) fun ac w N q1 F2 S up o3 d4 => ?_
 clear up d4
 obtain ⟨F5, F8, o6, o9, s7, s10, d11⟩ := sp_Kept o3
 refine S.gb 13 (.cons (Q_call fun w hw => c_impl_has w page (k.known.length : Int) (by omega)) .nil) (f_within page 0 ((k.known.length : Int) - 1)) (fun ac w β h12 S => ?_) (fun ac w β h12 S => ?_)
 ·have g13 := within_t h12
  refine S.gb 7 (.cons (Q_call fun w hw => c_impl_has w page (k.slots.length : Int) (by omega)) .nil) (f_within page 0 ((k.slots.length : Int) - 1)) (fun ac w β h14 S => ?_) (fun ac w β h14 S => ?_)
  ·have g15 := within_t h14
   refine S.gb 7 (.cons (Q_call fun w hw => c_impl_has w page (inner.length : Int) (by omega)) .nil) (f_within page 0 ((inner.length : Int) - 1)) (fun ac w β h16 S => ?_) (fun ac w β h16 S => ?_)
   ·have g17 := within_t h16
    refine S.go 7 (.cons (qt o6.rn page Try.underlying38) .nil) fun ac w β S => S.SF (α := Bool) o6 (t := 4) (k := page.toNat) (j := 0) (off := q1.known.1.off + page.toNat * 1) (v := B true) (y := true) (q := ()) (fun _ _ _ => ⟨NoB, trivial, fun _ h => False.elim h⟩) fun w N F19 q20 S up o18 d21 s22 n23 => ?_
    have d24 := d21 _ (Disj.symm d11) (fun b _ h => False.elim h) o9.sub
    replace o9 := o9.upF (Disj.symm d11) up
    clear up d21 o6 n23
    have l25 : (k.known.set page.toNat true).length = k.known.length := List.length_set
    replace S := S.z (σ' := ⟨[(1, .v (slv inner.length pinner.1)), (2, .v (slv outer.length pouter.1)), (3, .v (I page)), (8, .p 1 0), (9, .p 2 0), (33, .v (pt q1.known.1.b (q1.known.1.off + page.toNat * 1)))], [GT.cells k pk, Zc TKept, [slv k.known.length q1.known.1, slv k.slots.length q1.slots.1]]⟩)
    replace S := S.cast (σ' := ⟨[(1, .v (slv inner.length pinner.1)), (2, .v (slv outer.length pouter.1)), (3, .v (I page)), (8, .p 1 0), (9, .p 2 0), (33, .v (pt q1.known.1.b (q1.known.1.off + page.toNat * 1)))], [GT.cells k pk, Zc TKept, [slv (k.known.set page.toNat true).length q1.known.1, slv k.slots.length q1.slots.1]]⟩) (by rw [show (k.known.set page.toNat true).length = k.known.length by omega])
    refine S.is fun S => ?_
    refine S.go 2 .nil fun ac w β S => ?_
    refine drw ?_
    refine S.draw0 (f := 11) 10 (by kernel_rfl) (by kernel_rfl) fun w S => ?_
    refine S.hq 0 [0] [] [(34, .p 2 1)] .nil fun ac S => ?_
    refine S.hq 1 [1] [] [(35, .v (slv k.slots.length q1.slots.1))] .nil fun ac S => ?_
    refine S.hq 2 [2] [] [(36, .v (I page))] .nil fun ac S => ?_
    refine S.hq 3 [3] [] [(37, .v (slv inner.length pinner.1))] .nil fun ac S => ?_
    refine S.hq 4 [4] [] [(38, .v (I page))] .nil fun ac S => ?_
    refine S.hq 5 [5] [] [(39, .v (pt pinner.1.b (pinner.1.off + page.toNat * 2)))] (.cons (qt (S.arg hinner) page Try.underlying37) .nil) fun ac S => ?_
    refine S.hq 6 [6] [] [(40, .v (GT.val (el inner page.toNat) ()))] (.cons (qs (S.arg hinner) 54 page.toNat) .nil) fun ac S => ?_
    refine S.hq 7 [7] [] [(41, .v (slv outer.length pouter.1))] .nil fun ac S => ?_
    refine WD.one (i := 8) (by kernel_rfl) ?_
    refine S.stepq (i := 8) (keep := [8, 9, 35, 36, 42]) (m := 3) (σ' := ⟨[(8, .p 1 0), (9, .p 2 0), (35, .v (slv k.slots.length q1.slots.1)), (36, .v (I page)), (42, .v (GT.val (f_composeSlot (el inner page.toNat) outer) ()))], [GT.cells k pk, Zc TKept, [slv (k.known.set page.toNat true).length q1.known.1, slv k.slots.length q1.slots.1]]⟩) (.cons (Q_call fun w hw => c_impl_ComposeSlot w (el inner page.toNat) outer pouter (rd_of (S.arg houter) hw)) .nil) (by kernel_rfl) fun ac w β S hβ => ?_
    refine WD.stayq S hβ ?_
    clear hβ
    refine S.hq 9 [9] [] [(43, .v (pt q1.slots.1.b (q1.slots.1.off + page.toNat * 2)))] (.cons (qt o9.rn page Try.underlying37) .nil) fun ac S => ?_
    refine WD.one (i := 10) (by kernel_rfl) ?_
    have e26 : RSlot (el k.slots page.toNat) := (LRd.el o9.rn page.toNat (by omega))
    refine id (S.sF (α := TSlot) o9 (t := 54) (k := page.toNat) (j := 0) (off := q1.slots.1.off + page.toNat * 2) (v := GT.val (f_composeSlot (el inner page.toNat) outer) ()) (y := (f_composeSlot (el inner page.toNat) outer)) (q := ()) (fun _ _ _ => ⟨NoB, (compose_r (S.arg houter) (el inner page.toNat)), fun _ h => False.elim h⟩) fun w N F28 q29 S up o27 d30 s31 n32 => ?_)
    refine WD.last (by kernel_rfl) ?_
    have d33 := d30 _ (Disj.symm d24) (fun b _ h => False.elim h) o18.sub
    replace o18 := o18.upF (Disj.symm d24) up
    clear up d30 o9 n32
    have l34 : (k.slots.set page.toNat (f_composeSlot (el inner page.toNat) outer)).length = k.slots.length := List.length_set
    replace S := S.z (σ' := ⟨[(8, .p 1 0), (9, .p 2 0), (42, .v (GT.val (f_composeSlot (el inner page.toNat) outer) ())), (43, .v (pt q1.slots.1.b (q1.slots.1.off + page.toNat * 2)))], [GT.cells k pk, Zc TKept, [slv (k.known.set page.toNat true).length q1.known.1, slv k.slots.length q1.slots.1]]⟩)
    replace S := S.cast (σ' := ⟨[(8, .p 1 0), (9, .p 2 0), (42, .v (GT.val (f_composeSlot (el inner page.toNat) outer) ())), (43, .v (pt q1.slots.1.b (q1.slots.1.off + page.toNat * 2)))], [GT.cells k pk, Zc TKept, [slv (k.known.set page.toNat true).length q1.known.1, slv (k.slots.set page.toNat (f_composeSlot (el inner page.toNat) outer)).length q1.slots.1]]⟩) (by rw [show (k.slots.set page.toNat (f_composeSlot (el inner page.toNat) outer)).length = k.slots.length by omega])
    refine WD.done (by kernel_rfl) ?_ _
    refine S.ex fun S => ?_
    refine S.gr 8 .nil [GT.val (⟨(k.known.set page.toNat true), (k.slots.set page.toNat (f_composeSlot (el inner page.toNat) outer))⟩ : TKept) (⟨(q1.known.1, q20), (q1.slots.1, q29)⟩ : PKept)] fun ac w β S => ?_
    have o35 := ow_Kept (x := (⟨(k.known.set page.toNat true), (k.slots.set page.toNat (f_composeSlot (el inner page.toNat) outer))⟩ : TKept)) (p := (⟨(q1.known.1, q20), (q1.slots.1, q29)⟩ : PKept)) o18 o27 d33 
    exact ret1_of S (show f_fill k inner outer page = (⟨(k.known.set page.toNat true), (k.slots.set page.toNat (f_composeSlot (el inner page.toNat) outer))⟩ : TKept) from k0_impl_Fill) rfl o35
   have g36 := within_f h16
   refine S.gr 10 .nil [GT.val k q1] fun ac w β S => ?_
   have o37 := ow_Kept (x := k) (p := q1) o6 o9 d11 
   exact ret1_of S (show f_fill k inner outer page = k from k0_impl_Fill) rfl o37
  have g38 := within_f h14
  refine S.gr 17 .nil [GT.val k q1] fun ac w β S => ?_
  have o39 := ow_Kept (x := k) (p := q1) o6 o9 d11 
  exact ret1_of S (show f_fill k inner outer page = k from k0_impl_Fill) rfl o39
 have g40 := within_f h12
 refine S.gr 24 .nil [GT.val k q1] fun ac w β S => ?_
 have o41 := ow_Kept (x := k) (p := q1) o6 o9 d11 
 exact ret1_of S (show f_fill k inner outer page = k from k0_impl_Fill) rfl o41

theorem c_impl_PutEntry (w0 : World) (b : List TEntry) (pb : LP TEntry) (hb : RD w0 b pb) (e : TEntry) (he : REntry e) (pre0 : b.length ≤ 6) : Calls Try.prog 130 [slv b.length pb.1, GT.val e ()].toArray w0 (Ret1 NoB w0 (f_putEntry b e : List TEntry)) := by
 refine Calls.run NoB Try.func130 ?_
 intro ac β S
 have hfl : (f_flushPage b e.tag e.page).length ≤ b.length := without_len _ _
 have hfa : (f_flushPage b e.tag e.page ++ [e]).length = (f_flushPage b e.tag e.page).length + 1 := by simp
 have hleb : b.length ≤ 4194304 := LRd.le hb
 refine S.go 7 .nil fun ac w β S => ?_
 refine drw ?_
 let σ1 : Sy := ⟨[(0, .v (slv b.length pb.1)), (3, .p 0 0)], [GT.cells e ()]⟩
 obtain ⟨u0, N0, β0, S⟩ : ∃ u0 N0 β0, St Try.prog Try.f130.ntmps w0 NoB u0 N0 β0 σ1 ac w := ⟨_, _, _, S.z⟩
 refine wp_region_cut (fun ac w => ∃ q37 F38 u N β, St Try.prog Try.f130.ntmps w0 NoB u N β (σ1.dl [0, 3] [(5, .v (slv ((f_flushPage b e.tag e.page) ++ [e]).length q37.1))] 0 []) ac w ∧ Ow w0 NoB u N F38 ((f_flushPage b e.tag e.page) ++ [e]) q37) ?_ ?_
 ·refine S.draw0 (f := 10) 10 (by kernel_rfl) (by kernel_rfl) fun w S => ?_
  refine S.hq 0 [] [] [(6, .v (slv b.length pb.1))] .nil fun ac S => ?_
  refine S.hq 1 [] [] [(7, .p 0 0)] .nil fun ac S => ?_
  refine S.hq 2 [] [] [(8, .v (I e.tag))] .nil fun ac S => ?_
  refine S.hq 3 [] [] [(9, .p 0 1)] .nil fun ac S => ?_
  refine S.hq 4 [] [] [(10, .v (I e.page))] .nil fun ac S => ?_
  refine S.hq 6 [] [] [(12, .v (GT.val e ()))] .nil fun ac S => ?_
  refine WD.nameW fun W hW => ?_
  refine WD.castW (l' := mkL 10 [0, 1, 2, 3, 4, 6]) (by kernel_rfl) ?_
  have hK39 ac w q37 F38 u N β (S : St Try.prog Try.f130.ntmps w0 NoB u N β (σ1.dl [0, 3] [(5, .v (slv ((f_flushPage b e.tag e.page) ++ [e]).length q37.1))] 1 []) ac w) (o36 : Ow w0 NoB u N F38 ((f_flushPage b e.tag e.page) ++ [e]) q37) (hNN : NN N0 u0 N u) (hBB : BB σ1.bx.length β0 β) : W 0 (mkL 10 [0, 1, 2, 3, 4, 5, 6, 7, 8, 9]) ac w := by
   exact od hW ⟨rfl, q37, F38, _, _, _, S.z, o36⟩
  have hK40 ac w q8 F9 q16 F17 u N β (S : St Try.prog Try.f130.ntmps w0 NoB u N β (σ1.dl [0, 3] [(11, .v (slv (f_flushPage b e.tag e.page).length q8.1)), (13, .v (slv 1 q16.1))] 1 []) ac w) (o7 : Ow w0 NoB u N F9 (f_flushPage b e.tag e.page) q8) (o15 : Ow w0 NoB u N F17 ([e]) q16) (d41 : Disj F9 F17) (hNN : ∀ b, N0 b → N b ∧ u.heap[b]? = u0.heap[b]? ∧ ¬ F9 b) (hBB : BB σ1.bx.length β0 β) : W 2 (mkL 10 [0, 1, 2, 3, 4, 5, 6, 7]) ac w := by
   refine ox1 hW 8 ?_
   refine id (S.appFlat (α := TEntry) o7 o15.rn (fun _ _ h => h) (by' := 32) (d := 14) (lx := (f_flushPage b e.tag e.page).length) (ly := 1) rfl rfl (by kernel_rfl) (show _ ≤ 4194304 by simp only [List.length_append, List.length_cons, List.length_nil]; omega) fun ac w N q42 F43 S up o44 d45 => ?_)
   have hb46 := fun b h => (⟨(up b (hNN b h).1 (hNN b h).2.2).1, (up b (hNN b h).1 (hNN b h).2.2).2.trans (hNN b h).2.1⟩ : _ ∧ _)
   refine WD.sc S hb46 hBB fun hC => ?_
   have d47 := d45 _ (Disj.symm d41) o15.sub
   replace o15 := o15.upF (Disj.symm d41) up
   clear up d45
   exact S.wh hW [9] hC fun _ S => hK39 _ _ q42 F43 _ _ _ S o44 hb46 hBB
  have hK48 ac w q8 F9 u N β (S : St Try.prog Try.f130.ntmps w0 NoB u N β (σ1.dl [0, 3] [(11, .v (slv (f_flushPage b e.tag e.page).length q8.1)), (12, .v (GT.val e ()))] 1 []) ac w) (o7 : Ow w0 NoB u N F9 (f_flushPage b e.tag e.page) q8) (hNN : ∀ b, N0 b → N b ∧ u.heap[b]? = u0.heap[b]? ∧ ¬ F9 b) (hBB : BB σ1.bx.length β0 β) : W 3 (mkL 10 [0, 1, 2, 3, 4, 5, 6]) ac w := by
   refine ox1 hW 7 ?_
   refine id (S.bs1 (α := TEntry) (x := e) (p := ()) (F := NoB) he (fun b h => False.elim h) (fun b h => False.elim h) (d := 13) (by kernel_rfl) fun ac w N q49 F50 S up o51 d52 => ?_)
   have hb53 := fun b h => (⟨(up b (hNN b h).1).1, (up b (hNN b h).1).2.trans (hNN b h).2.1, (hNN b h).2.2⟩ : _ ∧ _ ∧ _)
   refine WD.sc S (fun b h => ⟨(hb53 b h).1, (hb53 b h).2.1⟩) hBB fun hC => ?_
   have d54 := d52 _ (fun b _ h => False.elim h) o7.sub
   replace o7 := o7.up up
   clear up d52
   exact S.wh hW [] hC fun _ S => hK40 _ _ q8 F9 q49 F50 _ _ _ S o7 o51 d54 hb53 hBB
  have hK55 ac w q16 F17 u N β (S : St Try.prog Try.f130.ntmps w0 NoB u N β (σ1.dl [0, 3] [(6, .v (slv b.length pb.1)), (8, .v (I e.tag)), (10, .v (I e.page)), (13, .v (slv 1 q16.1))] 1 []) ac w) (o15 : Ow w0 NoB u N F17 ([e]) q16) (hNN : NN N0 u0 N u) (hBB : BB σ1.bx.length β0 β) : W 3 (mkL 10 [0, 1, 2, 3, 4, 6, 7]) ac w := by
   refine ox1 hW 5 ?_
   refine id (S.k1 11 (c_impl_FlushPage w b pb (S.rd (S.arg hb)) e.tag (REntry.tag (d := e) he) e.page (REntry.page (d := e) he)) fun ac w N q56 F57 S up o58 d59 => ?_)
   have hb60 := fun b h => (⟨(up b (hNN b h).1).1, (up b (hNN b h).1).2.trans (hNN b h).2, d59 b (hNN b h).1⟩ : _ ∧ _ ∧ _)
   refine WD.sc S (fun b h => ⟨(hb60 b h).1, (hb60 b h).2.1⟩) hBB fun hC => ?_
   have d61 := Disj.w d59 o15.sub
   replace o15 := o15.up up
   clear up d59
   exact S.wh hW [] hC fun _ S => hK40 _ _ q56 F57 q16 F17 _ _ _ S o58 o15 (Disj.symm d61) hb60 hBB
  have hNN : NN N0 u0 N0 u0 := fun b h => ⟨h, rfl⟩
  have hBB : BB σ1.bx.length β0 β0 := fun _ _ => rfl
  refine ox2 hW 5 7 ?_ ?_
  ·refine id (S.k1 11 (c_impl_FlushPage w b pb (S.rd (S.arg hb)) e.tag (REntry.tag (d := e) he) e.page (REntry.page (d := e) he)) fun ac w N q62 F63 S up o64 d65 => ?_)
   have hb66 := fun b h => (⟨(up b (hNN b h).1).1, (up b (hNN b h).1).2.trans (hNN b h).2, d65 b (hNN b h).1⟩ : _ ∧ _ ∧ _)
   refine WD.sc S (fun b h => ⟨(hb66 b h).1, (hb66 b h).2.1⟩) hBB fun hC => ?_
   clear up d65
   exact S.wh hW [] hC fun _ S => hK48 _ _ q62 F63 _ _ _ S o64 hb66 hBB
  ·refine id (S.bs1 (α := TEntry) (x := e) (p := ()) (F := NoB) he (fun b h => False.elim h) (fun b h => False.elim h) (d := 13) (by kernel_rfl) fun ac w N q67 F68 S up o69 d70 => ?_)
   have hb71 := fun b h => (⟨(up b (hNN b h).1).1, (up b (hNN b h).1).2.trans (hNN b h).2⟩ : _ ∧ _)
   refine WD.sc S hb71 hBB fun hC => ?_
   clear up d70
   exact S.wh hW [] hC fun _ S => hK55 _ _ q67 F68 _ _ _ S o69 hb71 hBB
 clear S
 rintro ac w ⟨q37, F38, u, N, β, S, o36⟩
 refine S.ex fun S => ?_
 refine S.go 8 (.cons (qm (((f_flushPage b e.tag e.page) ++ [e]).length : Int) 6) .nil) fun ac w β S => ?_
 replace S := S.z (σ' := ⟨[(15, .v (slv ((f_flushPage b e.tag e.page) ++ [e]).length q37.1)), (19, .v (I (if ((((f_flushPage b e.tag e.page) ++ [e]).length : Int) - 6) > 0 then ((((f_flushPage b e.tag e.page) ++ [e]).length : Int) - 6) else 0)))], []⟩)
 replace S := S.cast (σ' := ⟨[(15, .v (slv ((f_flushPage b e.tag e.page) ++ [e]).length q37.1)), (19, .v (I (((f_flushPage b e.tag e.page ++ [e]).length - 6 : Nat) : Int)))], []⟩) (by rw [show (((f_flushPage b e.tag e.page ++ [e]).length - 6 : Nat) : Int) = (if ((((f_flushPage b e.tag e.page) ++ [e]).length : Int) - 6) > 0 then ((((f_flushPage b e.tag e.page) ++ [e]).length : Int) - 6) else 0) by (repeat' split) <;> omega])
 have l72 : ((((f_flushPage b e.tag e.page) ++ [e]).drop ((f_flushPage b e.tag e.page ++ [e]).length - 6)).take (((f_flushPage b e.tag e.page) ++ [e]).length - ((f_flushPage b e.tag e.page ++ [e]).length - 6))).length = ((f_flushPage b e.tag e.page) ++ [e]).length - ((f_flushPage b e.tag e.page ++ [e]).length - 6) := by first | (simp; done) | (simp; omega)
 refine S.is fun S => ?_
 refine S.gr 5 (.cons (Q_slice o36.rn (l := ((f_flushPage b e.tag e.page) ++ [e]).length) (a := ((f_flushPage b e.tag e.page ++ [e]).length - 6)) (b := ((f_flushPage b e.tag e.page) ++ [e]).length) rfl (.inr rfl) (.inl ⟨rfl, rfl⟩) (by omega) (by omega) Try.underlying33 (by kernel_rfl)) .nil) [slv (((f_flushPage b e.tag e.page) ++ [e]).length - ((f_flushPage b e.tag e.page ++ [e]).length - 6) : Nat) (q37.1.sl ((f_flushPage b e.tag e.page ++ [e]).length - 6) 4)] fun ac w β S => ?_
 have o73 : Ow w0 NoB _ _ F38 ((((f_flushPage b e.tag e.page) ++ [e]).drop ((f_flushPage b e.tag e.page ++ [e]).length - 6)).take (((f_flushPage b e.tag e.page) ++ [e]).length - ((f_flushPage b e.tag e.page ++ [e]).length - 6))) (q37.1.sl ((f_flushPage b e.tag e.page ++ [e]).length - 6) 4, fun i => q37.2 (((f_flushPage b e.tag e.page ++ [e]).length - 6) + i)) := Ow.sl o36 (a := ((f_flushPage b e.tag e.page ++ [e]).length - 6)) (b := ((f_flushPage b e.tag e.page) ++ [e]).length) (by omega) (by omega)
 exact ret1_of S (show f_putEntry b e = ((((f_flushPage b e.tag e.page) ++ [e]).drop ((f_flushPage b e.tag e.page ++ [e]).length - 6)).take (((f_flushPage b e.tag e.page) ++ [e]).length - ((f_flushPage b e.tag e.page ++ [e]).length - 6))) by clear S; (first | exact put_eq (by omega) | exact put_all (by omega))) (show slv (((f_flushPage b e.tag e.page) ++ [e]).length - ((f_flushPage b e.tag e.page ++ [e]).length - 6) : Nat) (q37.1.sl ((f_flushPage b e.tag e.page ++ [e]).length - 6) 4) = GT.val ((((f_flushPage b e.tag e.page) ++ [e]).drop ((f_flushPage b e.tag e.page ++ [e]).length - 6)).take (((f_flushPage b e.tag e.page) ++ [e]).length - ((f_flushPage b e.tag e.page ++ [e]).length - 6))) ((q37.1.sl ((f_flushPage b e.tag e.page ++ [e]).length - 6) 4, fun i => q37.2 (((f_flushPage b e.tag e.page ++ [e]).length - 6) + i)) : LP TEntry) from congrArg (fun z => slv z (q37.1.sl ((f_flushPage b e.tag e.page ++ [e]).length - 6) 4)) (show (((f_flushPage b e.tag e.page) ++ [e]).length - ((f_flushPage b e.tag e.page ++ [e]).length - 6) : Nat) = ((((f_flushPage b e.tag e.page) ++ [e]).drop ((f_flushPage b e.tag e.page ++ [e]).length - 6)).take (((f_flushPage b e.tag e.page) ++ [e]).length - ((f_flushPage b e.tag e.page ++ [e]).length - 6))).length by omega)) o73

theorem k0_impl_lookup {p : Prop} (h : p := by clear S; (first | (rw [lkO1 (by assumption)]; done) | (rw [lkO2 (by assumption) (by assumption)]; done) | (rw [lkI (by assumption) (by assumption) (by omega) (by omega) (by assumption) hJ3, lkTo_f (by assumption)]; first | done | rfl) | (rw [lkI (by assumption) (by assumption) (by omega) (by omega) (by assumption) hJ3, lkTo_k (by assumption) (by assumption)]; first | done | rfl) | (rw [lkI (by assumption) (by assumption) (by omega) (by omega) (by assumption) hJ3, lkTo_m (by assumption) (by assumption) (by assumption) (by assumption)]; first | done | rfl))) : p := h
theorem c_impl_lookup (w0 : World) (h : THost) (ph : PHost) (hh : RD w0 h ph) (m : Int) (g : Int) (page : Int) (hpage : In64 page) (need : Int) (io : Bool) (pre0 : io = true) : Calls Try.prog 109 [GT.val h ph, I m, I g, I page, I need, B io].toArray w0 (Ret3 NoB w0 ((f_lookup h m g page need io).1 : THost) ((f_lookup h m g page need io).2.1 : Int) ((f_lookup h m g page need io).2.2 : Bool)) := by
 refine Calls.run NoB Try.func109 ?_
 intro ac β S
 have hlio : io = true := by assumption
 subst hlio
 have hleh_mem : h.mem.length ≤ 4194304 := LRd.le (RHost.mem (d := h) hh)
 have hleh_mons : h.mons.length ≤ 4194304 := LRd.le (RHost.mons (d := h) hh)
 have hleh_buf : h.buf.length ≤ 4194304 := LRd.le (RHost.buf (d := h) hh)
 have hleh_iobuf : h.iobuf.length ≤ 4194304 := LRd.le (RHost.iobuf (d := h) hh)
 have hlopage := hpage.lo; have hhipage := hpage.hi
 refine S.go 11 .nil fun ac w β S => S.K1 (r := h) (d := 28) (c_impl_copyHost w h ph (S.rd (S.arg hh))) fun ac w N q1 F2 S up o3 d4 => ?_
 clear up d4
 obtain ⟨F5, F8, F11, F14, o6, o9, o12, o15, s7, s10, s13, s16, d17, d18, d19, d20, d21, d22⟩ := sp_Host o3
 refine S.go 5 .nil fun ac w β S => ?_
 have o23 := ow_Host (x := h) (p := q1) o6 o9 o12 o15 d17 d18 d19 d20 d21 d22 
 refine S.FrzO 2 o23 fun β N b24 F25 S up o26 d27 => ?_
 clear up d27 o23
 refine S.go 3 .nil fun ac w β S => S.K2 (r := (f_monAt h m).1) (r' := (f_monAt h m).2) (d := 32) (c_impl_MonAt w h ph (S.rd (S.arg hh)) m) fun ac w N q28 q29 F30 F31 S up o32 o33 d34 d35 d36 => ?_
 have d37 := Disj.w d35 o26.sub
 have d38 := Disj.w d34 o26.sub
 replace o26 := o26.up up
 clear up d34
 clear d35
 have i54 : In64 (f_monAt h m).1.pend := RMon.pend (d := (f_monAt h m).1) o32.rn
 have i55 : In64 (f_monAt h m).1.traps := RMon.traps (d := (f_monAt h m).1) o32.rn
 have i59 : In64 (f_monAt h m).1.owned := RMon.owned (d := (f_monAt h m).1) o32.rn
 obtain ⟨F39, F42, F45, F48, F51, F56, o40, o43, o46, o49, o52, o57, s41, s44, s47, s50, s53, s58, d60, d61, d62, d63, d64, d65, d66, d67, d68, d69, d70, d71, d72, d73, d74⟩ := sp_Mon o32
 refine S.go 10 .nil fun ac w β S => ?_
 refine S.cq ⟨[(1, .v (I m)), (2, .v (I g)), (3, .v (I page)), (4, .v (I need)), (5, .v (B true)), (12, .p 1 0), (15, .v (pt (cap1 b24 q1 : LP THost).1.b ((cap1 b24 q1 : LP THost).1.off + 0 * 4))), (16, .p 2 0), (57, .v (B ((((!(f_hostOk h)) || (!(f_monAt h m).2)) || (!(f_within g 0 (((f_monAt h m).1.guests.length : Int) - 1)))) || ((need != 1) && (need != 2)))))], [GT.cells h ph, Zc THost, [slv (f_monAt h m).1.outer.length q28.outer.1, slv (f_monAt h m).1.out.length q28.out.1, slv (f_monAt h m).1.dirty.length q28.dirty.1, slv (f_monAt h m).1.guests.length q28.guests.1, slv (f_monAt h m).1.outs.length q28.outs.1, I (f_monAt h m).1.pend, I (f_monAt h m).1.traps, slv (f_monAt h m).1.tables.length q28.tables.1, I (f_monAt h m).1.owned]]⟩ ?_ ?_
 ·clear S; intro S
  refine S.gb 5 (.cons (Q_call fun w hw => c_impl_HostOk w h ph (rd_of (S.arg hh) hw)) .nil) (!(f_hostOk h)) (fun ac w β h75 S => ?_) (fun ac w β h75 S => ?_)
  ·have h76 := not_t h75
   exact S.gn 20 .nil fun ac w β S => ⟨rfl, _, by rw [h75]; exact S.z⟩
  have h77 := not_f h75
  have g78 := hostOk_t h77
  refine S.gb 4 .nil (!(f_monAt h m).2) (fun ac w β h79 S => ?_) (fun ac w β h79 S => ?_)
  ·have h80 := not_t h79
   exact S.gn 16 .nil fun ac w β S => ⟨rfl, _, by rw [h75, h79]; exact S.z⟩
  have h81 := not_f h79
  have g82 := monAt_tt h81
  refine S.gb 8 (.cons (Q_call fun w hw => c_impl_has w g ((f_monAt h m).1.guests.length : Int) (by omega)) .nil) (!(f_within g 0 (((f_monAt h m).1.guests.length : Int) - 1))) (fun ac w β h83 S => ?_) (fun ac w β h83 S => ?_)
  ·have h84 := not_t h83
   have g85 := within_f h84
   exact S.gn 8 .nil fun ac w β S => ⟨rfl, _, by rw [h75, h79, h83]; exact S.z⟩
  have h86 := not_f h83
  have g87 := within_t h86
  refine S.gd 3 .nil (need != 1) (fun ac w β h88 g89 S => ?_) (fun ac w β h88 g89 S => ?_)
  ·exact S.gn 5 .nil fun ac w β S => ⟨rfl, _, by rw [h75, h79, h83, h88]; exact S.z⟩
  exact S.gn 5 .nil fun ac w β S => ⟨rfl, _, by rw [h75, h79, h83, h88]; exact S.z⟩
 clear S; intro ac w β S
 refine S.gb 1 .nil ((((!(f_hostOk h)) || (!(f_monAt h m).2)) || (!(f_within g 0 (((f_monAt h m).1.guests.length : Int) - 1)))) || ((need != 1) && (need != 2))) (fun ac w β h90 S => ?_) (fun ac w β h90 S => ?_)
 ·refine S.gr 10 (.cons (Q_el o26.rn (t := 35) (k := 0) (Nat.succ_pos 0) rfl (by kernel_rfl) (by kernel_rfl)) .nil) [GT.val h ((cap1 b24 q1 : LP THost).2 0), I (-1), B false] fun ac w β S => ?_
  obtain ⟨F91, o92, s93, _⟩ := foc2_id o26 (k := 0) (Nat.succ_pos 0)
  change Ow w0 NoB _ _ F91 h ((cap1 b24 q1 : LP THost).2 0) at o92
  exact ret3_of (p' := ()) (p'' := ()) S (show (f_lookup h m g page need true).1 = h from k0_impl_lookup) (show (f_lookup h m g page need true).2.1 = (-1) from k0_impl_lookup) (show (f_lookup h m g page need true).2.2 = false from k0_impl_lookup) rfl rfl rfl o92 (show In64 (-1) from ⟨by decide, by decide⟩) trivial
 obtain ⟨h94, h95⟩ := or_f h90
 obtain ⟨h96, h97⟩ := or_f h94
 obtain ⟨h98, h99⟩ := or_f h96
 have h100 := not_f h98
 have g101 := hostOk_t h100
 have h102 := not_f h99
 have g103 := monAt_tt h102
 have h104 := not_f h97
 have g105 := within_t h104
 have g106 := ne_or h95
 refine S.gb 28 (.cons (qt o49.rn g Try.underlying39) (.cons (qc o49.rn 37 g.toNat 4 (slv (el (f_monAt h m).1.guests g.toNat).live.length (q28.guests.2 g.toNat).live.1)) (.cons (Q_call fun w hw => c_impl_WalkInner w (el (f_monAt h m).1.guests g.toNat).live (q28.guests.2 g.toNat).live (rd_of (RGuest.live (d := (el (f_monAt h m).1.guests g.toNat)) (LRd.el o49.rn g.toNat (by omega))) hw) page need) .nil))) (!(f_walkInner (el (f_monAt h m).1.guests g.toNat).live page need).2) (fun ac w β h107 S => ?_) (fun ac w β h107 S => ?_)
 ·have h108 := not_t h107
  refine S.gr 10 (.cons (Q_el o26.rn (t := 35) (k := 0) (Nat.succ_pos 0) rfl (by kernel_rfl) (by kernel_rfl)) .nil) [GT.val h ((cap1 b24 q1 : LP THost).2 0), I (-1), B false] fun ac w β S => ?_
  obtain ⟨F109, o110, s111, _⟩ := foc2_id o26 (k := 0) (Nat.succ_pos 0)
  change Ow w0 NoB _ _ F109 h ((cap1 b24 q1 : LP THost).2 0) at o110
  exact ret3_of (p' := ()) (p'' := ()) S (show (f_lookup h m g page need true).1 = h from k0_impl_lookup) (show (f_lookup h m g page need true).2.1 = (-1) from k0_impl_lookup) (show (f_lookup h m g page need true).2.2 = false from k0_impl_lookup) rfl rfl rfl o110 (show In64 (-1) from ⟨by decide, by decide⟩) trivial
 have h112 := not_f h107
 have g113 := walkI h112
 refine S.go 10 .nil fun ac w β S => ?_
 refine cutC S (fun ac w => ∃ (J3 : THost) (q114 : Nat → PHost) (F115 : Bl) (u : _) (N : _) (β : _), (J3 = f_dirtIf h m (f_walkInner (el (f_monAt h m).1.guests g.toNat).live page need).1 need) ∧ (q114 0).mons.1 = q1.mons.1 ∧ St Try.prog Try.f109.ntmps w0 NoB u N β ⟨[(1, .v (I m)), (2, .v (I g)), (3, .v (I page)), (4, .v (I need)), (5, .v (B true)), (12, .p 1 0), (15, .v (pt ((cap1 b24 q1 : LP THost).1).b (((cap1 b24 q1 : LP THost).1).off + 0 * 4))), (18, .v (I (f_walkInner (el (f_monAt h m).1.guests g.toNat).live page need).1))], [GT.cells h ph, Zc THost]⟩ ac w ∧ Ow w0 NoB u N F115 ([J3]) (((cap1 b24 q1 : LP THost).1, q114) : LP THost)) ?_ ?_
 ·clear S; intro S
  refine S.gd 0 .nil (need == 2) (fun ac w β h118 g119 S => ?_) (fun ac w β h118 g119 S => ?_)
  ·obtain ⟨F120, o121, s122, b123⟩ := foc_cap o26 (fun _ o => foc2_Mon_dirty o (k := m.toNat) (show m.toNat < h.mons.length by omega))
   change Ow w0 NoB _ _ F120 (el h.mons m.toNat).dirty (((cap1 b24 q1 : LP THost).2 0).mons.2 m.toNat).dirty at o121
   have l124 := LRd.le o121.rn
   have n125 := o121.sub
   refine S.go 10 (.cons (Q_cell o26.rn (t := 32) (k := 0) (j := 1) (v := slv h.mons.length ((cap1 b24 q1 : LP THost).2 0).mons.1) (Nat.succ_pos 0) (by kernel_rfl) (by kernel_rfl)) (.cons (qt (cap_mons o26.rn) m Try.underlying32) (.cons (qc (cap_mons o26.rn) 38 m.toNat 2 (slv (el h.mons m.toNat).dirty.length (((cap1 b24 q1 : LP THost).2 0).mons.2 m.toNat).dirty.1)) (.cons (Q_idx (RMon.dirty (d := (el h.mons m.toNat)) (LRd.el (cap_mons o26.rn) m.toNat (by omega))) (l := (el h.mons m.toNat).dirty.length) (k := (f_walkInner (el (f_monAt h m).1.guests g.toNat).live page need).1.toNat) (i := (f_walkInner (el (f_monAt h m).1.guests g.toNat).live page need).1) rfl (by omega) (by omega) Try.underlying38 (by kernel_rfl)) .nil)))) fun ac w β S => S.SF (α := Bool) o121 (t := 4) (k := (f_walkInner (el (f_monAt h m).1.guests g.toNat).live page need).1.toNat) (j := 0) (off := (((cap1 b24 q1 : LP THost).2 0).mons.2 m.toNat).dirty.1.off + (f_walkInner (el (f_monAt h m).1.guests g.toNat).live page need).1.toNat * 1) (v := B true) (y := true) (q := ()) (fun _ _ _ => ⟨NoB, trivial, fun _ h => False.elim h⟩) fun w N F127 q128 S up o126 d129 s130 n131 => ?_
   clear d129 o121
   obtain ⟨p132, o133, hq135⟩ := b123 _ _ _ _ _ NoB up o126 s130 (fun b _ h => False.elim h) List.length_set n131
   obtain ⟨X137, hX138⟩ : ∃ z, z = h.mons.set m.toNat { el h.mons m.toNat with dirty := ((el h.mons m.toNat).dirty.set (f_walkInner (el (f_monAt h m).1.guests g.toNat).live page need).1.toNat true) } := ⟨_, rfl⟩
   have o136 : Ow w0 NoB w N (Or F25 F127) [(⟨h.mem, X137, h.buf, h.iobuf⟩ : THost)] (((cap1 b24 q1 : LP THost).1, p132) : LP THost) := by rw [hX138]; exact o133
   obtain ⟨l139, e140⟩ := setm_dirty hX138 (show m.toNat < h.mons.length by omega) List.length_set
   change (p132 0).mons.1 = ((cap1 b24 q1 : LP THost).2 0).mons.1 at hq135
   clear up o126 n131 o133
   exact S.gn 1 .nil fun ac w β S => ⟨rfl, (⟨h.mem, X137, h.buf, h.iobuf⟩ : THost), p132, (Or F25 F127), _, _, _, (by clear S; first | exact dirtIf_y (by assumption) (by assumption) | exact dirtIf_n (by assumption)), hq135, S.z, o136⟩
  exact S.gn 2 .nil fun ac w β S => ⟨rfl, h, (cap1 b24 q1 : LP THost).2, F25, _, _, _, (by clear S; first | exact dirtIf_y (by assumption) (by assumption) | exact dirtIf_n (by assumption)), rfl, S.z, o26⟩
 clear S o26 o33 o40 o43 o46 o49 o52 o57
 rintro ac w ⟨J3, q114, F115, u, N, β, hJ3, hq117, S, o116⟩
 have hr := dirtIf_bd hJ3 (walkI (by assumption)).1
 refine S.ex fun S => ?_
 have i141 : REntry (f_findEntry J3.iobuf (f_tagOf m g) page).1 := (findEntry_r (capx_iobuf o116.rn) (f_tagOf m g) page)
 refine S.go 45 (.cons (Q_call fun w hw => c_impl_TagOf w m g) (.cons (Q_cell o116.rn (t := 33) (k := 0) (j := 3) (v := slv J3.iobuf.length (q114 0).iobuf.1) (Nat.succ_pos 0) (by kernel_rfl) (by kernel_rfl)) (.cons (Q_call fun w hw => c_impl_FindEntry w J3.iobuf (q114 0).iobuf (rd_of (capx_iobuf o116.rn) hw) (f_tagOf m g) page) .nil))) fun ac w β S => ?_
 refine S.cq ⟨[(1, .v (I m)), (2, .v (I g)), (3, .v (I page)), (4, .v (I need)), (12, .p 1 0), (15, .v (pt ((cap1 b24 q1 : LP THost).1).b (((cap1 b24 q1 : LP THost).1).off + 0 * 4))), (18, .v (I (f_walkInner (el (f_monAt h m).1.guests g.toNat).live page need).1)), (20, .v (pt ((cap1 b24 q1 : LP THost).1).b (((cap1 b24 q1 : LP THost).1).off + 0 * 4 + 3))), (21, .v (I (f_tagOf m g))), (22, .p 2 0), (105, .v (B ((f_findEntry J3.iobuf (f_tagOf m g) page).2 && (f_enough (f_findEntry J3.iobuf (f_tagOf m g) page).1.rights need))))], [GT.cells h ph, Zc THost, GT.cells (f_findEntry J3.iobuf (f_tagOf m g) page).1 ()]⟩ ?_ ?_
 ·clear S; intro S
  refine S.gb 3 .nil (f_findEntry J3.iobuf (f_tagOf m g) page).2 (fun ac w β h142 S => ?_) (fun ac w β h142 S => ?_)
  ·exact S.gn 6 (.cons (Q_call fun w hw => c_impl_Enough w (f_findEntry J3.iobuf (f_tagOf m g) page).1.rights need) .nil) fun ac w β S => ⟨rfl, _, by rw [h142]; exact S.z⟩
  exact S.gn 6 .nil fun ac w β S => ⟨rfl, _, by rw [h142]; exact S.z⟩
 clear S; intro ac w β S
 refine S.gb 1 .nil ((f_findEntry J3.iobuf (f_tagOf m g) page).2 && (f_enough (f_findEntry J3.iobuf (f_tagOf m g) page).1.rights need)) (fun ac w β h143 S => ?_) (fun ac w β h143 S => ?_)
 ·obtain ⟨h144, h145⟩ := and_t h143
  have g146 := enough_t h145
  refine S.go 2 .nil fun ac w β S => ?_
  refine drw ?_
  let σ147 : Sy := ⟨[(1, .v (I m)), (2, .v (I g)), (3, .v (I page)), (4, .v (I need)), (12, .p 1 0), (15, .v (pt ((cap1 b24 q1 : LP THost).1).b (((cap1 b24 q1 : LP THost).1).off + 0 * 4))), (18, .v (I (f_walkInner (el (f_monAt h m).1.guests g.toNat).live page need).1)), (20, .v (pt ((cap1 b24 q1 : LP THost).1).b (((cap1 b24 q1 : LP THost).1).off + 0 * 4 + 3))), (21, .v (I (f_tagOf m g))), (22, .p 2 0), (105, .v (B true))], [GT.cells h ph, Zc THost, GT.cells (f_findEntry J3.iobuf (f_tagOf m g) page).1 ()]⟩
  obtain ⟨u0, N0, β0, S, o116⟩ : ∃ u0 N0 β0, St Try.prog Try.f109.ntmps w0 NoB u0 N0 β0 σ147 ac w ∧ Ow w0 NoB u0 N0 F115 ([J3]) (((cap1 b24 q1 : LP THost).1, q114) : LP THost) := ⟨_, _, _, S.z, o116⟩
  refine wp_region_cut (fun ac w => ∃  u N β, St Try.prog Try.f109.ntmps w0 NoB u N β (σ147.dl [1, 2, 3, 4, 15, 18, 20, 21, 22, 105] [(13, .v (I (f_findEntry J3.iobuf (f_tagOf m g) page).1.host)), (14, .v (B true))] 2 [(1, [slv J3.mem.length (q114 0).mem.1, slv J3.mons.length (q114 0).mons.1, slv J3.buf.length (q114 0).buf.1, slv J3.iobuf.length (q114 0).iobuf.1])]) ac w ∧ Ow w0 NoB u N F115 ([J3]) (((cap1 b24 q1 : LP THost).1, q114) : LP THost)) ?_ ?_
  ·refine S.draw0 (f := 6) 3 (by kernel_rfl) (by kernel_rfl) fun w S => ?_
   refine S.hq 0 [0] [] [(106, .v (GT.val J3 (q114 0)))] (.cons (Q_el o116.rn (t := 35) (k := 0) (Nat.succ_pos 0) rfl (by kernel_rfl) (by kernel_rfl)) .nil) fun ac S => ?_
   refine WD.nameW fun W hW => ?_
   refine WD.castW (l' := mkL 6 [0]) (by kernel_rfl) ?_
   have hK148 ac w u N β (S : St Try.prog Try.f109.ntmps w0 NoB u N β (σ147.dl [1, 2, 3, 4, 15, 18, 20, 21, 22, 105] [(13, .v (I (f_findEntry J3.iobuf (f_tagOf m g) page).1.host)), (14, .v (B true))] 3 [(1, [slv J3.mem.length (q114 0).mem.1, slv J3.mons.length (q114 0).mons.1, slv J3.buf.length (q114 0).buf.1, slv J3.iobuf.length (q114 0).iobuf.1])]) ac w) (o116 : Ow w0 NoB u N F115 ([J3]) (((cap1 b24 q1 : LP THost).1, q114) : LP THost)) : W 0 (mkL 6 [0, 1, 2, 3, 4, 5]) ac w := by
    exact od hW ⟨rfl, _, _, _, S.z, o116⟩
   have hK149 ac w u N β (S : St Try.prog Try.f109.ntmps w0 NoB u N β (σ147.dl [1, 2, 3, 4, 15, 18, 20, 21, 22, 105] [(106, .v (GT.val J3 (q114 0))), (108, .v (I (f_findEntry J3.iobuf (f_tagOf m g) page).1.host))] 3 []) ac w) (o116 : Ow w0 NoB u N F115 ([J3]) (((cap1 b24 q1 : LP THost).1, q114) : LP THost)) (hNN : NN N0 u0 N u) (hBB : BB σ147.bx.length β0 β) : W 3 (mkL 6 [0, 1, 2]) ac w := by
    exact ox1 hW 3 (S.wl hW [4, 5] .nil fun _ _ _ S => hK148 _ _ _ _ _ S o116)
   have hK150 ac w u N β (S : St Try.prog Try.f109.ntmps w0 NoB u N β (σ147.dl [1, 2, 3, 4, 15, 18, 20, 21, 22, 105] [(107, .p 2 2)] 3 [(1, [slv J3.mem.length (q114 0).mem.1, slv J3.mons.length (q114 0).mons.1, slv J3.buf.length (q114 0).buf.1, slv J3.iobuf.length (q114 0).iobuf.1])]) ac w) (o116 : Ow w0 NoB u N F115 ([J3]) (((cap1 b24 q1 : LP THost).1, q114) : LP THost)) : W 3 (mkL 6 [0, 1, 3]) ac w := by
    exact ox1 hW 2 (S.wl hW [4, 5] .nil fun _ _ _ S => hK148 _ _ _ _ _ S o116)
   have hK151 ac w u N β (S : St Try.prog Try.f109.ntmps w0 NoB u N β (σ147.dl [1, 2, 3, 4, 15, 18, 20, 21, 22, 105] [(106, .v (GT.val J3 (q114 0))), (107, .p 2 2)] 3 []) ac w) (o116 : Ow w0 NoB u N F115 ([J3]) (((cap1 b24 q1 : LP THost).1, q114) : LP THost)) (hNN : NN N0 u0 N u) (hBB : BB σ147.bx.length β0 β) : W 4 (mkL 6 [0, 1]) ac w := by
    exact ox2 hW 2 3 (S.wq hW hNN hBB [] .nil fun _ _ _ S hB => hK149 _ _ _ _ _ S o116 hNN hB) (S.wl hW [] .nil fun _ _ _ S => hK150 _ _ _ _ _ S o116)
   rw [hW]
   exact S.wh hW [1] (fun _ => S.rcx) fun _ S => hK151 _ _ _ _ _ S o116 (fun _ h => ⟨h, rfl⟩) (fun _ _ => rfl)
  clear S o116
  rintro ac w ⟨u, N, β, S, o116⟩
  refine S.ex fun S => ?_
  refine S.gr 2 .nil [GT.val J3 (q114 0), I (f_findEntry J3.iobuf (f_tagOf m g) page).1.host, B true] fun ac w β S => ?_
  obtain ⟨F152, o153, s154, _⟩ := foc2_id o116 (k := 0) (Nat.succ_pos 0)
  change Ow w0 NoB _ _ F152 J3 (q114 0) at o153
  exact ret3_of (p' := ()) (p'' := ()) S (show (f_lookup h m g page need true).1 = J3 from k0_impl_lookup) (show (f_lookup h m g page need true).2.1 = (f_findEntry J3.iobuf (f_tagOf m g) page).1.host from k0_impl_lookup) (show (f_lookup h m g page need true).2.2 = true from k0_impl_lookup) rfl rfl rfl o153 (REntry.host (d := (f_findEntry J3.iobuf (f_tagOf m g) page).1) i141) trivial
 have i155 : RSlot (f_ask (el (el J3.mons m.toNat).tables g.toNat) page).1 := (ask_r (LRd.el (RMon.tables (d := (el J3.mons m.toNat)) (LRd.el (capx_mons o116.rn) m.toNat (by omega))) g.toNat (by omega)) page)
 refine S.go 26 (.cons (Q_cell o116.rn (t := 32) (k := 0) (j := 1) (v := slv J3.mons.length (q114 0).mons.1) (Nat.succ_pos 0) (by kernel_rfl) (by kernel_rfl)) (.cons (qt (capx_mons o116.rn) m Try.underlying32) (.cons (qc (capx_mons o116.rn) 40 m.toNat 7 (slv (el J3.mons m.toNat).tables.length ((q114 0).mons.2 m.toNat).tables.1)) (.cons (qt (RMon.tables (d := (el J3.mons m.toNat)) (LRd.el (capx_mons o116.rn) m.toNat (by omega))) g Try.underlying40) (.cons (qs (RMon.tables (d := (el J3.mons m.toNat)) (LRd.el (capx_mons o116.rn) m.toNat (by omega))) 45 g.toNat) (.cons (Q_call fun w hw => c_impl_Ask w (el (el J3.mons m.toNat).tables g.toNat) (((q114 0).mons.2 m.toNat).tables.2 g.toNat) (rd_of (LRd.el (RMon.tables (d := (el J3.mons m.toNat)) (LRd.el (capx_mons o116.rn) m.toNat (by omega))) g.toNat (by omega)) hw) page) .nil)))))) fun ac w β S => ?_
 refine S.cq ⟨[(1, .v (I m)), (2, .v (I g)), (3, .v (I page)), (4, .v (I need)), (12, .p 1 0), (15, .v (pt ((cap1 b24 q1 : LP THost).1).b (((cap1 b24 q1 : LP THost).1).off + 0 * 4))), (18, .v (I (f_walkInner (el (f_monAt h m).1.guests g.toNat).live page need).1)), (20, .v (pt ((cap1 b24 q1 : LP THost).1).b (((cap1 b24 q1 : LP THost).1).off + 0 * 4 + 3))), (21, .v (I (f_tagOf m g))), (24, .p 3 0), (136, .v (B (((!(f_ask (el (el J3.mons m.toNat).tables g.toNat) page).2) || ((f_ask (el (el J3.mons m.toNat).tables g.toNat) page).1.page == (-1))) || (!(f_enough (f_ask (el (el J3.mons m.toNat).tables g.toNat) page).1.rights need)))))], [GT.cells h ph, Zc THost, GT.cells (f_findEntry J3.iobuf (f_tagOf m g) page).1 (), GT.cells (f_ask (el (el J3.mons m.toNat).tables g.toNat) page).1 ()]⟩ ?_ ?_
 ·clear S; intro S
  refine S.gb 4 .nil (!(f_ask (el (el J3.mons m.toNat).tables g.toNat) page).2) (fun ac w β h156 S => ?_) (fun ac w β h156 S => ?_)
  ·have h157 := not_t h156
   exact S.gn 12 .nil fun ac w β S => ⟨rfl, _, by rw [h156]; exact S.z⟩
  have h158 := not_f h156
  refine S.gd 5 .nil ((f_ask (el (el J3.mons m.toNat).tables g.toNat) page).1.page == (-1)) (fun ac w β h159 g160 S => ?_) (fun ac w β h159 g160 S => ?_)
  ·exact S.gn 7 .nil fun ac w β S => ⟨rfl, _, by rw [h156, h159]; exact S.z⟩
  exact S.gn 7 (.cons (Q_call fun w hw => c_impl_Enough w (f_ask (el (el J3.mons m.toNat).tables g.toNat) page).1.rights need) .nil) fun ac w β S => ⟨rfl, _, by rw [h156, h159]; exact S.z⟩
 clear S; intro ac w β S
 refine S.gb 1 .nil (((!(f_ask (el (el J3.mons m.toNat).tables g.toNat) page).2) || ((f_ask (el (el J3.mons m.toNat).tables g.toNat) page).1.page == (-1))) || (!(f_enough (f_ask (el (el J3.mons m.toNat).tables g.toNat) page).1.rights need))) (fun ac w β h161 S => ?_) (fun ac w β h161 S => ?_)
 ·refine S.go 6 .nil fun ac w β S => S.KC (d := 140) o116 (c_impl_mend w J3 (((cap1 b24 q1 : LP THost).1, q114) : LP THost) F115 (S.ownw o116) (fun b hb => (S.sep b (o116.sub b hb)).1) m (f_walkInner (el (f_monAt h m).1.guests g.toNat).live page need).1 need (by exact (dirtIf_bd hJ3 (walkI (by assumption)).1).1)) fun ac w N p162 F163 S up o164 d166 hq165 => ?_
  change (p162 0).mons.1 = (q114 0).mons.1 at hq165
  clear up d166 o116
  obtain ⟨Y167, hY168⟩ : ∃ z, z = (f_mend J3 m (f_walkInner (el (f_monAt h m).1.guests g.toNat).live page need).1 need) := ⟨_, rfl⟩
  have o169 : Ow w0 NoB w N F163 [Y167] ((((cap1 b24 q1 : LP THost).1), p162) : LP THost) := by rw [hY168]; exact o164
  clear o164
  have l170 := mend_bd2 hY168 (dirtIf_bd hJ3 (walkI (by assumption)).1).1
  try dsimp only at l170
  refine S.go 12 (.cons (Q_cell o169.rn (t := 32) (k := 0) (j := 1) (v := slv Y167.mons.length (p162 0).mons.1) (Nat.succ_pos 0) (by kernel_rfl) (by kernel_rfl)) (.cons (qt (capx_mons o169.rn) m Try.underlying32) .nil)) fun ac w β S => ?_
  refine drw ?_
  refine S.draw0 (f := 28) 27 (by kernel_rfl) (by kernel_rfl) fun w S => ?_
  refine S.hq 0 [0] [] [(145, .v (pt (p162 0).mons.1.b ((p162 0).mons.1.off + m.toNat * 9)))] .nil fun ac S => ?_
  refine S.hq 1 [1] [] [(146, .v (pt (p162 0).mons.1.b ((p162 0).mons.1.off + m.toNat * 9)))] .nil fun ac S => ?_
  refine S.hq 2 [2] [] [(147, .v (pt (p162 0).mons.1.b ((p162 0).mons.1.off + m.toNat * 9 + 7)))] .nil fun ac S => ?_
  refine S.hq 3 [3] [] [(148, .v (slv (el Y167.mons m.toNat).tables.length ((p162 0).mons.2 m.toNat).tables.1))] (.cons (qc (capx_mons o169.rn) 40 m.toNat 7 (slv (el Y167.mons m.toNat).tables.length ((p162 0).mons.2 m.toNat).tables.1)) .nil) fun ac S => ?_
  refine S.hq 4 [4] [] [(149, .v (I g))] .nil fun ac S => ?_
  refine S.hq 5 [5] [] [(150, .v (pt (p162 0).mons.1.b ((p162 0).mons.1.off + m.toNat * 9)))] .nil fun ac S => ?_
  refine S.hq 6 [6] [] [(151, .v (pt (p162 0).mons.1.b ((p162 0).mons.1.off + m.toNat * 9)))] .nil fun ac S => ?_
  refine S.hq 7 [7] [] [(152, .v (pt (p162 0).mons.1.b ((p162 0).mons.1.off + m.toNat * 9 + 7)))] .nil fun ac S => ?_
  refine S.hq 8 [8] [] [(153, .v (slv (el Y167.mons m.toNat).tables.length ((p162 0).mons.2 m.toNat).tables.1))] (.cons (qc (capx_mons o169.rn) 40 m.toNat 7 (slv (el Y167.mons m.toNat).tables.length ((p162 0).mons.2 m.toNat).tables.1)) .nil) fun ac S => ?_
  refine S.hq 9 [9] [] [(154, .v (I g))] .nil fun ac S => ?_
  refine S.hq 10 [10] [] [(155, .v (pt ((p162 0).mons.2 m.toNat).tables.1.b (((p162 0).mons.2 m.toNat).tables.1.off + g.toNat * 2)))] (.cons (qt (RMon.tables (d := (el Y167.mons m.toNat)) (LRd.el (capx_mons o169.rn) m.toNat (by omega))) g Try.underlying40) .nil) fun ac S => ?_
  refine S.hq 11 [11] [] [(156, .v (GT.val (el (el Y167.mons m.toNat).tables g.toNat) (((p162 0).mons.2 m.toNat).tables.2 g.toNat)))] (.cons (qs (RMon.tables (d := (el Y167.mons m.toNat)) (LRd.el (capx_mons o169.rn) m.toNat (by omega))) 45 g.toNat) .nil) fun ac S => ?_
  refine S.hq 12 [12] [] [(157, .v (pt (p162 0).mons.1.b ((p162 0).mons.1.off + m.toNat * 9)))] .nil fun ac S => ?_
  refine S.hq 13 [13] [] [(158, .v (pt (p162 0).mons.1.b ((p162 0).mons.1.off + m.toNat * 9)))] .nil fun ac S => ?_
  refine S.hq 14 [14] [] [(159, .v (pt (p162 0).mons.1.b ((p162 0).mons.1.off + m.toNat * 9 + 3)))] .nil fun ac S => ?_
  refine S.hq 15 [15] [] [(160, .v (slv (el Y167.mons m.toNat).guests.length ((p162 0).mons.2 m.toNat).guests.1))] (.cons (qc (capx_mons o169.rn) 39 m.toNat 3 (slv (el Y167.mons m.toNat).guests.length ((p162 0).mons.2 m.toNat).guests.1)) .nil) fun ac S => ?_
  refine S.hq 16 [16] [] [(161, .v (I g))] .nil fun ac S => ?_
  refine S.hq 17 [17] [] [(162, .v (pt ((p162 0).mons.2 m.toNat).guests.1.b (((p162 0).mons.2 m.toNat).guests.1.off + g.toNat * 15)))] (.cons (qt (RMon.guests (d := (el Y167.mons m.toNat)) (LRd.el (capx_mons o169.rn) m.toNat (by omega))) g Try.underlying39) .nil) fun ac S => ?_
  refine S.hq 18 [18] [] [(163, .v (pt ((p162 0).mons.2 m.toNat).guests.1.b (((p162 0).mons.2 m.toNat).guests.1.off + g.toNat * 15 + 4)))] .nil fun ac S => ?_
  refine S.hq 19 [19] [] [(164, .v (slv (el (el Y167.mons m.toNat).guests g.toNat).live.length (((p162 0).mons.2 m.toNat).guests.2 g.toNat).live.1))] (.cons (qc (RMon.guests (d := (el Y167.mons m.toNat)) (LRd.el (capx_mons o169.rn) m.toNat (by omega))) 37 g.toNat 4 (slv (el (el Y167.mons m.toNat).guests g.toNat).live.length (((p162 0).mons.2 m.toNat).guests.2 g.toNat).live.1)) .nil) fun ac S => ?_
  refine S.hq 20 [20] [] [(165, .v (pt (p162 0).mons.1.b ((p162 0).mons.1.off + m.toNat * 9)))] .nil fun ac S => ?_
  refine S.hq 21 [21] [] [(166, .v (pt (p162 0).mons.1.b ((p162 0).mons.1.off + m.toNat * 9)))] .nil fun ac S => ?_
  refine S.hq 22 [22] [] [(167, .v (pt (p162 0).mons.1.b ((p162 0).mons.1.off + m.toNat * 9)))] .nil fun ac S => ?_
  refine S.hq 23 [23] [] [(168, .v (slv (el Y167.mons m.toNat).outer.length ((p162 0).mons.2 m.toNat).outer.1))] (.cons (qc (capx_mons o169.rn) 37 m.toNat 0 (slv (el Y167.mons m.toNat).outer.length ((p162 0).mons.2 m.toNat).outer.1)) .nil) fun ac S => ?_
  refine S.hq 24 [24] [] [(169, .v (I page))] .nil fun ac S => ?_
  refine WD.one (i := 25) (by kernel_rfl) ?_
  refine id (S.k1 170 (c_impl_Fill w (el (el Y167.mons m.toNat).tables g.toNat) (((p162 0).mons.2 m.toNat).tables.2 g.toNat) (S.rd (LRd.el (RMon.tables (d := (el Y167.mons m.toNat)) (LRd.el (capx_mons o169.rn) m.toNat (by omega))) g.toNat (by omega))) (el (el Y167.mons m.toNat).guests g.toNat).live (((p162 0).mons.2 m.toNat).guests.2 g.toNat).live (S.rd (RGuest.live (d := (el (el Y167.mons m.toNat).guests g.toNat)) (LRd.el (RMon.guests (d := (el Y167.mons m.toNat)) (LRd.el (capx_mons o169.rn) m.toNat (by omega))) g.toNat (by omega)))) (el Y167.mons m.toNat).outer ((p162 0).mons.2 m.toNat).outer (S.rd (RMon.outer (d := (el Y167.mons m.toNat)) (LRd.el (capx_mons o169.rn) m.toNat (by omega)))) page) fun ac w N q171 F172 S up o173 d174 => ?_)
  refine WD.next S up (by kernel_rfl) ?_
  have d175 := Disj.w d174 o169.sub
  replace o169 := o169.up up
  clear up d174
  obtain ⟨F176, F179, o177, o180, s178, s181, d182⟩ := sp_Kept o173
  refine S.hq 26 [26] [] [(170, .v (GT.val (f_fill (el (el Y167.mons m.toNat).tables g.toNat) (el (el Y167.mons m.toNat).guests g.toNat).live (el Y167.mons m.toNat).outer page) q171)), (171, .v (pt ((p162 0).mons.2 m.toNat).tables.1.b (((p162 0).mons.2 m.toNat).tables.1.off + g.toNat * 2)))] (.cons (qt (RMon.tables (d := (el Y167.mons m.toNat)) (LRd.el (capx_mons o169.rn) m.toNat (by omega))) g Try.underlying40) .nil) fun ac S => ?_
  refine WD.one (i := 27) (by kernel_rfl) ?_
  obtain ⟨F183, o184, s185, b186⟩ := foc_cap o169 (fun _ o => foc2_Mon_tables o (k := m.toNat) (show m.toNat < Y167.mons.length by omega))
  change Ow w0 NoB _ _ F183 (el Y167.mons m.toNat).tables ((p162 0).mons.2 m.toNat).tables at o184
  have l187 := LRd.le o184.rn
  have n188 := o184.sub
  have o193 := ow_Kept (x := (f_fill (el (el Y167.mons m.toNat).tables g.toNat) (el (el Y167.mons m.toNat).guests g.toNat).live (el Y167.mons m.toNat).outer page)) (p := q171) o177 o180 d182 
  refine id (S.sV (α := TKept) o184 (t := 45) (k := g.toNat) (off := ((p162 0).mons.2 m.toNat).tables.1.off + g.toNat * 2) o193 (Disj.symm (Disj.or (Disj.symm (Disj.part (Disj.symm (Disj.part (Disj.symm d175) s178)) s185)) (Disj.or (Disj.symm (Disj.part (Disj.symm (Disj.part (Disj.symm d175) s181)) s185)) Disj.nob))) fun w N F190 q191 S up o189 d192 s194 n195 => ?_)
  refine WD.last (by kernel_rfl) ?_
  clear d192 o184
  obtain ⟨p196, o197, hq199⟩ := b186 _ _ _ _ _ (uniB [F176, F179]) up o189 s194 (Disj.symm (Disj.or (Disj.part (Disj.symm d175) s178) (Disj.or (Disj.part (Disj.symm d175) s181) Disj.nob))) List.length_set n195
  obtain ⟨X201, hX202⟩ : ∃ z, z = Y167.mons.set m.toNat { el Y167.mons m.toNat with tables := ((el Y167.mons m.toNat).tables.set g.toNat (f_fill (el (el Y167.mons m.toNat).tables g.toNat) (el (el Y167.mons m.toNat).guests g.toNat).live (el Y167.mons m.toNat).outer page)) } := ⟨_, rfl⟩
  have o200 : Ow w0 NoB w N (Or F163 F190) [(⟨Y167.mem, X201, Y167.buf, Y167.iobuf⟩ : THost)] (((((cap1 b24 q1 : LP THost).1)), p196) : LP THost) := by rw [hX202]; exact o197
  obtain ⟨l203, e204⟩ := setm_tables hX202 (show m.toNat < Y167.mons.length by omega) List.length_set
  change (p196 0).mons.1 = (p162 0).mons.1 at hq199
  clear up o189 n195 o197
  refine WD.done (by kernel_rfl) ?_ _
  refine S.ex fun S => ?_
  have i205 : RSlot (f_ask (el (el X201 m.toNat).tables g.toNat) page).1 := (ask_r (LRd.el (RMon.tables (d := (el X201 m.toNat)) (LRd.el (rd_hdr hq199 (cap_mons o200.rn)) m.toNat (by omega))) g.toNat (by omega)) page)
  refine S.go 18 (.cons (qc (rd_hdr hq199 (cap_mons o200.rn)) 40 m.toNat 7 (slv (el X201 m.toNat).tables.length (((p196 0).mons.2) m.toNat).tables.1)) (.cons (qt (RMon.tables (d := (el X201 m.toNat)) (LRd.el (rd_hdr hq199 (cap_mons o200.rn)) m.toNat (by omega))) g Try.underlying40) (.cons (qs (RMon.tables (d := (el X201 m.toNat)) (LRd.el (rd_hdr hq199 (cap_mons o200.rn)) m.toNat (by omega))) 45 g.toNat) (.cons (Q_call fun w hw => c_impl_Ask w (el (el X201 m.toNat).tables g.toNat) ((((p196 0).mons.2) m.toNat).tables.2 g.toNat) (rd_of (LRd.el (RMon.tables (d := (el X201 m.toNat)) (LRd.el (rd_hdr hq199 (cap_mons o200.rn)) m.toNat (by omega))) g.toNat (by omega)) hw) page) .nil)))) fun ac w β S => ?_
  refine drw ?_
  refine S.draw0 (f := 14) 13 (by kernel_rfl) (by kernel_rfl) fun w S => ?_
  refine S.hq 0 [0] [] [(184, .v (pt ((((cap1 b24 q1 : LP THost).1))).b (((((cap1 b24 q1 : LP THost).1))).off + 0 * 4 + 3)))] .nil fun ac S => ?_
  refine S.hq 1 [1] [] [(185, .v (pt ((((cap1 b24 q1 : LP THost).1))).b (((((cap1 b24 q1 : LP THost).1))).off + 0 * 4 + 3)))] .nil fun ac S => ?_
  refine S.hq 2 [2] [] [(186, .v (pt ((((cap1 b24 q1 : LP THost).1))).b (((((cap1 b24 q1 : LP THost).1))).off + 0 * 4 + 3)))] .nil fun ac S => ?_
  refine S.hq 3 [3] [] [(187, .v (slv Y167.iobuf.length (p196 0).iobuf.1))] (.cons (Q_cell o200.rn (t := 33) (k := 0) (j := 3) (v := slv Y167.iobuf.length (p196 0).iobuf.1) (Nat.succ_pos 0) (by kernel_rfl) (by kernel_rfl)) .nil) fun ac S => ?_
  refine S.hq 4 [4] [] [(188, .v (I (f_tagOf m g)))] .nil fun ac S => ?_
  refine S.hq 5 [5] [] [(189, .v (I page))] .nil fun ac S => ?_
  refine S.hq 6 [6] [] [(190, .p 3 0)] .nil fun ac S => ?_
  refine S.hq 7 [7] [] [(191, .v (I (f_ask (el (el X201 m.toNat).tables g.toNat) page).1.page))] .nil fun ac S => ?_
  refine S.hq 8 [8] [] [(192, .p 3 1)] .nil fun ac S => ?_
  refine S.hq 9 [9] [] [(193, .v (I (f_ask (el (el X201 m.toNat).tables g.toNat) page).1.rights))] .nil fun ac S => ?_
  refine S.hq 10 [10] [] [(194, .v (GT.val (⟨(f_tagOf m g), page, (f_ask (el (el X201 m.toNat).tables g.toNat) page).1.page, (f_ask (el (el X201 m.toNat).tables g.toNat) page).1.rights⟩ : TEntry) ()))] (.cons (Q_sem (s := Instr.build 119 [(0, I (f_tagOf m g)), (1, I page), (2, I (f_ask (el (el X201 m.toNat).tables g.toNat) page).1.page), (3, I (f_ask (el (el X201 m.toNat).tables g.toNat) page).1.rights)].toArray) (v := .agg [I (f_tagOf m g), I page, I (f_ask (el (el X201 m.toNat).tables g.toNat) page).1.page, I (f_ask (el (el X201 m.toNat).tables g.toNat) page).1.rights].toArray) (fun w => by kernel_rfl)) .nil) fun ac S => ?_
  refine WD.one (i := 11) (by kernel_rfl) ?_
  refine id (S.k1 195 (c_impl_PutEntry w Y167.iobuf (p196 0).iobuf (S.rd (cap_iobuf o200.rn)) (⟨(f_tagOf m g), page, (f_ask (el (el X201 m.toNat).tables g.toNat) page).1.page, (f_ask (el (el X201 m.toNat).tables g.toNat) page).1.rights⟩ : TEntry) (show REntry (⟨(f_tagOf m g), page, (f_ask (el (el X201 m.toNat).tables g.toNat) page).1.page, (f_ask (el (el X201 m.toNat).tables g.toNat) page).1.rights⟩ : TEntry) from ⟨(tagOf_in64 m g), hpage, (RSlot.page (d := (f_ask (el (el X201 m.toNat).tables g.toNat) page).1) i205), (RSlot.rights (d := (f_ask (el (el X201 m.toNat).tables g.toNat) page).1) i205)⟩) (by (first | omega | (dsimp only; omega)))) fun ac w N q206 F207 S up o208 d209 => ?_)
  refine WD.next S up (by kernel_rfl) ?_
  have d210 := Disj.w d209 o200.sub
  replace o200 := o200.up up
  clear up d209
  refine S.hq 12 [12] [] [(195, .v (slv (f_putEntry Y167.iobuf (⟨(f_tagOf m g), page, (f_ask (el (el X201 m.toNat).tables g.toNat) page).1.page, (f_ask (el (el X201 m.toNat).tables g.toNat) page).1.rights⟩ : TEntry)).length q206.1)), (196, .v (pt ((((cap1 b24 q1 : LP THost).1))).b (((((cap1 b24 q1 : LP THost).1))).off + 0 * 4 + 3)))] .nil fun ac S => ?_
  refine WD.one (i := 13) (by kernel_rfl) ?_
  refine id (S.setElE (α := THost) o200 (t := 33) (v := slv (f_putEntry Y167.iobuf (⟨(f_tagOf m g), page, (f_ask (el (el X201 m.toNat).tables g.toNat) page).1.page, (f_ask (el (el X201 m.toNat).tables g.toNat) page).1.rights⟩ : TEntry)).length q206.1) (k := 0) (j := 3) (off := ((((cap1 b24 q1 : LP THost).1))).off + 0 * 4 + 3) (y := (⟨Y167.mem, X201, Y167.buf, (f_putEntry Y167.iobuf (⟨(f_tagOf m g), page, (f_ask (el (el X201 m.toNat).tables g.toNat) page).1.page, (f_ask (el (el X201 m.toNat).tables g.toNat) page).1.rights⟩ : TEntry))⟩ : THost)) (q := ({ (p196 0) with iobuf := q206 } : PHost)) (Fy := F207) (by kernel_rfl) (by kernel_rfl) (Nat.succ_pos 0) (by kernel_rfl) (by kernel_rfl) (Nat.le_of_ble_eq_true (by kernel_rfl)) (by kernel_rfl) (fun G g_ gF => ⟨_, owl_Host_iobuf g_ o208.own (fun b h h2 => d210 b (gF b h) h2), fun _ h => h⟩) d210 o208.sub o208.young fun w N F212 S up o211 d214 s215 n216 => ?_)
  refine WD.last (by kernel_rfl) ?_
  obtain ⟨q213, o217, hq218⟩ : ∃ q213 : Nat → PHost, Ow w0 NoB _ _ F212 [(⟨Y167.mem, X201, Y167.buf, (f_putEntry Y167.iobuf (⟨(f_tagOf m g), page, (f_ask (el (el X201 m.toNat).tables g.toNat) page).1.page, (f_ask (el (el X201 m.toNat).tables g.toNat) page).1.rights⟩ : TEntry))⟩ : THost)] ((((((cap1 b24 q1 : LP THost).1))), q213) : LP THost) ∧ (q213 0).mons.1 = (p196 0).mons.1 := ⟨_, o211, rfl⟩
  clear up d214 o200 o211 s215 n216
  refine WD.done (by kernel_rfl) ?_ _
  refine S.ex fun S => ?_
  refine S.go 2 .nil fun ac w β S => ?_
  refine drw ?_
  let σ219 : Sy := ⟨[(12, .p 1 0), (15, .v (pt (((((cap1 b24 q1 : LP THost).1)))).b ((((((cap1 b24 q1 : LP THost).1)))).off + 0 * 4))), (24, .p 3 0)], [GT.cells h ph, Zc THost, GT.cells (f_findEntry J3.iobuf (f_tagOf m g) page).1 (), GT.cells (f_ask (el (el X201 m.toNat).tables g.toNat) page).1 ()]⟩
  obtain ⟨u0, N0, β0, S, o217⟩ : ∃ u0 N0 β0, St Try.prog Try.f109.ntmps w0 NoB u0 N0 β0 σ219 ac w ∧ Ow w0 NoB u0 N0 F212 ([(⟨Y167.mem, X201, Y167.buf, (f_putEntry Y167.iobuf (⟨(f_tagOf m g), page, (f_ask (el (el X201 m.toNat).tables g.toNat) page).1.page, (f_ask (el (el X201 m.toNat).tables g.toNat) page).1.rights⟩ : TEntry))⟩ : THost)]) ((((((cap1 b24 q1 : LP THost).1))), q213) : LP THost) := ⟨_, _, _, S.z, o217⟩
  refine wp_region_cut (fun ac w => ∃  u N β, St Try.prog Try.f109.ntmps w0 NoB u N β (σ219.dl [15, 24] [(13, .v (I (f_ask (el (el X201 m.toNat).tables g.toNat) page).1.page)), (14, .v (B true))] 2 [(1, [slv Y167.mem.length (q213 0).mem.1, slv X201.length (q213 0).mons.1, slv Y167.buf.length (q213 0).buf.1, slv (f_putEntry Y167.iobuf (⟨(f_tagOf m g), page, (f_ask (el (el X201 m.toNat).tables g.toNat) page).1.page, (f_ask (el (el X201 m.toNat).tables g.toNat) page).1.rights⟩ : TEntry)).length (q213 0).iobuf.1])]) ac w ∧ Ow w0 NoB u N F212 ([(⟨Y167.mem, X201, Y167.buf, (f_putEntry Y167.iobuf (⟨(f_tagOf m g), page, (f_ask (el (el X201 m.toNat).tables g.toNat) page).1.page, (f_ask (el (el X201 m.toNat).tables g.toNat) page).1.rights⟩ : TEntry))⟩ : THost)]) ((((((cap1 b24 q1 : LP THost).1))), q213) : LP THost)) ?_ ?_
  ·refine S.draw0 (f := 6) 3 (by kernel_rfl) (by kernel_rfl) fun w S => ?_
   refine S.hq 0 [0] [] [(197, .v (GT.val (⟨Y167.mem, X201, Y167.buf, (f_putEntry Y167.iobuf (⟨(f_tagOf m g), page, (f_ask (el (el X201 m.toNat).tables g.toNat) page).1.page, (f_ask (el (el X201 m.toNat).tables g.toNat) page).1.rights⟩ : TEntry))⟩ : THost) (q213 0)))] (.cons (Q_el o217.rn (t := 35) (k := 0) (Nat.succ_pos 0) rfl (by kernel_rfl) (by kernel_rfl)) .nil) fun ac S => ?_
   refine WD.nameW fun W hW => ?_
   refine WD.castW (l' := mkL 6 [0]) (by kernel_rfl) ?_
   have hK220 ac w u N β (S : St Try.prog Try.f109.ntmps w0 NoB u N β (σ219.dl [15, 24] [(13, .v (I (f_ask (el (el X201 m.toNat).tables g.toNat) page).1.page)), (14, .v (B true))] 4 [(1, [slv Y167.mem.length (q213 0).mem.1, slv X201.length (q213 0).mons.1, slv Y167.buf.length (q213 0).buf.1, slv (f_putEntry Y167.iobuf (⟨(f_tagOf m g), page, (f_ask (el (el X201 m.toNat).tables g.toNat) page).1.page, (f_ask (el (el X201 m.toNat).tables g.toNat) page).1.rights⟩ : TEntry)).length (q213 0).iobuf.1])]) ac w) (o217 : Ow w0 NoB u N F212 ([(⟨Y167.mem, X201, Y167.buf, (f_putEntry Y167.iobuf (⟨(f_tagOf m g), page, (f_ask (el (el X201 m.toNat).tables g.toNat) page).1.page, (f_ask (el (el X201 m.toNat).tables g.toNat) page).1.rights⟩ : TEntry))⟩ : THost)]) ((((((cap1 b24 q1 : LP THost).1))), q213) : LP THost)) : W 0 (mkL 6 [0, 1, 2, 3, 4, 5]) ac w := by
    exact od hW ⟨rfl, _, _, _, S.z, o217⟩
   have hK221 ac w u N β (S : St Try.prog Try.f109.ntmps w0 NoB u N β (σ219.dl [15, 24] [(197, .v (GT.val (⟨Y167.mem, X201, Y167.buf, (f_putEntry Y167.iobuf (⟨(f_tagOf m g), page, (f_ask (el (el X201 m.toNat).tables g.toNat) page).1.page, (f_ask (el (el X201 m.toNat).tables g.toNat) page).1.rights⟩ : TEntry))⟩ : THost) (q213 0))), (199, .v (I (f_ask (el (el X201 m.toNat).tables g.toNat) page).1.page))] 4 []) ac w) (o217 : Ow w0 NoB u N F212 ([(⟨Y167.mem, X201, Y167.buf, (f_putEntry Y167.iobuf (⟨(f_tagOf m g), page, (f_ask (el (el X201 m.toNat).tables g.toNat) page).1.page, (f_ask (el (el X201 m.toNat).tables g.toNat) page).1.rights⟩ : TEntry))⟩ : THost)]) ((((((cap1 b24 q1 : LP THost).1))), q213) : LP THost)) (hNN : NN N0 u0 N u) (hBB : BB σ219.bx.length β0 β) : W 3 (mkL 6 [0, 1, 2]) ac w := by
    exact ox1 hW 3 (S.wl hW [4, 5] .nil fun _ _ _ S => hK220 _ _ _ _ _ S o217)
   have hK222 ac w u N β (S : St Try.prog Try.f109.ntmps w0 NoB u N β (σ219.dl [15, 24] [(198, .p 3 0)] 4 [(1, [slv Y167.mem.length (q213 0).mem.1, slv X201.length (q213 0).mons.1, slv Y167.buf.length (q213 0).buf.1, slv (f_putEntry Y167.iobuf (⟨(f_tagOf m g), page, (f_ask (el (el X201 m.toNat).tables g.toNat) page).1.page, (f_ask (el (el X201 m.toNat).tables g.toNat) page).1.rights⟩ : TEntry)).length (q213 0).iobuf.1])]) ac w) (o217 : Ow w0 NoB u N F212 ([(⟨Y167.mem, X201, Y167.buf, (f_putEntry Y167.iobuf (⟨(f_tagOf m g), page, (f_ask (el (el X201 m.toNat).tables g.toNat) page).1.page, (f_ask (el (el X201 m.toNat).tables g.toNat) page).1.rights⟩ : TEntry))⟩ : THost)]) ((((((cap1 b24 q1 : LP THost).1))), q213) : LP THost)) : W 3 (mkL 6 [0, 1, 3]) ac w := by
    exact ox1 hW 2 (S.wl hW [4, 5] .nil fun _ _ _ S => hK220 _ _ _ _ _ S o217)
   have hK223 ac w u N β (S : St Try.prog Try.f109.ntmps w0 NoB u N β (σ219.dl [15, 24] [(197, .v (GT.val (⟨Y167.mem, X201, Y167.buf, (f_putEntry Y167.iobuf (⟨(f_tagOf m g), page, (f_ask (el (el X201 m.toNat).tables g.toNat) page).1.page, (f_ask (el (el X201 m.toNat).tables g.toNat) page).1.rights⟩ : TEntry))⟩ : THost) (q213 0))), (198, .p 3 0)] 4 []) ac w) (o217 : Ow w0 NoB u N F212 ([(⟨Y167.mem, X201, Y167.buf, (f_putEntry Y167.iobuf (⟨(f_tagOf m g), page, (f_ask (el (el X201 m.toNat).tables g.toNat) page).1.page, (f_ask (el (el X201 m.toNat).tables g.toNat) page).1.rights⟩ : TEntry))⟩ : THost)]) ((((((cap1 b24 q1 : LP THost).1))), q213) : LP THost)) (hNN : NN N0 u0 N u) (hBB : BB σ219.bx.length β0 β) : W 4 (mkL 6 [0, 1]) ac w := by
    exact ox2 hW 2 3 (S.wq hW hNN hBB [] .nil fun _ _ _ S hB => hK221 _ _ _ _ _ S o217 hNN hB) (S.wl hW [] .nil fun _ _ _ S => hK222 _ _ _ _ _ S o217)
   rw [hW]
   exact S.wh hW [1] (fun _ => S.rcx) fun _ S => hK223 _ _ _ _ _ S o217 (fun _ h => ⟨h, rfl⟩) (fun _ _ => rfl)
  clear S o217
  rintro ac w ⟨u, N, β, S, o217⟩
  refine S.ex fun S => ?_
  refine S.gr 2 .nil [GT.val (⟨Y167.mem, X201, Y167.buf, (f_putEntry Y167.iobuf (⟨(f_tagOf m g), page, (f_ask (el (el X201 m.toNat).tables g.toNat) page).1.page, (f_ask (el (el X201 m.toNat).tables g.toNat) page).1.rights⟩ : TEntry))⟩ : THost) (q213 0), I (f_ask (el (el X201 m.toNat).tables g.toNat) page).1.page, B true] fun ac w β S => ?_
  obtain ⟨F224, o225, s226, _⟩ := foc2_id o217 (k := 0) (Nat.succ_pos 0)
  change Ow w0 NoB _ _ F224 (⟨Y167.mem, X201, Y167.buf, (f_putEntry Y167.iobuf (⟨(f_tagOf m g), page, (f_ask (el (el X201 m.toNat).tables g.toNat) page).1.page, (f_ask (el (el X201 m.toNat).tables g.toNat) page).1.rights⟩ : TEntry))⟩ : THost) (q213 0) at o225
  exact ret3_of (p' := ()) (p'' := ()) S (show (f_lookup h m g page need true).1 = (⟨Y167.mem, X201, Y167.buf, (f_putEntry Y167.iobuf (⟨(f_tagOf m g), page, (f_ask (el (el X201 m.toNat).tables g.toNat) page).1.page, (f_ask (el (el X201 m.toNat).tables g.toNat) page).1.rights⟩ : TEntry))⟩ : THost) from k0_impl_lookup) (show (f_lookup h m g page need true).2.1 = (f_ask (el (el X201 m.toNat).tables g.toNat) page).1.page from k0_impl_lookup) (show (f_lookup h m g page need true).2.2 = true from k0_impl_lookup) rfl rfl rfl o225 (RSlot.page (d := (f_ask (el (el X201 m.toNat).tables g.toNat) page).1) i205) trivial
 obtain ⟨h227, h228⟩ := or_f h161
 obtain ⟨h229, h230⟩ := or_f h227
 have h231 := not_f h229
 have g232 : ¬ ((f_ask (el (el J3.mons m.toNat).tables g.toNat) page).1.page = (-1)) := ne_of_beq_false h230
 have h233 := not_f h228
 have g234 := enough_t h233
 refine S.go 4 .nil fun ac w β S => ?_
 refine drw ?_
 refine S.draw0 (f := 14) 13 (by kernel_rfl) (by kernel_rfl) fun w S => ?_
 refine S.hq 0 [0] [] [(184, .v (pt ((cap1 b24 q1 : LP THost).1).b (((cap1 b24 q1 : LP THost).1).off + 0 * 4 + 3)))] .nil fun ac S => ?_
 refine S.hq 1 [1] [] [(185, .v (pt ((cap1 b24 q1 : LP THost).1).b (((cap1 b24 q1 : LP THost).1).off + 0 * 4 + 3)))] .nil fun ac S => ?_
 refine S.hq 2 [2] [] [(186, .v (pt ((cap1 b24 q1 : LP THost).1).b (((cap1 b24 q1 : LP THost).1).off + 0 * 4 + 3)))] .nil fun ac S => ?_
 refine S.hq 3 [3] [] [(187, .v (slv J3.iobuf.length (q114 0).iobuf.1))] (.cons (Q_cell o116.rn (t := 33) (k := 0) (j := 3) (v := slv J3.iobuf.length (q114 0).iobuf.1) (Nat.succ_pos 0) (by kernel_rfl) (by kernel_rfl)) .nil) fun ac S => ?_
 refine S.hq 4 [4] [] [(188, .v (I (f_tagOf m g)))] .nil fun ac S => ?_
 refine S.hq 5 [5] [] [(189, .v (I page))] .nil fun ac S => ?_
 refine S.hq 6 [6] [] [(190, .p 3 0)] .nil fun ac S => ?_
 refine S.hq 7 [7] [] [(191, .v (I (f_ask (el (el J3.mons m.toNat).tables g.toNat) page).1.page))] .nil fun ac S => ?_
 refine S.hq 8 [8] [] [(192, .p 3 1)] .nil fun ac S => ?_
 refine S.hq 9 [9] [] [(193, .v (I (f_ask (el (el J3.mons m.toNat).tables g.toNat) page).1.rights))] .nil fun ac S => ?_
 refine S.hq 10 [10] [] [(194, .v (GT.val (⟨(f_tagOf m g), page, (f_ask (el (el J3.mons m.toNat).tables g.toNat) page).1.page, (f_ask (el (el J3.mons m.toNat).tables g.toNat) page).1.rights⟩ : TEntry) ()))] (.cons (Q_sem (s := Instr.build 119 [(0, I (f_tagOf m g)), (1, I page), (2, I (f_ask (el (el J3.mons m.toNat).tables g.toNat) page).1.page), (3, I (f_ask (el (el J3.mons m.toNat).tables g.toNat) page).1.rights)].toArray) (v := .agg [I (f_tagOf m g), I page, I (f_ask (el (el J3.mons m.toNat).tables g.toNat) page).1.page, I (f_ask (el (el J3.mons m.toNat).tables g.toNat) page).1.rights].toArray) (fun w => by kernel_rfl)) .nil) fun ac S => ?_
 refine WD.one (i := 11) (by kernel_rfl) ?_
 refine id (S.k1 195 (c_impl_PutEntry w J3.iobuf (q114 0).iobuf (S.rd (capx_iobuf o116.rn)) (⟨(f_tagOf m g), page, (f_ask (el (el J3.mons m.toNat).tables g.toNat) page).1.page, (f_ask (el (el J3.mons m.toNat).tables g.toNat) page).1.rights⟩ : TEntry) (show REntry (⟨(f_tagOf m g), page, (f_ask (el (el J3.mons m.toNat).tables g.toNat) page).1.page, (f_ask (el (el J3.mons m.toNat).tables g.toNat) page).1.rights⟩ : TEntry) from ⟨(tagOf_in64 m g), hpage, (RSlot.page (d := (f_ask (el (el J3.mons m.toNat).tables g.toNat) page).1) i155), (RSlot.rights (d := (f_ask (el (el J3.mons m.toNat).tables g.toNat) page).1) i155)⟩) (by (first | omega | (dsimp only; omega)))) fun ac w N q235 F236 S up o237 d238 => ?_)
 refine WD.next S up (by kernel_rfl) ?_
 have d239 := Disj.w d238 o116.sub
 replace o116 := o116.up up
 clear up d238
 refine S.hq 12 [12] [] [(195, .v (slv (f_putEntry J3.iobuf (⟨(f_tagOf m g), page, (f_ask (el (el J3.mons m.toNat).tables g.toNat) page).1.page, (f_ask (el (el J3.mons m.toNat).tables g.toNat) page).1.rights⟩ : TEntry)).length q235.1)), (196, .v (pt ((cap1 b24 q1 : LP THost).1).b (((cap1 b24 q1 : LP THost).1).off + 0 * 4 + 3)))] .nil fun ac S => ?_
 refine WD.one (i := 13) (by kernel_rfl) ?_
 refine id (S.setElE (α := THost) o116 (t := 33) (v := slv (f_putEntry J3.iobuf (⟨(f_tagOf m g), page, (f_ask (el (el J3.mons m.toNat).tables g.toNat) page).1.page, (f_ask (el (el J3.mons m.toNat).tables g.toNat) page).1.rights⟩ : TEntry)).length q235.1) (k := 0) (j := 3) (off := ((cap1 b24 q1 : LP THost).1).off + 0 * 4 + 3) (y := (⟨J3.mem, J3.mons, J3.buf, (f_putEntry J3.iobuf (⟨(f_tagOf m g), page, (f_ask (el (el J3.mons m.toNat).tables g.toNat) page).1.page, (f_ask (el (el J3.mons m.toNat).tables g.toNat) page).1.rights⟩ : TEntry))⟩ : THost)) (q := ({ (q114 0) with iobuf := q235 } : PHost)) (Fy := F236) (by kernel_rfl) (by kernel_rfl) (Nat.succ_pos 0) (by kernel_rfl) (by kernel_rfl) (Nat.le_of_ble_eq_true (by kernel_rfl)) (by kernel_rfl) (fun G g_ gF => ⟨_, owl_Host_iobuf g_ o237.own (fun b h h2 => d239 b (gF b h) h2), fun _ h => h⟩) d239 o237.sub o237.young fun w N F241 S up o240 d243 s244 n245 => ?_)
 refine WD.last (by kernel_rfl) ?_
 obtain ⟨q242, o246, hq247⟩ : ∃ q242 : Nat → PHost, Ow w0 NoB _ _ F241 [(⟨J3.mem, J3.mons, J3.buf, (f_putEntry J3.iobuf (⟨(f_tagOf m g), page, (f_ask (el (el J3.mons m.toNat).tables g.toNat) page).1.page, (f_ask (el (el J3.mons m.toNat).tables g.toNat) page).1.rights⟩ : TEntry))⟩ : THost)] ((((cap1 b24 q1 : LP THost).1), q242) : LP THost) ∧ (q242 0).mons.1 = (q114 0).mons.1 := ⟨_, o240, rfl⟩
 clear up d243 o116 o240 s244 n245
 refine WD.done (by kernel_rfl) ?_ _
 refine S.ex fun S => ?_
 refine S.go 2 .nil fun ac w β S => ?_
 refine drw ?_
 let σ248 : Sy := ⟨[(12, .p 1 0), (15, .v (pt (((cap1 b24 q1 : LP THost).1)).b ((((cap1 b24 q1 : LP THost).1)).off + 0 * 4))), (24, .p 3 0)], [GT.cells h ph, Zc THost, GT.cells (f_findEntry J3.iobuf (f_tagOf m g) page).1 (), GT.cells (f_ask (el (el J3.mons m.toNat).tables g.toNat) page).1 ()]⟩
 obtain ⟨u0, N0, β0, S, o246⟩ : ∃ u0 N0 β0, St Try.prog Try.f109.ntmps w0 NoB u0 N0 β0 σ248 ac w ∧ Ow w0 NoB u0 N0 F241 ([(⟨J3.mem, J3.mons, J3.buf, (f_putEntry J3.iobuf (⟨(f_tagOf m g), page, (f_ask (el (el J3.mons m.toNat).tables g.toNat) page).1.page, (f_ask (el (el J3.mons m.toNat).tables g.toNat) page).1.rights⟩ : TEntry))⟩ : THost)]) ((((cap1 b24 q1 : LP THost).1), q242) : LP THost) := ⟨_, _, _, S.z, o246⟩
 refine wp_region_cut (fun ac w => ∃  u N β, St Try.prog Try.f109.ntmps w0 NoB u N β (σ248.dl [15, 24] [(13, .v (I (f_ask (el (el J3.mons m.toNat).tables g.toNat) page).1.page)), (14, .v (B true))] 2 [(1, [slv J3.mem.length (q242 0).mem.1, slv J3.mons.length (q242 0).mons.1, slv J3.buf.length (q242 0).buf.1, slv (f_putEntry J3.iobuf (⟨(f_tagOf m g), page, (f_ask (el (el J3.mons m.toNat).tables g.toNat) page).1.page, (f_ask (el (el J3.mons m.toNat).tables g.toNat) page).1.rights⟩ : TEntry)).length (q242 0).iobuf.1])]) ac w ∧ Ow w0 NoB u N F241 ([(⟨J3.mem, J3.mons, J3.buf, (f_putEntry J3.iobuf (⟨(f_tagOf m g), page, (f_ask (el (el J3.mons m.toNat).tables g.toNat) page).1.page, (f_ask (el (el J3.mons m.toNat).tables g.toNat) page).1.rights⟩ : TEntry))⟩ : THost)]) ((((cap1 b24 q1 : LP THost).1), q242) : LP THost)) ?_ ?_
 ·refine S.draw0 (f := 6) 3 (by kernel_rfl) (by kernel_rfl) fun w S => ?_
  refine S.hq 0 [0] [] [(197, .v (GT.val (⟨J3.mem, J3.mons, J3.buf, (f_putEntry J3.iobuf (⟨(f_tagOf m g), page, (f_ask (el (el J3.mons m.toNat).tables g.toNat) page).1.page, (f_ask (el (el J3.mons m.toNat).tables g.toNat) page).1.rights⟩ : TEntry))⟩ : THost) (q242 0)))] (.cons (Q_el o246.rn (t := 35) (k := 0) (Nat.succ_pos 0) rfl (by kernel_rfl) (by kernel_rfl)) .nil) fun ac S => ?_
  refine WD.nameW fun W hW => ?_
  refine WD.castW (l' := mkL 6 [0]) (by kernel_rfl) ?_
  have hK249 ac w u N β (S : St Try.prog Try.f109.ntmps w0 NoB u N β (σ248.dl [15, 24] [(13, .v (I (f_ask (el (el J3.mons m.toNat).tables g.toNat) page).1.page)), (14, .v (B true))] 4 [(1, [slv J3.mem.length (q242 0).mem.1, slv J3.mons.length (q242 0).mons.1, slv J3.buf.length (q242 0).buf.1, slv (f_putEntry J3.iobuf (⟨(f_tagOf m g), page, (f_ask (el (el J3.mons m.toNat).tables g.toNat) page).1.page, (f_ask (el (el J3.mons m.toNat).tables g.toNat) page).1.rights⟩ : TEntry)).length (q242 0).iobuf.1])]) ac w) (o246 : Ow w0 NoB u N F241 ([(⟨J3.mem, J3.mons, J3.buf, (f_putEntry J3.iobuf (⟨(f_tagOf m g), page, (f_ask (el (el J3.mons m.toNat).tables g.toNat) page).1.page, (f_ask (el (el J3.mons m.toNat).tables g.toNat) page).1.rights⟩ : TEntry))⟩ : THost)]) ((((cap1 b24 q1 : LP THost).1), q242) : LP THost)) : W 0 (mkL 6 [0, 1, 2, 3, 4, 5]) ac w := by
   exact od hW ⟨rfl, _, _, _, S.z, o246⟩
  have hK250 ac w u N β (S : St Try.prog Try.f109.ntmps w0 NoB u N β (σ248.dl [15, 24] [(197, .v (GT.val (⟨J3.mem, J3.mons, J3.buf, (f_putEntry J3.iobuf (⟨(f_tagOf m g), page, (f_ask (el (el J3.mons m.toNat).tables g.toNat) page).1.page, (f_ask (el (el J3.mons m.toNat).tables g.toNat) page).1.rights⟩ : TEntry))⟩ : THost) (q242 0))), (199, .v (I (f_ask (el (el J3.mons m.toNat).tables g.toNat) page).1.page))] 4 []) ac w) (o246 : Ow w0 NoB u N F241 ([(⟨J3.mem, J3.mons, J3.buf, (f_putEntry J3.iobuf (⟨(f_tagOf m g), page, (f_ask (el (el J3.mons m.toNat).tables g.toNat) page).1.page, (f_ask (el (el J3.mons m.toNat).tables g.toNat) page).1.rights⟩ : TEntry))⟩ : THost)]) ((((cap1 b24 q1 : LP THost).1), q242) : LP THost)) (hNN : NN N0 u0 N u) (hBB : BB σ248.bx.length β0 β) : W 3 (mkL 6 [0, 1, 2]) ac w := by
   exact ox1 hW 3 (S.wl hW [4, 5] .nil fun _ _ _ S => hK249 _ _ _ _ _ S o246)
  have hK251 ac w u N β (S : St Try.prog Try.f109.ntmps w0 NoB u N β (σ248.dl [15, 24] [(198, .p 3 0)] 4 [(1, [slv J3.mem.length (q242 0).mem.1, slv J3.mons.length (q242 0).mons.1, slv J3.buf.length (q242 0).buf.1, slv (f_putEntry J3.iobuf (⟨(f_tagOf m g), page, (f_ask (el (el J3.mons m.toNat).tables g.toNat) page).1.page, (f_ask (el (el J3.mons m.toNat).tables g.toNat) page).1.rights⟩ : TEntry)).length (q242 0).iobuf.1])]) ac w) (o246 : Ow w0 NoB u N F241 ([(⟨J3.mem, J3.mons, J3.buf, (f_putEntry J3.iobuf (⟨(f_tagOf m g), page, (f_ask (el (el J3.mons m.toNat).tables g.toNat) page).1.page, (f_ask (el (el J3.mons m.toNat).tables g.toNat) page).1.rights⟩ : TEntry))⟩ : THost)]) ((((cap1 b24 q1 : LP THost).1), q242) : LP THost)) : W 3 (mkL 6 [0, 1, 3]) ac w := by
   exact ox1 hW 2 (S.wl hW [4, 5] .nil fun _ _ _ S => hK249 _ _ _ _ _ S o246)
  have hK252 ac w u N β (S : St Try.prog Try.f109.ntmps w0 NoB u N β (σ248.dl [15, 24] [(197, .v (GT.val (⟨J3.mem, J3.mons, J3.buf, (f_putEntry J3.iobuf (⟨(f_tagOf m g), page, (f_ask (el (el J3.mons m.toNat).tables g.toNat) page).1.page, (f_ask (el (el J3.mons m.toNat).tables g.toNat) page).1.rights⟩ : TEntry))⟩ : THost) (q242 0))), (198, .p 3 0)] 4 []) ac w) (o246 : Ow w0 NoB u N F241 ([(⟨J3.mem, J3.mons, J3.buf, (f_putEntry J3.iobuf (⟨(f_tagOf m g), page, (f_ask (el (el J3.mons m.toNat).tables g.toNat) page).1.page, (f_ask (el (el J3.mons m.toNat).tables g.toNat) page).1.rights⟩ : TEntry))⟩ : THost)]) ((((cap1 b24 q1 : LP THost).1), q242) : LP THost)) (hNN : NN N0 u0 N u) (hBB : BB σ248.bx.length β0 β) : W 4 (mkL 6 [0, 1]) ac w := by
   exact ox2 hW 2 3 (S.wq hW hNN hBB [] .nil fun _ _ _ S hB => hK250 _ _ _ _ _ S o246 hNN hB) (S.wl hW [] .nil fun _ _ _ S => hK251 _ _ _ _ _ S o246)
  rw [hW]
  exact S.wh hW [1] (fun _ => S.rcx) fun _ S => hK252 _ _ _ _ _ S o246 (fun _ h => ⟨h, rfl⟩) (fun _ _ => rfl)
 clear S o246
 rintro ac w ⟨u, N, β, S, o246⟩
 refine S.ex fun S => ?_
 refine S.gr 2 .nil [GT.val (⟨J3.mem, J3.mons, J3.buf, (f_putEntry J3.iobuf (⟨(f_tagOf m g), page, (f_ask (el (el J3.mons m.toNat).tables g.toNat) page).1.page, (f_ask (el (el J3.mons m.toNat).tables g.toNat) page).1.rights⟩ : TEntry))⟩ : THost) (q242 0), I (f_ask (el (el J3.mons m.toNat).tables g.toNat) page).1.page, B true] fun ac w β S => ?_
 obtain ⟨F253, o254, s255, _⟩ := foc2_id o246 (k := 0) (Nat.succ_pos 0)
 change Ow w0 NoB _ _ F253 (⟨J3.mem, J3.mons, J3.buf, (f_putEntry J3.iobuf (⟨(f_tagOf m g), page, (f_ask (el (el J3.mons m.toNat).tables g.toNat) page).1.page, (f_ask (el (el J3.mons m.toNat).tables g.toNat) page).1.rights⟩ : TEntry))⟩ : THost) (q242 0) at o254
 exact ret3_of (p' := ()) (p'' := ()) S (show (f_lookup h m g page need true).1 = (⟨J3.mem, J3.mons, J3.buf, (f_putEntry J3.iobuf (⟨(f_tagOf m g), page, (f_ask (el (el J3.mons m.toNat).tables g.toNat) page).1.page, (f_ask (el (el J3.mons m.toNat).tables g.toNat) page).1.rights⟩ : TEntry))⟩ : THost) from k0_impl_lookup) (show (f_lookup h m g page need true).2.1 = (f_ask (el (el J3.mons m.toNat).tables g.toNat) page).1.page from k0_impl_lookup) (show (f_lookup h m g page need true).2.2 = true from k0_impl_lookup) rfl rfl rfl o254 (RSlot.page (d := (f_ask (el (el J3.mons m.toNat).tables g.toNat) page).1) i155) trivial

theorem c_impl_IoLookup (w0 : World) (h : THost) (ph : PHost) (hh : RD w0 h ph) (m : Int) (g : Int) (page : Int) (hpage : In64 page) (need : Int) : Calls Try.prog 76 [GT.val h ph, I m, I g, I page, I need].toArray w0 (Ret3 NoB w0 ((f_lookup h m g page need true).1 : THost) ((f_lookup h m g page need true).2.1 : Int) ((f_lookup h m g page need true).2.2 : Bool)) := by
 refine Calls.run NoB Try.func76 ?_
 intro ac β S
 have hleh_mem : h.mem.length ≤ 4194304 := LRd.le (RHost.mem (d := h) hh)
 have hleh_mons : h.mons.length ≤ 4194304 := LRd.le (RHost.mons (d := h) hh)
 have hleh_buf : h.buf.length ≤ 4194304 := LRd.le (RHost.buf (d := h) hh)
 have hleh_iobuf : h.iobuf.length ≤ 4194304 := LRd.le (RHost.iobuf (d := h) hh)
 have hlopage := hpage.lo; have hhipage := hpage.hi
 refine S.go 15 .nil fun ac w β S => S.K3 (r := (f_lookup h m g page need true).1) (r' := (f_lookup h m g page need true).2.1) (r'' := (f_lookup h m g page need true).2.2) (d := 18) (c_impl_lookup w h ph (S.rd (S.arg hh)) m g page hpage need true (by rfl)) fun ac w N q1 F2 S up o3 d4 i5 => ?_
 clear up d4
 obtain ⟨F6, F9, F12, F15, o7, o10, o13, o16, s8, s11, s14, s17, d18, d19, d20, d21, d22, d23⟩ := sp_Host o3
 refine S.gr 9 .nil [GT.val (f_lookup h m g page need true).1 q1, I (f_lookup h m g page need true).2.1, B (f_lookup h m g page need true).2.2] fun ac w β S => ?_
 have o24 := ow_Host (x := (f_lookup h m g page need true).1) (p := q1) o7 o10 o13 o16 d18 d19 d20 d21 d22 d23 
 exact ret3_of (p' := ()) (p'' := ()) S (show (f_lookup h m g page need true).1 = (f_lookup h m g page need true).1 by clear S; rfl) (show (f_lookup h m g page need true).2.1 = (f_lookup h m g page need true).2.1 by clear S; rfl) (show (f_lookup h m g page need true).2.2 = (f_lookup h m g page need true).2.2 by clear S; rfl) rfl rfl rfl o24 i5 trivial

theorem k0_impl_AddrCell {p : Prop} (h : p := by clear S; (first | (unfold f_addrCell; rw [if_pos (by omega)]; done) | (unfold f_addrCell; rw [if_pos (by omega)]; first | rfl | (simp; done)) | (unfold f_addrCell; rw [if_neg (by omega)]; done) | (unfold f_addrCell; rw [if_neg (by omega)]; first | rfl | (simp; done)))) : p := h
theorem c_impl_AddrCell (w0 : World) (addr : Int) (haddr : In64 addr) : Calls Try.prog 80 [I addr].toArray w0 (fun e w' => e = .returned (I (f_addrCell addr)) ∧ Chg NoB w0 w') := by
 refine Calls.run NoB Try.func80 ?_
 intro ac β S
 have hloaddr := haddr.lo; have hhiaddr := haddr.hi
 refine S.gd 12 .nil (decide (addr < 0)) (fun ac w β h1 g2 S => ?_) (fun ac w β h1 g2 S => ?_)
 ·exact S.gf 7 .nil [I (-1)] (retI k0_impl_AddrCell)
 exact S.gf 11 (.cons (Q_rem (x := addr) (y := 4) (by decide)) .nil) [I (Int.tmod addr 4)] (retI k0_impl_AddrCell)

theorem k0_impl_WithCell {p : Prop} (h : p := by clear S; (unfold f_withCell; (repeat' split) <;> first | rfl | (simp; done) | (exfalso; omega) | (exfalso; simp_all; done) | (exfalso; simp_all; omega))) : p := h
theorem c_impl_WithCell (w0 : World) (m : List (List Int)) (pm : LP (List Int)) (hm : RD w0 m pm) (page : Int) (cell : Int) (v : Int) (hv : In64 v) : Calls Try.prog 79 [slv m.length pm.1, I page, I cell, I v].toArray w0 (Ret1 NoB w0 (f_withCell m page cell v : List (List Int))) := by
 refine Calls.run NoB Try.func79 ?_
 intro ac β S
 have hlem : m.length ≤ 4194304 := LRd.le hm
 have hlov := hv.lo; have hhiv := hv.hi
 refine S.go 8 .nil fun ac w β S => S.K1 (r := m) (d := 11) (c_impl_copyMem w m pm (S.rd (S.arg hm))) fun ac w N q1 F2 S up o3 d4 => ?_
 clear up d4
 refine S.gb 11 (.cons (Q_call fun w hw => c_impl_has w page (m.length : Int) (by omega)) .nil) (f_within page 0 ((m.length : Int) - 1)) (fun ac w β h5 S => ?_) (fun ac w β h5 S => ?_)
 ·have g6 := within_t h5
  have b7 : (el m page.toNat).length ≤ 4194304 := LRd.le (LRd.el (S.arg hm) page.toNat (by omega))
  refine S.gb 9 (.cons (qt (S.arg hm) page Try.underlying31) (.cons (qx (S.arg hm) 24 page.toNat) (.cons (Q_call fun w hw => c_impl_has w cell ((el m page.toNat).length : Int) (by omega)) .nil))) (f_within cell 0 (((el m page.toNat).length : Int) - 1)) (fun ac w β h8 S => ?_) (fun ac w β h8 S => ?_)
  ·have g9 := within_t h8
   refine S.gb 5 (.cons (Q_call fun w hw => c_impl_within w v 0 99) .nil) (f_within v 0 99) (fun ac w β h10 S => ?_) (fun ac w β h10 S => ?_)
   ·have g11 := within_t h10
    obtain ⟨F12, o13, s14, b15⟩ := foc2_id o3 (k := page.toNat) (show page.toNat < m.length by omega)
    have l16 := LRd.le o13.rn
    have n17 := o13.sub
    refine S.go 9 (.cons (qt o3.rn page Try.underlying31) (.cons (qx o3.rn 24 page.toNat) (.cons (qt (LRd.el o3.rn page.toNat (by omega)) cell Try.underlying24) .nil))) fun ac w β S => S.SF (α := Int) o13 (t := 3) (k := cell.toNat) (j := 0) (off := (q1.2 page.toNat).1.off + cell.toNat * 1) (v := I v) (y := v) (q := ()) (fun _ _ _ => ⟨NoB, hv, fun _ h => False.elim h⟩) fun w N F19 q20 S up o18 d21 s22 n23 => ?_
    clear d21 o13
    obtain ⟨p24, o25, c26⟩ := b15 _ _ _ _ _ NoB up o18 s22 (fun b _ h => False.elim h) (by show [slv _ _] = [slv _ _]; rw [List.length_set]) (fun b h => n23 b (n17 b h))
    clear up o18 n23
    have l27 : (m.set page.toNat ((el m page.toNat).set cell.toNat v)).length = m.length := List.length_set
    refine S.gr 9 .nil [slv m.length q1.1] fun ac w β S => ?_
    exact ret1_of S (show f_withCell m page cell v = (m.set page.toNat ((el m page.toNat).set cell.toNat v)) from k0_impl_WithCell) (by rw [show m.length = (m.set page.toNat ((el m page.toNat).set cell.toNat v)).length from (by omega)]; rfl) o25
   have g28 := within_f h10
   refine S.gr 10 .nil [slv m.length q1.1] fun ac w β S => ?_
   exact ret1_of S (show f_withCell m page cell v = m from k0_impl_WithCell) rfl o3
  have g29 := within_f h8
  refine S.gr 15 .nil [slv m.length q1.1] fun ac w β S => ?_
  exact ret1_of S (show f_withCell m page cell v = m from k0_impl_WithCell) rfl o3
 have g30 := within_f h5
 refine S.gr 24 .nil [slv m.length q1.1] fun ac w β S => ?_
 exact ret1_of S (show f_withCell m page cell v = m from k0_impl_WithCell) rfl o3

theorem k0_impl_HostDma {p : Prop} (h : p := by clear S; (first | (rw [dma_out (.inl (by assumption))]; done) | (rw [dma_out (.inr (.inl (by assumption)))]; done) | (rw [dma_out (.inr (.inr (by assumption)))]; done) | (rw [dma_no rfl (by assumption)]; done) | (rw [dma_no (by assumption) (by assumption)]; done) | (rw [dma_yes rfl (by assumption) (by assumption) (by assumption)]; done) | (rw [dma_yes (by assumption) (by assumption) (by assumption) (by assumption)]; done))) : p := h
theorem c_impl_HostDma (w0 : World) (h : THost) (ph : PHost) (hh : RD w0 h ph) (m : Int) (g : Int) (addr : Int) (haddr : In64 addr) (v : Int) (hv : In64 v) : Calls Try.prog 38 [GT.val h ph, I m, I g, I addr, I v].toArray w0 (Ret2 NoB w0 ((f_hostDma h m g addr v).1 : THost) ((f_hostDma h m g addr v).2 : Bool)) := by
 refine Calls.run NoB Try.func38 ?_
 intro ac β S
 have hleh_mem : h.mem.length ≤ 4194304 := LRd.le (RHost.mem (d := h) hh)
 have hleh_mons : h.mons.length ≤ 4194304 := LRd.le (RHost.mons (d := h) hh)
 have hleh_buf : h.buf.length ≤ 4194304 := LRd.le (RHost.buf (d := h) hh)
 have hleh_iobuf : h.iobuf.length ≤ 4194304 := LRd.le (RHost.iobuf (d := h) hh)
 have hloaddr := haddr.lo; have hhiaddr := haddr.hi
 have hlov := hv.lo; have hhiv := hv.hi
 refine S.go 8 .nil fun ac w β S => ?_
 refine drw ?_
 let σ1 : Sy := ⟨[(1, .v (I m)), (2, .v (I g)), (3, .v (I addr)), (4, .v (I v)), (5, .p 0 0), (10, .p 1 0)], [GT.cells h ph, Zc THost]⟩
 obtain ⟨u0, N0, β0, S⟩ : ∃ u0 N0 β0, St Try.prog Try.f38.ntmps w0 NoB u0 N0 β0 σ1 ac w := ⟨_, _, _, S.z⟩
 refine wp_region_cut (fun ac w => ∃ q69 F70 q72 F73 q63 F64 q66 F67 u N β, St Try.prog Try.f38.ntmps w0 NoB u N β (σ1.dl [1, 2] [(12, .p 2 0), (13, .v (I (f_lookup h m g (f_addrPage addr) 2 true).2.1)), (14, .v (B (f_lookup h m g (f_addrPage addr) 2 true).2.2))] 3 [(2, [slv (f_lookup h m g (f_addrPage addr) 2 true).1.mem.length q63.1, slv (f_lookup h m g (f_addrPage addr) 2 true).1.mons.length q66.1, slv (f_lookup h m g (f_addrPage addr) 2 true).1.buf.length q69.1, slv (f_lookup h m g (f_addrPage addr) 2 true).1.iobuf.length q72.1])]) ac w ∧ Ow w0 NoB u N F70 (f_lookup h m g (f_addrPage addr) 2 true).1.buf q69 ∧ Ow w0 NoB u N F73 (f_lookup h m g (f_addrPage addr) 2 true).1.iobuf q72 ∧ Ow w0 NoB u N F64 (f_lookup h m g (f_addrPage addr) 2 true).1.mem q63 ∧ Ow w0 NoB u N F67 (f_lookup h m g (f_addrPage addr) 2 true).1.mons q66 ∧ Disj F70 F73 ∧ Disj F70 F64 ∧ Disj F70 F67 ∧ Disj F73 F64 ∧ Disj F73 F67 ∧ Disj F64 F67) ?_ ?_
 ·refine S.draw0 (f := 14) 11 (by kernel_rfl) (by kernel_rfl) fun w S => ?_
  refine S.hq 0 [0] [] [(16, .v (GT.val h ph))] .nil fun ac S => ?_
  refine S.hq 1 [1] [] [(17, .v (I m))] .nil fun ac S => ?_
  refine S.hq 2 [2] [] [(18, .v (I g))] .nil fun ac S => ?_
  refine S.hq 3 [3] [] [(19, .v (I addr))] .nil fun ac S => ?_
  refine WD.nameW fun W hW => ?_
  refine WD.castW (l' := mkL 14 [0, 1, 2, 3]) (by kernel_rfl) ?_
  have hK74 ac w q69 F70 q72 F73 q63 F64 q66 F67 u N β (S : St Try.prog Try.f38.ntmps w0 NoB u N β (σ1.dl [1, 2] [(12, .p 2 0), (13, .v (I (f_lookup h m g (f_addrPage addr) 2 true).2.1)), (14, .v (B (f_lookup h m g (f_addrPage addr) 2 true).2.2))] 3 [(2, [slv (f_lookup h m g (f_addrPage addr) 2 true).1.mem.length q63.1, slv (f_lookup h m g (f_addrPage addr) 2 true).1.mons.length q66.1, slv (f_lookup h m g (f_addrPage addr) 2 true).1.buf.length q69.1, slv (f_lookup h m g (f_addrPage addr) 2 true).1.iobuf.length q72.1])]) ac w) (o68 : Ow w0 NoB u N F70 (f_lookup h m g (f_addrPage addr) 2 true).1.buf q69) (o71 : Ow w0 NoB u N F73 (f_lookup h m g (f_addrPage addr) 2 true).1.iobuf q72) (o62 : Ow w0 NoB u N F64 (f_lookup h m g (f_addrPage addr) 2 true).1.mem q63) (o65 : Ow w0 NoB u N F67 (f_lookup h m g (f_addrPage addr) 2 true).1.mons q66) (d75 : Disj F70 F73) (d76 : Disj F70 F64) (d77 : Disj F70 F67) (d78 : Disj F73 F64) (d79 : Disj F73 F67) (d80 : Disj F64 F67) : W 0 (mkL 14 [0, 1, 2, 3, 4, 5, 6, 7, 8, 9, 10, 11, 12, 13]) ac w := by
   exact od hW ⟨rfl, q69, F70, q72, F73, q63, F64, q66, F67, _, _, _, S.z, o68, o71, o62, o65, d75, d76, d77, d78, d79, d80⟩
  have hK81 ac w q33 F34 q36 F37 q27 F28 q30 F31 u N β (S : St Try.prog Try.f38.ntmps w0 NoB u N β (σ1.dl [1, 2] [(12, .p 2 0), (22, .v (GT.val (f_lookup h m g (f_addrPage addr) 2 true).1 (⟨q27, q30, q33, q36⟩ : PHost))), (23, .v (I (f_lookup h m g (f_addrPage addr) 2 true).2.1)), (24, .v (B (f_lookup h m g (f_addrPage addr) 2 true).2.2))] 3 [(2, Zc THost)]) ac w) (o32 : Ow w0 NoB u N F34 (f_lookup h m g (f_addrPage addr) 2 true).1.buf q33) (o35 : Ow w0 NoB u N F37 (f_lookup h m g (f_addrPage addr) 2 true).1.iobuf q36) (o26 : Ow w0 NoB u N F28 (f_lookup h m g (f_addrPage addr) 2 true).1.mem q27) (o29 : Ow w0 NoB u N F31 (f_lookup h m g (f_addrPage addr) 2 true).1.mons q30) (d82 : Disj F34 F37) (d83 : Disj F34 F28) (d84 : Disj F34 F31) (d85 : Disj F37 F28) (d86 : Disj F37 F31) (d87 : Disj F28 F31) (hNN : NN N0 u0 N u) (hBB : BB σ1.bx.length β0 β) : W 3 (mkL 14 [0, 1, 2, 3, 4, 5, 6, 7, 8, 9, 10]) ac w := by
   exact ox1 hW 11 (S.wl hW [12, 13] .nil fun _ _ _ S => hK74 _ _ q33 F34 q36 F37 q27 F28 q30 F31 _ _ _ S o32 o35 o26 o29 d82 d83 d84 d85 d86 d87)
  have hK88 ac w q33 F34 q36 F37 q27 F28 q30 F31 u N β (S : St Try.prog Try.f38.ntmps w0 NoB u N β (σ1.dl [1, 2] [(22, .v (GT.val (f_lookup h m g (f_addrPage addr) 2 true).1 (⟨q27, q30, q33, q36⟩ : PHost))), (23, .v (I (f_lookup h m g (f_addrPage addr) 2 true).2.1)), (24, .v (B (f_lookup h m g (f_addrPage addr) 2 true).2.2))] 2 []) ac w) (o32 : Ow w0 NoB u N F34 (f_lookup h m g (f_addrPage addr) 2 true).1.buf q33) (o35 : Ow w0 NoB u N F37 (f_lookup h m g (f_addrPage addr) 2 true).1.iobuf q36) (o26 : Ow w0 NoB u N F28 (f_lookup h m g (f_addrPage addr) 2 true).1.mem q27) (o29 : Ow w0 NoB u N F31 (f_lookup h m g (f_addrPage addr) 2 true).1.mons q30) (d89 : Disj F34 F37) (d90 : Disj F34 F28) (d91 : Disj F34 F31) (d92 : Disj F37 F28) (d93 : Disj F37 F31) (d94 : Disj F28 F31) (hNN : NN N0 u0 N u) (hBB : BB σ1.bx.length β0 β) : W 4 (mkL 14 [0, 1, 2, 3, 4, 5, 6, 7, 8, 9]) ac w := by
   exact ox1 hW 10 (S.wq hW hNN hBB [] .nil fun _ _ _ S hB => hK81 _ _ q33 F34 q36 F37 q27 F28 q30 F31 _ _ _ S o32 o35 o26 o29 d89 d90 d91 d92 d93 d94 hNN hB)
  have hK95 ac w u N β (S : St Try.prog Try.f38.ntmps w0 NoB u N β (σ1.dl [1, 2] [(12, .p 2 0), (16, .v (GT.val h ph)), (17, .v (I m)), (18, .v (I g)), (20, .v (I (f_addrPage addr)))] 3 [(2, Zc THost)]) ac w) (hNN : NN N0 u0 N u) (hBB : BB σ1.bx.length β0 β) : W 8 (mkL 14 [0, 1, 2, 3, 4, 10]) ac w := by
   refine ox1 hW 5 ?_
   refine id (S.call3 (r := (f_lookup h m g (f_addrPage addr) 2 true).1) (r' := (f_lookup h m g (f_addrPage addr) 2 true).2.1) (r'' := (f_lookup h m g (f_addrPage addr) 2 true).2.2) (d := 21) (c_impl_IoLookup w h ph (S.rd (S.arg hh)) m g (f_addrPage addr) (addrPage_in64 haddr) 2) (by kernel_rfl) rfl fun ac w N q96 F97 S up o98 d99 i100 => ?_)
   have hb101 := fun b h => (⟨(up b (hNN b h).1).1, (up b (hNN b h).1).2.trans (hNN b h).2⟩ : _ ∧ _)
   refine WD.sc S hb101 hBB fun hC => ?_
   clear up d99
   obtain ⟨F102, F105, F108, F111, o103, o106, o109, o112, s104, s107, s110, s113, d114, d115, d116, d117, d118, d119⟩ := sp_Host o98
   exact S.wh hW [6, 7, 8, 9] hC fun _ S => hK81 _ _ q96.buf F108 q96.iobuf F111 q96.mem F102 q96.mons F105 _ _ _ S o109 o112 o103 o106 d119 (Disj.symm d115) (Disj.symm d117) (Disj.symm d116) (Disj.symm d118) d114 hb101 hBB
  have hK120 ac w u N β (S : St Try.prog Try.f38.ntmps w0 NoB u N β (σ1.dl [1, 2] [(16, .v (GT.val h ph)), (17, .v (I m)), (18, .v (I g)), (20, .v (I (f_addrPage addr)))] 2 []) ac w) (hNN : NN N0 u0 N u) (hBB : BB σ1.bx.length β0 β) : W 9 (mkL 14 [0, 1, 2, 3, 4]) ac w := by
   refine ox2 hW 5 10 ?_ (S.wq hW hNN hBB [] .nil fun _ _ _ S hB => hK95 _ _ _ _ _ S hNN hB)
   refine id (S.call3 (r := (f_lookup h m g (f_addrPage addr) 2 true).1) (r' := (f_lookup h m g (f_addrPage addr) 2 true).2.1) (r'' := (f_lookup h m g (f_addrPage addr) 2 true).2.2) (d := 21) (c_impl_IoLookup w h ph (S.rd (S.arg hh)) m g (f_addrPage addr) (addrPage_in64 haddr) 2) (by kernel_rfl) rfl fun ac w N q121 F122 S up o123 d124 i125 => ?_)
   have hb126 := fun b h => (⟨(up b (hNN b h).1).1, (up b (hNN b h).1).2.trans (hNN b h).2⟩ : _ ∧ _)
   refine WD.sc S hb126 hBB fun hC => ?_
   clear up d124
   obtain ⟨F127, F130, F133, F136, o128, o131, o134, o137, s129, s132, s135, s138, d139, d140, d141, d142, d143, d144⟩ := sp_Host o123
   exact S.wh hW [6, 7, 8, 9] hC fun _ S => hK88 _ _ q121.buf F133 q121.iobuf F136 q121.mem F127 q121.mons F130 _ _ _ S o134 o137 o128 o131 d144 (Disj.symm d140) (Disj.symm d142) (Disj.symm d141) (Disj.symm d143) d139 hb126 hBB
  have hK145 ac w u N β (S : St Try.prog Try.f38.ntmps w0 NoB u N β (σ1.dl [1, 2] [(12, .p 2 0), (16, .v (GT.val h ph)), (17, .v (I m)), (18, .v (I g)), (19, .v (I addr))] 3 [(2, Zc THost)]) ac w) (hNN : NN N0 u0 N u) (hBB : BB σ1.bx.length β0 β) : W 9 (mkL 14 [0, 1, 2, 3, 10]) ac w := by
   exact ox1 hW 4 (S.wq hW hNN hBB [] (.cons (Q_call fun w hw => c_impl_AddrPage w addr haddr) .nil) fun _ _ _ S hB => hK95 _ _ _ _ _ S hNN hB)
  have hNN : NN N0 u0 N0 u0 := fun b h => ⟨h, rfl⟩
  have hBB : BB σ1.bx.length β0 β0 := fun _ _ => rfl
  exact ox2 hW 4 10 (S.wq hW hNN hBB [] (.cons (Q_call fun w hw => c_impl_AddrPage w addr haddr) .nil) fun _ _ _ S hB => hK120 _ _ _ _ _ S hNN hB) (S.wq hW hNN hBB [] .nil fun _ _ _ S hB => hK145 _ _ _ _ _ S hNN hB)
 clear S
 rintro ac w ⟨q69, F70, q72, F73, q63, F64, q66, F67, u, N, β, S, o68, o71, o62, o65, d146, d147, d148, d149, d150, d151⟩
 refine S.ex fun S => ?_
 refine S.gb 8 (.cons (Q_call fun w hw => c_impl_within w addr 0 15) .nil) (!(f_within addr 0 15)) (fun ac w β h152 S => ?_) (fun ac w β h152 S => ?_)
 ·have h153 := not_t h152
  have g154 := within_f h153
  refine S.go 14 .nil fun ac w β S => S.K1 (r := h) (d := 38) (c_impl_copyHost w h ph (S.rd (S.arg hh))) fun ac w N q155 F156 S up o157 d158 => ?_
  clear up d158
  obtain ⟨F159, F162, F165, F168, o160, o163, o166, o169, s161, s164, s167, s170, d171, d172, d173, d174, d175, d176⟩ := sp_Host o157
  refine S.gr 5 .nil [GT.val h q155, B false] fun ac w β S => ?_
  have o177 := ow_Host (x := h) (p := q155) o160 o163 o166 o169 d171 d172 d173 d174 d175 d176 
  exact ret2_of (p' := ()) S (show (f_hostDma h m g addr v).1 = h from k0_impl_HostDma) (show (f_hostDma h m g addr v).2 = false from k0_impl_HostDma) rfl rfl o177 trivial
 have h178 := not_f h152
 have g179 := within_t h178
 refine S.gb 5 (.cons (Q_call fun w hw => c_impl_within w v 0 99) .nil) (!(f_within v 0 99)) (fun ac w β h180 S => ?_) (fun ac w β h180 S => ?_)
 ·have h181 := not_t h180
  have g182 := within_f h181
  refine S.go 9 .nil fun ac w β S => S.K1 (r := h) (d := 38) (c_impl_copyHost w h ph (S.rd (S.arg hh))) fun ac w N q183 F184 S up o185 d186 => ?_
  clear up d186
  obtain ⟨F187, F190, F193, F196, o188, o191, o194, o197, s189, s192, s195, s198, d199, d200, d201, d202, d203, d204⟩ := sp_Host o185
  refine S.gr 5 .nil [GT.val h q183, B false] fun ac w β S => ?_
  have o205 := ow_Host (x := h) (p := q183) o188 o191 o194 o197 d199 d200 d201 d202 d203 d204 
  exact ret2_of (p' := ()) S (show (f_hostDma h m g addr v).1 = h from k0_impl_HostDma) (show (f_hostDma h m g addr v).2 = false from k0_impl_HostDma) rfl rfl o205 trivial
 have h206 := not_f h180
 have g207 := within_t h206
 refine S.gb 5 .nil (!(f_lookup h m g (f_addrPage addr) 2 true).2.2) (fun ac w β h208 S => ?_) (fun ac w β h208 S => ?_)
 ·have h209 := not_t h208
  refine S.go 4 .nil fun ac w β S => S.K1 (r := h) (d := 38) (c_impl_copyHost w h ph (S.rd (S.arg hh))) fun ac w N q210 F211 S up o212 d213 => ?_
  clear up d213
  obtain ⟨F214, F217, F220, F223, o215, o218, o221, o224, s216, s219, s222, s225, d226, d227, d228, d229, d230, d231⟩ := sp_Host o212
  refine S.gr 5 .nil [GT.val h q210, B false] fun ac w β S => ?_
  have o232 := ow_Host (x := h) (p := q210) o215 o218 o221 o224 d226 d227 d228 d229 d230 d231 
  exact ret2_of (p' := ()) S (show (f_hostDma h m g addr v).1 = h from k0_impl_HostDma) (show (f_hostDma h m g addr v).2 = false from k0_impl_HostDma) rfl rfl o232 trivial
 have h233 := not_f h208
 refine S.go 4 .nil fun ac w β S => ?_
 refine drw ?_
 refine S.draw0 (f := 9) 8 (by kernel_rfl) (by kernel_rfl) fun w S => ?_
 refine S.hq 0 [0] [] [(39, .p 2 0)] .nil fun ac S => ?_
 refine S.hq 1 [1] [] [(40, .v (slv (f_lookup h m g (f_addrPage addr) 2 true).1.mem.length q63.1))] .nil fun ac S => ?_
 refine S.hq 2 [2] [] [(41, .v (I (f_lookup h m g (f_addrPage addr) 2 true).2.1))] .nil fun ac S => ?_
 refine S.hq 3 [3] [] [(42, .v (I addr))] .nil fun ac S => ?_
 refine S.hq 5 [5] [] [(44, .v (I v))] .nil fun ac S => ?_
 refine WD.one (i := 4) (by kernel_rfl) ?_
 refine S.stepq (i := 4) (keep := [10, 12, 40, 41, 43, 44]) (m := 3) (σ' := ⟨[(10, .p 1 0), (12, .p 2 0), (40, .v (slv (f_lookup h m g (f_addrPage addr) 2 true).1.mem.length q63.1)), (41, .v (I (f_lookup h m g (f_addrPage addr) 2 true).2.1)), (43, .v (I (f_addrCell addr))), (44, .v (I v))], [GT.cells h ph, Zc THost, [slv (f_lookup h m g (f_addrPage addr) 2 true).1.mem.length q63.1, slv (f_lookup h m g (f_addrPage addr) 2 true).1.mons.length q66.1, slv (f_lookup h m g (f_addrPage addr) 2 true).1.buf.length q69.1, slv (f_lookup h m g (f_addrPage addr) 2 true).1.iobuf.length q72.1]]⟩) (.cons (Q_call fun w hw => c_impl_AddrCell w addr haddr) .nil) (by kernel_rfl) fun ac w β S hβ => ?_
 refine WD.stayq S hβ ?_
 clear hβ
 refine WD.one (i := 6) (by kernel_rfl) ?_
 refine id (S.k1 45 (c_impl_WithCell w (f_lookup h m g (f_addrPage addr) 2 true).1.mem q63 (S.rd o62.rn) (f_lookup h m g (f_addrPage addr) 2 true).2.1 (f_addrCell addr) v hv) fun ac w N q234 F235 S up o236 d237 => ?_)
 refine WD.next S up (by kernel_rfl) ?_
 have d238 := Disj.w d237 o62.sub
 have d239 := Disj.w d237 o65.sub
 have d240 := Disj.w d237 o68.sub
 have d241 := Disj.w d237 o71.sub
 replace o62 := o62.up up
 replace o65 := o65.up up
 replace o68 := o68.up up
 replace o71 := o71.up up
 clear up d237
 refine S.hq 7 [7] [] [(45, .v (slv (f_withCell (f_lookup h m g (f_addrPage addr) 2 true).1.mem (f_lookup h m g (f_addrPage addr) 2 true).2.1 (f_addrCell addr) v).length q234.1)), (46, .p 2 0)] .nil fun ac S => ?_
 refine WD.one (i := 8) (by kernel_rfl) ?_
 refine S.stepq (i := 8) (keep := [10, 12]) (m := 3) (σ' := ⟨[(10, .p 1 0), (12, .p 2 0)], [GT.cells h ph, Zc THost, [slv (f_withCell (f_lookup h m g (f_addrPage addr) 2 true).1.mem (f_lookup h m g (f_addrPage addr) 2 true).2.1 (f_addrCell addr) v).length q234.1, slv (f_lookup h m g (f_addrPage addr) 2 true).1.mons.length q66.1, slv (f_lookup h m g (f_addrPage addr) 2 true).1.buf.length q69.1, slv (f_lookup h m g (f_addrPage addr) 2 true).1.iobuf.length q72.1]]⟩) .nil (by kernel_rfl) fun ac w β S hβ => ?_
 refine WD.last (by kernel_rfl) ?_
 clear hβ
 refine WD.done (by kernel_rfl) ?_ _
 refine S.ex fun S => ?_
 refine S.gr 9 .nil [GT.val (⟨(f_withCell (f_lookup h m g (f_addrPage addr) 2 true).1.mem (f_lookup h m g (f_addrPage addr) 2 true).2.1 (f_addrCell addr) v), (f_lookup h m g (f_addrPage addr) 2 true).1.mons, (f_lookup h m g (f_addrPage addr) 2 true).1.buf, (f_lookup h m g (f_addrPage addr) 2 true).1.iobuf⟩ : THost) (⟨q234, q66, q69, q72⟩ : PHost), B true] fun ac w β S => ?_
 have o242 := ow_Host (x := (⟨(f_withCell (f_lookup h m g (f_addrPage addr) 2 true).1.mem (f_lookup h m g (f_addrPage addr) 2 true).2.1 (f_addrCell addr) v), (f_lookup h m g (f_addrPage addr) 2 true).1.mons, (f_lookup h m g (f_addrPage addr) 2 true).1.buf, (f_lookup h m g (f_addrPage addr) 2 true).1.iobuf⟩ : THost)) (p := (⟨q234, q66, q69, q72⟩ : PHost)) o236 o65 o68 o71 (Disj.symm d239) (Disj.symm d240) (Disj.symm d241) (Disj.symm d148) (Disj.symm d150) d146 
 exact ret2_of (p' := ()) S (show (f_hostDma h m g addr v).1 = (⟨(f_withCell (f_lookup h m g (f_addrPage addr) 2 true).1.mem (f_lookup h m g (f_addrPage addr) 2 true).2.1 (f_addrCell addr) v), (f_lookup h m g (f_addrPage addr) 2 true).1.mons, (f_lookup h m g (f_addrPage addr) 2 true).1.buf, (f_lookup h m g (f_addrPage addr) 2 true).1.iobuf⟩ : THost) from k0_impl_HostDma) (show (f_hostDma h m g addr v).2 = true from k0_impl_HostDma) rfl rfl o242 trivial

theorem k0_impl_CellAt {p : Prop} (h : p := by clear S; (first | (unfold f_cellAt; rw [if_pos (by omega)]; done) | (unfold f_cellAt; rw [if_pos (by omega)]; first | rfl | (simp; done)) | (unfold f_cellAt; rw [if_neg (by omega)]; done) | (unfold f_cellAt; rw [if_neg (by omega)]; first | rfl | (simp; done)))) : p := h
theorem c_impl_CellAt (w0 : World) (m : List (List Int)) (pm : LP (List Int)) (hm : RD w0 m pm) (page : Int) (cell : Int) : Calls Try.prog 81 [slv m.length pm.1, I page, I cell].toArray w0 (fun e w' => e = .returned (I (f_cellAt m page cell)) ∧ Chg NoB w0 w') := by
 refine Calls.run NoB Try.func81 ?_
 intro ac β S
 have hlem : m.length ≤ 4194304 := LRd.le hm
 refine S.gb 14 (.cons (Q_call fun w hw => c_impl_has w page (m.length : Int) (by omega)) .nil) (!(f_within page 0 ((m.length : Int) - 1))) (fun ac w β h1 S => ?_) (fun ac w β h1 S => ?_)
 ·have h2 := not_t h1
  have g3 := within_f h2
  exact S.gf 18 .nil [I 0] (retI k0_impl_CellAt)
 have h4 := not_f h1
 have g5 := within_t h4
 have b6 : (el m page.toNat).length ≤ 4194304 := LRd.le (LRd.el (S.arg hm) page.toNat (by omega))
 refine S.gb 11 (.cons (qt (S.arg hm) page Try.underlying31) (.cons (qx (S.arg hm) 24 page.toNat) (.cons (Q_call fun w hw => c_impl_has w cell ((el m page.toNat).length : Int) (by omega)) .nil))) (!(f_within cell 0 (((el m page.toNat).length : Int) - 1))) (fun ac w β h7 S => ?_) (fun ac w β h7 S => ?_)
 ·have h8 := not_t h7
  have g9 := within_f h8
  exact S.gf 7 .nil [I 0] (retI k0_impl_CellAt)
 have h10 := not_f h7
 have g11 := within_t h10
 exact S.gf 16 (.cons (qt (S.arg hm) page Try.underlying31) (.cons (qx (S.arg hm) 24 page.toNat) (.cons (qt (LRd.el (S.arg hm) page.toNat (by omega)) cell Try.underlying24) (.cons (qx (LRd.el (S.arg hm) page.toNat (by omega)) 3 cell.toNat) .nil)))) [I (el (el m page.toNat) cell.toNat)] (retI k0_impl_CellAt)

theorem k0_impl_HostRead {p : Prop} (h : p := by clear S; (first | (rw [read_out (.inl (by assumption))]; done) | (rw [read_out (.inr (by assumption))]; done) | (rw [read_no rfl (by assumption)]; done) | (rw [read_no (by assumption) (by assumption)]; done) | (rw [read_yes rfl (by assumption) (by assumption)]; done) | (rw [read_yes (by assumption) (by assumption) (by assumption)]; done))) : p := h
theorem c_impl_HostRead (w0 : World) (h : THost) (ph : PHost) (hh : RD w0 h ph) (m : Int) (g : Int) (addr : Int) (haddr : In64 addr) : Calls Try.prog 39 [GT.val h ph, I m, I g, I addr].toArray w0 (Ret3 NoB w0 ((f_hostRead h m g addr).1 : THost) ((f_hostRead h m g addr).2.1 : Int) ((f_hostRead h m g addr).2.2 : Bool)) := by
 refine Calls.run NoB Try.func39 ?_
 intro ac β S
 have hleh_mem : h.mem.length ≤ 4194304 := LRd.le (RHost.mem (d := h) hh)
 have hleh_mons : h.mons.length ≤ 4194304 := LRd.le (RHost.mons (d := h) hh)
 have hleh_buf : h.buf.length ≤ 4194304 := LRd.le (RHost.buf (d := h) hh)
 have hleh_iobuf : h.iobuf.length ≤ 4194304 := LRd.le (RHost.iobuf (d := h) hh)
 have hloaddr := haddr.lo; have hhiaddr := haddr.hi
 refine S.go 9 .nil fun ac w β S => ?_
 refine drw ?_
 let σ1 : Sy := ⟨[(1, .v (I m)), (2, .v (I g)), (3, .v (I addr)), (4, .p 0 0), (8, .p 1 0)], [GT.cells h ph, Zc THost]⟩
 obtain ⟨u0, N0, β0, S⟩ : ∃ u0 N0 β0, St Try.prog Try.f39.ntmps w0 NoB u0 N0 β0 σ1 ac w := ⟨_, _, _, S.z⟩
 refine wp_region_cut (fun ac w => ∃ q69 F70 q72 F73 q63 F64 q66 F67 u N β, St Try.prog Try.f39.ntmps w0 NoB u N β (σ1.dl [1, 2] [(11, .p 2 0), (12, .v (I (f_lookup h m g (f_addrPage addr) 1 true).2.1)), (13, .v (B (f_lookup h m g (f_addrPage addr) 1 true).2.2))] 3 [(2, [slv (f_lookup h m g (f_addrPage addr) 1 true).1.mem.length q63.1, slv (f_lookup h m g (f_addrPage addr) 1 true).1.mons.length q66.1, slv (f_lookup h m g (f_addrPage addr) 1 true).1.buf.length q69.1, slv (f_lookup h m g (f_addrPage addr) 1 true).1.iobuf.length q72.1])]) ac w ∧ Ow w0 NoB u N F70 (f_lookup h m g (f_addrPage addr) 1 true).1.buf q69 ∧ Ow w0 NoB u N F73 (f_lookup h m g (f_addrPage addr) 1 true).1.iobuf q72 ∧ Ow w0 NoB u N F64 (f_lookup h m g (f_addrPage addr) 1 true).1.mem q63 ∧ Ow w0 NoB u N F67 (f_lookup h m g (f_addrPage addr) 1 true).1.mons q66 ∧ Disj F70 F73 ∧ Disj F70 F64 ∧ Disj F70 F67 ∧ Disj F73 F64 ∧ Disj F73 F67 ∧ Disj F64 F67) ?_ ?_
 ·refine S.draw0 (f := 14) 11 (by kernel_rfl) (by kernel_rfl) fun w S => ?_
  refine S.hq 0 [0] [] [(15, .v (GT.val h ph))] .nil fun ac S => ?_
  refine S.hq 1 [1] [] [(16, .v (I m))] .nil fun ac S => ?_
  refine S.hq 2 [2] [] [(17, .v (I g))] .nil fun ac S => ?_
  refine S.hq 3 [3] [] [(18, .v (I addr))] .nil fun ac S => ?_
  refine WD.nameW fun W hW => ?_
  refine WD.castW (l' := mkL 14 [0, 1, 2, 3]) (by kernel_rfl) ?_
  have hK74 ac w q69 F70 q72 F73 q63 F64 q66 F67 u N β (S : St Try.prog Try.f39.ntmps w0 NoB u N β (σ1.dl [1, 2] [(11, .p 2 0), (12, .v (I (f_lookup h m g (f_addrPage addr) 1 true).2.1)), (13, .v (B (f_lookup h m g (f_addrPage addr) 1 true).2.2))] 3 [(2, [slv (f_lookup h m g (f_addrPage addr) 1 true).1.mem.length q63.1, slv (f_lookup h m g (f_addrPage addr) 1 true).1.mons.length q66.1, slv (f_lookup h m g (f_addrPage addr) 1 true).1.buf.length q69.1, slv (f_lookup h m g (f_addrPage addr) 1 true).1.iobuf.length q72.1])]) ac w) (o68 : Ow w0 NoB u N F70 (f_lookup h m g (f_addrPage addr) 1 true).1.buf q69) (o71 : Ow w0 NoB u N F73 (f_lookup h m g (f_addrPage addr) 1 true).1.iobuf q72) (o62 : Ow w0 NoB u N F64 (f_lookup h m g (f_addrPage addr) 1 true).1.mem q63) (o65 : Ow w0 NoB u N F67 (f_lookup h m g (f_addrPage addr) 1 true).1.mons q66) (d75 : Disj F70 F73) (d76 : Disj F70 F64) (d77 : Disj F70 F67) (d78 : Disj F73 F64) (d79 : Disj F73 F67) (d80 : Disj F64 F67) : W 0 (mkL 14 [0, 1, 2, 3, 4, 5, 6, 7, 8, 9, 10, 11, 12, 13]) ac w := by
   exact od hW ⟨rfl, q69, F70, q72, F73, q63, F64, q66, F67, _, _, _, S.z, o68, o71, o62, o65, d75, d76, d77, d78, d79, d80⟩
  have hK81 ac w q33 F34 q36 F37 q27 F28 q30 F31 u N β (S : St Try.prog Try.f39.ntmps w0 NoB u N β (σ1.dl [1, 2] [(11, .p 2 0), (21, .v (GT.val (f_lookup h m g (f_addrPage addr) 1 true).1 (⟨q27, q30, q33, q36⟩ : PHost))), (22, .v (I (f_lookup h m g (f_addrPage addr) 1 true).2.1)), (23, .v (B (f_lookup h m g (f_addrPage addr) 1 true).2.2))] 3 [(2, Zc THost)]) ac w) (o32 : Ow w0 NoB u N F34 (f_lookup h m g (f_addrPage addr) 1 true).1.buf q33) (o35 : Ow w0 NoB u N F37 (f_lookup h m g (f_addrPage addr) 1 true).1.iobuf q36) (o26 : Ow w0 NoB u N F28 (f_lookup h m g (f_addrPage addr) 1 true).1.mem q27) (o29 : Ow w0 NoB u N F31 (f_lookup h m g (f_addrPage addr) 1 true).1.mons q30) (d82 : Disj F34 F37) (d83 : Disj F34 F28) (d84 : Disj F34 F31) (d85 : Disj F37 F28) (d86 : Disj F37 F31) (d87 : Disj F28 F31) (hNN : NN N0 u0 N u) (hBB : BB σ1.bx.length β0 β) : W 3 (mkL 14 [0, 1, 2, 3, 4, 5, 6, 7, 8, 9, 10]) ac w := by
   exact ox1 hW 11 (S.wl hW [12, 13] .nil fun _ _ _ S => hK74 _ _ q33 F34 q36 F37 q27 F28 q30 F31 _ _ _ S o32 o35 o26 o29 d82 d83 d84 d85 d86 d87)
  have hK88 ac w q33 F34 q36 F37 q27 F28 q30 F31 u N β (S : St Try.prog Try.f39.ntmps w0 NoB u N β (σ1.dl [1, 2] [(21, .v (GT.val (f_lookup h m g (f_addrPage addr) 1 true).1 (⟨q27, q30, q33, q36⟩ : PHost))), (22, .v (I (f_lookup h m g (f_addrPage addr) 1 true).2.1)), (23, .v (B (f_lookup h m g (f_addrPage addr) 1 true).2.2))] 2 []) ac w) (o32 : Ow w0 NoB u N F34 (f_lookup h m g (f_addrPage addr) 1 true).1.buf q33) (o35 : Ow w0 NoB u N F37 (f_lookup h m g (f_addrPage addr) 1 true).1.iobuf q36) (o26 : Ow w0 NoB u N F28 (f_lookup h m g (f_addrPage addr) 1 true).1.mem q27) (o29 : Ow w0 NoB u N F31 (f_lookup h m g (f_addrPage addr) 1 true).1.mons q30) (d89 : Disj F34 F37) (d90 : Disj F34 F28) (d91 : Disj F34 F31) (d92 : Disj F37 F28) (d93 : Disj F37 F31) (d94 : Disj F28 F31) (hNN : NN N0 u0 N u) (hBB : BB σ1.bx.length β0 β) : W 4 (mkL 14 [0, 1, 2, 3, 4, 5, 6, 7, 8, 9]) ac w := by
   exact ox1 hW 10 (S.wq hW hNN hBB [] .nil fun _ _ _ S hB => hK81 _ _ q33 F34 q36 F37 q27 F28 q30 F31 _ _ _ S o32 o35 o26 o29 d89 d90 d91 d92 d93 d94 hNN hB)
  have hK95 ac w u N β (S : St Try.prog Try.f39.ntmps w0 NoB u N β (σ1.dl [1, 2] [(11, .p 2 0), (15, .v (GT.val h ph)), (16, .v (I m)), (17, .v (I g)), (19, .v (I (f_addrPage addr)))] 3 [(2, Zc THost)]) ac w) (hNN : NN N0 u0 N u) (hBB : BB σ1.bx.length β0 β) : W 8 (mkL 14 [0, 1, 2, 3, 4, 10]) ac w := by
   refine ox1 hW 5 ?_
   refine id (S.call3 (r := (f_lookup h m g (f_addrPage addr) 1 true).1) (r' := (f_lookup h m g (f_addrPage addr) 1 true).2.1) (r'' := (f_lookup h m g (f_addrPage addr) 1 true).2.2) (d := 20) (c_impl_IoLookup w h ph (S.rd (S.arg hh)) m g (f_addrPage addr) (addrPage_in64 haddr) 1) (by kernel_rfl) rfl fun ac w N q96 F97 S up o98 d99 i100 => ?_)
   have hb101 := fun b h => (⟨(up b (hNN b h).1).1, (up b (hNN b h).1).2.trans (hNN b h).2⟩ : _ ∧ _)
   refine WD.sc S hb101 hBB fun hC => ?_
   clear up d99
   obtain ⟨F102, F105, F108, F111, o103, o106, o109, o112, s104, s107, s110, s113, d114, d115, d116, d117, d118, d119⟩ := sp_Host o98
   exact S.wh hW [6, 7, 8, 9] hC fun _ S => hK81 _ _ q96.buf F108 q96.iobuf F111 q96.mem F102 q96.mons F105 _ _ _ S o109 o112 o103 o106 d119 (Disj.symm d115) (Disj.symm d117) (Disj.symm d116) (Disj.symm d118) d114 hb101 hBB
  have hK120 ac w u N β (S : St Try.prog Try.f39.ntmps w0 NoB u N β (σ1.dl [1, 2] [(15, .v (GT.val h ph)), (16, .v (I m)), (17, .v (I g)), (19, .v (I (f_addrPage addr)))] 2 []) ac w) (hNN : NN N0 u0 N u) (hBB : BB σ1.bx.length β0 β) : W 9 (mkL 14 [0, 1, 2, 3, 4]) ac w := by
   refine ox2 hW 5 10 ?_ (S.wq hW hNN hBB [] .nil fun _ _ _ S hB => hK95 _ _ _ _ _ S hNN hB)
   refine id (S.call3 (r := (f_lookup h m g (f_addrPage addr) 1 true).1) (r' := (f_lookup h m g (f_addrPage addr) 1 true).2.1) (r'' := (f_lookup h m g (f_addrPage addr) 1 true).2.2) (d := 20) (c_impl_IoLookup w h ph (S.rd (S.arg hh)) m g (f_addrPage addr) (addrPage_in64 haddr) 1) (by kernel_rfl) rfl fun ac w N q121 F122 S up o123 d124 i125 => ?_)
   have hb126 := fun b h => (⟨(up b (hNN b h).1).1, (up b (hNN b h).1).2.trans (hNN b h).2⟩ : _ ∧ _)
   refine WD.sc S hb126 hBB fun hC => ?_
   clear up d124
   obtain ⟨F127, F130, F133, F136, o128, o131, o134, o137, s129, s132, s135, s138, d139, d140, d141, d142, d143, d144⟩ := sp_Host o123
   exact S.wh hW [6, 7, 8, 9] hC fun _ S => hK88 _ _ q121.buf F133 q121.iobuf F136 q121.mem F127 q121.mons F130 _ _ _ S o134 o137 o128 o131 d144 (Disj.symm d140) (Disj.symm d142) (Disj.symm d141) (Disj.symm d143) d139 hb126 hBB
  have hK145 ac w u N β (S : St Try.prog Try.f39.ntmps w0 NoB u N β (σ1.dl [1, 2] [(11, .p 2 0), (15, .v (GT.val h ph)), (16, .v (I m)), (17, .v (I g)), (18, .v (I addr))] 3 [(2, Zc THost)]) ac w) (hNN : NN N0 u0 N u) (hBB : BB σ1.bx.length β0 β) : W 9 (mkL 14 [0, 1, 2, 3, 10]) ac w := by
   exact ox1 hW 4 (S.wq hW hNN hBB [] (.cons (Q_call fun w hw => c_impl_AddrPage w addr haddr) .nil) fun _ _ _ S hB => hK95 _ _ _ _ _ S hNN hB)
  have hNN : NN N0 u0 N0 u0 := fun b h => ⟨h, rfl⟩
  have hBB : BB σ1.bx.length β0 β0 := fun _ _ => rfl
  exact ox2 hW 4 10 (S.wq hW hNN hBB [] (.cons (Q_call fun w hw => c_impl_AddrPage w addr haddr) .nil) fun _ _ _ S hB => hK120 _ _ _ _ _ S hNN hB) (S.wq hW hNN hBB [] .nil fun _ _ _ S hB => hK145 _ _ _ _ _ S hNN hB)
 clear S
 rintro ac w ⟨q69, F70, q72, F73, q63, F64, q66, F67, u, N, β, S, o68, o71, o62, o65, d146, d147, d148, d149, d150, d151⟩
 refine S.ex fun S => ?_
 refine S.gb 8 (.cons (Q_call fun w hw => c_impl_within w addr 0 15) .nil) (!(f_within addr 0 15)) (fun ac w β h152 S => ?_) (fun ac w β h152 S => ?_)
 ·have h153 := not_t h152
  have g154 := within_f h153
  refine S.go 9 .nil fun ac w β S => S.K1 (r := h) (d := 32) (c_impl_copyHost w h ph (S.rd (S.arg hh))) fun ac w N q155 F156 S up o157 d158 => ?_
  clear up d158
  obtain ⟨F159, F162, F165, F168, o160, o163, o166, o169, s161, s164, s167, s170, d171, d172, d173, d174, d175, d176⟩ := sp_Host o157
  refine S.gr 6 .nil [GT.val h q155, I 0, B false] fun ac w β S => ?_
  have o177 := ow_Host (x := h) (p := q155) o160 o163 o166 o169 d171 d172 d173 d174 d175 d176 
  exact ret3_of (p' := ()) (p'' := ()) S (show (f_hostRead h m g addr).1 = h from k0_impl_HostRead) (show (f_hostRead h m g addr).2.1 = 0 from k0_impl_HostRead) (show (f_hostRead h m g addr).2.2 = false from k0_impl_HostRead) rfl rfl rfl o177 (show In64 0 from ⟨by decide, by decide⟩) trivial
 have h178 := not_f h152
 have g179 := within_t h178
 refine S.gb 5 .nil (!(f_lookup h m g (f_addrPage addr) 1 true).2.2) (fun ac w β h180 S => ?_) (fun ac w β h180 S => ?_)
 ·have h181 := not_t h180
  refine S.go 4 .nil fun ac w β S => S.K1 (r := h) (d := 32) (c_impl_copyHost w h ph (S.rd (S.arg hh))) fun ac w N q182 F183 S up o184 d185 => ?_
  clear up d185
  obtain ⟨F186, F189, F192, F195, o187, o190, o193, o196, s188, s191, s194, s197, d198, d199, d200, d201, d202, d203⟩ := sp_Host o184
  refine S.gr 6 .nil [GT.val h q182, I 0, B false] fun ac w β S => ?_
  have o204 := ow_Host (x := h) (p := q182) o187 o190 o193 o196 d198 d199 d200 d201 d202 d203 
  exact ret3_of (p' := ()) (p'' := ()) S (show (f_hostRead h m g addr).1 = h from k0_impl_HostRead) (show (f_hostRead h m g addr).2.1 = 0 from k0_impl_HostRead) (show (f_hostRead h m g addr).2.2 = false from k0_impl_HostRead) rfl rfl rfl o204 (show In64 0 from ⟨by decide, by decide⟩) trivial
 have h205 := not_f h180
 refine S.go 4 .nil fun ac w β S => ?_
 refine drw ?_
 refine S.draw0 (f := 10) 7 (by kernel_rfl) (by kernel_rfl) fun w S => ?_
 refine S.hq 0 [0] [] [(33, .v (GT.val (f_lookup h m g (f_addrPage addr) 1 true).1 (⟨q63, q66, q69, q72⟩ : PHost)))] .nil fun ac S => ?_
 refine S.hq 1 [6, 2, 1] [] [(34, .p 2 0)] .nil fun ac S => ?_
 refine S.hq 2 [6, 2] [] [(35, .v (slv (f_lookup h m g (f_addrPage addr) 1 true).1.mem.length q63.1))] .nil fun ac S => ?_
 refine S.hq 3 [6, 3] [] [(36, .v (I (f_lookup h m g (f_addrPage addr) 1 true).2.1))] .nil fun ac S => ?_
 refine S.hq 4 [6, 5, 4] [] [(37, .v (I addr))] .nil fun ac S => ?_
 refine WD.one (i := 5) (by kernel_rfl) ?_
 refine S.stepq (i := 5) (keep := [8, 33, 35, 36, 38]) (m := 3) (σ' := ⟨[(8, .p 1 0), (33, .v (GT.val (f_lookup h m g (f_addrPage addr) 1 true).1 (⟨q63, q66, q69, q72⟩ : PHost))), (35, .v (slv (f_lookup h m g (f_addrPage addr) 1 true).1.mem.length q63.1)), (36, .v (I (f_lookup h m g (f_addrPage addr) 1 true).2.1)), (38, .v (I (f_addrCell addr)))], [GT.cells h ph, Zc THost, [slv (f_lookup h m g (f_addrPage addr) 1 true).1.mem.length q63.1, slv (f_lookup h m g (f_addrPage addr) 1 true).1.mons.length q66.1, slv (f_lookup h m g (f_addrPage addr) 1 true).1.buf.length q69.1, slv (f_lookup h m g (f_addrPage addr) 1 true).1.iobuf.length q72.1]]⟩) (.cons (Q_call fun w hw => c_impl_AddrCell w addr haddr) .nil) (by kernel_rfl) fun ac w β S hβ => ?_
 refine WD.stayq S hβ ?_
 clear hβ
 refine WD.one (i := 6) (by kernel_rfl) ?_
 refine S.stepq (i := 6) (keep := [8, 33, 39]) (m := 3) (σ' := ⟨[(8, .p 1 0), (33, .v (GT.val (f_lookup h m g (f_addrPage addr) 1 true).1 (⟨q63, q66, q69, q72⟩ : PHost))), (39, .v (I (f_cellAt (f_lookup h m g (f_addrPage addr) 1 true).1.mem (f_lookup h m g (f_addrPage addr) 1 true).2.1 (f_addrCell addr))))], [GT.cells h ph, Zc THost, [slv (f_lookup h m g (f_addrPage addr) 1 true).1.mem.length q63.1, slv (f_lookup h m g (f_addrPage addr) 1 true).1.mons.length q66.1, slv (f_lookup h m g (f_addrPage addr) 1 true).1.buf.length q69.1, slv (f_lookup h m g (f_addrPage addr) 1 true).1.iobuf.length q72.1]]⟩) (.cons (Q_call fun w hw => c_impl_CellAt w (f_lookup h m g (f_addrPage addr) 1 true).1.mem q63 (rd_of o62.rn hw) (f_lookup h m g (f_addrPage addr) 1 true).2.1 (f_addrCell addr)) .nil) (by kernel_rfl) fun ac w β S hβ => ?_
 refine WD.stayq S hβ ?_
 clear hβ
 refine WD.one (i := 7) (by kernel_rfl) ?_
 refine S.stepq (i := 7) (keep := [8, 39]) (m := 3) (σ' := ⟨[(8, .p 1 0), (39, .v (I (f_cellAt (f_lookup h m g (f_addrPage addr) 1 true).1.mem (f_lookup h m g (f_addrPage addr) 1 true).2.1 (f_addrCell addr))))], [GT.cells h ph, [slv (f_lookup h m g (f_addrPage addr) 1 true).1.mem.length q63.1, slv (f_lookup h m g (f_addrPage addr) 1 true).1.mons.length q66.1, slv (f_lookup h m g (f_addrPage addr) 1 true).1.buf.length q69.1, slv (f_lookup h m g (f_addrPage addr) 1 true).1.iobuf.length q72.1], [slv (f_lookup h m g (f_addrPage addr) 1 true).1.mem.length q63.1, slv (f_lookup h m g (f_addrPage addr) 1 true).1.mons.length q66.1, slv (f_lookup h m g (f_addrPage addr) 1 true).1.buf.length q69.1, slv (f_lookup h m g (f_addrPage addr) 1 true).1.iobuf.length q72.1]]⟩) .nil (by kernel_rfl) fun ac w β S hβ => ?_
 refine WD.last (by kernel_rfl) ?_
 clear hβ
 refine WD.one (i := 8) (by kernel_rfl) ?_
 refine S.stepq (i := 8) (keep := [8, 9]) (m := 3) (σ' := ⟨[(8, .p 1 0), (9, .v (I (f_cellAt (f_lookup h m g (f_addrPage addr) 1 true).1.mem (f_lookup h m g (f_addrPage addr) 1 true).2.1 (f_addrCell addr))))], [GT.cells h ph, [slv (f_lookup h m g (f_addrPage addr) 1 true).1.mem.length q63.1, slv (f_lookup h m g (f_addrPage addr) 1 true).1.mons.length q66.1, slv (f_lookup h m g (f_addrPage addr) 1 true).1.buf.length q69.1, slv (f_lookup h m g (f_addrPage addr) 1 true).1.iobuf.length q72.1], [slv (f_lookup h m g (f_addrPage addr) 1 true).1.mem.length q63.1, slv (f_lookup h m g (f_addrPage addr) 1 true).1.mons.length q66.1, slv (f_lookup h m g (f_addrPage addr) 1 true).1.buf.length q69.1, slv (f_lookup h m g (f_addrPage addr) 1 true).1.iobuf.length q72.1]]⟩) .nil (by kernel_rfl) fun ac w β S hβ => ?_
 refine WD.last (by kernel_rfl) ?_
 clear hβ
 refine WD.one (i := 9) (by kernel_rfl) ?_
 refine S.stepq (i := 9) (keep := [8, 9, 10]) (m := 3) (σ' := ⟨[(8, .p 1 0), (9, .v (I (f_cellAt (f_lookup h m g (f_addrPage addr) 1 true).1.mem (f_lookup h m g (f_addrPage addr) 1 true).2.1 (f_addrCell addr)))), (10, .v (B true))], [GT.cells h ph, [slv (f_lookup h m g (f_addrPage addr) 1 true).1.mem.length q63.1, slv (f_lookup h m g (f_addrPage addr) 1 true).1.mons.length q66.1, slv (f_lookup h m g (f_addrPage addr) 1 true).1.buf.length q69.1, slv (f_lookup h m g (f_addrPage addr) 1 true).1.iobuf.length q72.1], [slv (f_lookup h m g (f_addrPage addr) 1 true).1.mem.length q63.1, slv (f_lookup h m g (f_addrPage addr) 1 true).1.mons.length q66.1, slv (f_lookup h m g (f_addrPage addr) 1 true).1.buf.length q69.1, slv (f_lookup h m g (f_addrPage addr) 1 true).1.iobuf.length q72.1]]⟩) .nil (by kernel_rfl) fun ac w β S hβ => ?_
 refine WD.last (by kernel_rfl) ?_
 clear hβ
 refine WD.done (by kernel_rfl) ?_ _
 refine S.ex fun S => ?_
 refine S.gr 2 .nil [GT.val (f_lookup h m g (f_addrPage addr) 1 true).1 (⟨q63, q66, q69, q72⟩ : PHost), I (f_cellAt (f_lookup h m g (f_addrPage addr) 1 true).1.mem (f_lookup h m g (f_addrPage addr) 1 true).2.1 (f_addrCell addr)), B true] fun ac w β S => ?_
 have o206 := ow_Host (x := (f_lookup h m g (f_addrPage addr) 1 true).1) (p := (⟨q63, q66, q69, q72⟩ : PHost)) o62 o65 o68 o71 d151 (Disj.symm d147) (Disj.symm d149) (Disj.symm d148) (Disj.symm d150) d146 
 exact ret3_of (p' := ()) (p'' := ()) S (show (f_hostRead h m g addr).1 = (f_lookup h m g (f_addrPage addr) 1 true).1 from k0_impl_HostRead) (show (f_hostRead h m g addr).2.1 = (f_cellAt (f_lookup h m g (f_addrPage addr) 1 true).1.mem (f_lookup h m g (f_addrPage addr) 1 true).2.1 (f_addrCell addr)) from k0_impl_HostRead) (show (f_hostRead h m g addr).2.2 = true from k0_impl_HostRead) rfl rfl rfl o206 (cellAt_in64 o62.rn (f_lookup h m g (f_addrPage addr) 1 true).2.1 (f_addrCell addr)) trivial

theorem k0_laws_FnTakenBack {p : Prop} (h : p := by clear S; first | rfl | (have hz := taken_ok (by omega) hT1 hT2 hT3 hT4 hT5 hT6 hT7 hT8 hT9; simp_all; done)) : p := h
theorem c_laws_FnTakenBack (w0 : World) (code : List TByte) (pcode : LP TByte) (hcode : GT.rd KR (Lt w0.heap.size) w0 code pcode) : Calls Try.prog 5 [slv code.length pcode.1].toArray w0 (fun e w' => e = .returned (B true) ∧ Chg NoB w0 w') := by
 refine Calls.run NoB Try.func5 ?_
 intro ac β S
 have hlecode : code.length ≤ 9223372036854775807 := LRd.le hcode
 refine S.gb 12 (.cons (Q_call fun w hw => c_laws_big w code pcode (rd_of (S.arg hcode) hw)) .nil) (decide (((code.length : Nat) : Int) > 1048576)) (fun ac w β h1 S => ?_) (fun ac w β h1 S => ?_)
 ·exact S.gf 7 .nil [B true] (retB k0_laws_FnTakenBack)
 have hcl : code.length ≤ 1048576 := by have hx := of_decide_eq_false h1; omega
 have hkcode : RD w0 code pcode := cutB hcode hcl
 refine S.go 6 .nil fun ac w β S => S.KE (d := 15) (c_spec_DrawPlaces w code pcode (S.rd (S.arg hkcode)) (by omega)) fun ac w N p2 q3 F4 ⟨h7, h8⟩ S up o5 d6 => ?_
 clear up d6
 have l9 := el_pl h7 h8 0
 refine S.go 15 (.cons (qn o5.rn 0 Try.underlying24) (.cons (qx o5.rn 3 0) (.cons (Q_rem (x := (el p2 0)) (y := 16) (by decide)) (.cons (Q_sem (s := Instr.build 27 [(0, I 7)].toArray) (v := .agg [I 7, I 0].toArray) (fun w => by kernel_rfl)) .nil)))) fun ac w β S => S.B1 (α := TIns) (x := (⟨7, 0⟩ : TIns)) (p := ()) (F := NoB) (show RIns (⟨7, 0⟩ : TIns) from ⟨(show In64 7 from ⟨by decide, by decide⟩), (show In64 0 from ⟨by decide, by decide⟩)⟩) (fun b h => False.elim h) (fun b h => False.elim h) (d := 21) fun ac w N q10 F11 S up o12 d13 => ?_
 clear up d13
 refine S.B1 (α := List TIns) (x := [(⟨7, 0⟩ : TIns)]) (p := q10) o12.own o12.sub o12.young (d := 22) fun ac w N q14 F15 S up o16 d17 => ?_
 clear up d17
 refine S.B1 (α := List (List TIns)) (x := [[(⟨7, 0⟩ : TIns)]]) (p := q14) o16.own o16.sub o16.young (d := 23) fun ac w N q18 F19 S up o20 d21 => ?_
 clear up d21
 obtain ⟨Y1, hT1⟩ : ∃ z, z = f_hostNew ([[[(⟨7, 0⟩ : TIns)]]]) := ⟨_, rfl⟩
 refine S.K1 (r := Y1) (d := 24) (by rw [hT1]; exact c_spec_HostNew w ([[[(⟨7, 0⟩ : TIns)]]]) q18 (S.rd o20.rn)) fun ac w N q22 F23 S up o24 d25 => ?_
 have d26 := Disj.w d25 o20.sub
 replace o20 := o20.up up
 clear up d25
 obtain ⟨F27, F30, F33, F36, o28, o31, o34, o37, s29, s32, s35, s38, d39, d40, d41, d42, d43, d44⟩ := sp_Host o24
 obtain ⟨Y2, hT2⟩ : ∃ z, z = f_hostSet Y1 0 0 (Int.tdiv (Int.tmod (el p2 0) 16) 4) (⟨3, 3⟩ : TSlot) := ⟨_, rfl⟩
 refine S.go 10 (.cons (Q_quo (x := (Int.tmod (el p2 0) 16)) (y := 4) (by decide) (tdiv4_in64 (tmod_in64 (by decide)) (by omega))) (.cons (Q_sem (s := Instr.build 54 [(0, I 3), (1, I 3)].toArray) (v := .agg [I 3, I 3].toArray) (fun w => by kernel_rfl)) .nil)) fun ac w β S => S.K2 (r := Y2.1) (r' := Y2.2) (d := 30) (by rw [hT2]; exact c_impl_HostSet w Y1 q22 (S.rd (show GT.rd KK _ _ Y1 q22 from ⟨o28.rn, o31.rn, o34.rn, o37.rn⟩)) 0 0 (show In64 0 from ⟨by decide, by decide⟩) (Int.tdiv (Int.tmod (el p2 0) 16) 4) (tdiv4_in64 (tmod_in64 (by decide)) (by omega)) (⟨3, 3⟩ : TSlot) (show RSlot (⟨3, 3⟩ : TSlot) from ⟨(show In64 3 from ⟨by decide, by decide⟩), (show In64 3 from ⟨by decide, by decide⟩)⟩)) fun ac w N q45 q46 F47 F48 S up o49 o50 d51 d52 d53 => ?_
 have d54 := Disj.w d52 o28.sub
 have d55 := Disj.w d52 o31.sub
 have d56 := Disj.w d52 o34.sub
 have d57 := Disj.w d52 o37.sub
 have d58 := Disj.w d51 o28.sub
 have d59 := Disj.w d51 o31.sub
 have d60 := Disj.w d51 o34.sub
 have d61 := Disj.w d51 o37.sub
 replace o28 := o28.up up
 replace o31 := o31.up up
 replace o34 := o34.up up
 replace o37 := o37.up up
 clear up d51
 clear d52
 obtain ⟨F62, F65, F68, F71, o63, o66, o69, o72, s64, s67, s70, s73, d74, d75, d76, d77, d78, d79⟩ := sp_Host o49
 obtain ⟨Y3, hT3⟩ : ∃ z, z = f_hostFlush Y2.1 0 0 (Int.tdiv (Int.tmod (el p2 0) 16) 4) := ⟨_, rfl⟩
 refine S.go 11 (.cons (Q_quo (x := (Int.tmod (el p2 0) 16)) (y := 4) (by decide) (tdiv4_in64 (tmod_in64 (by decide)) (by omega))) .nil) fun ac w β S => S.K2 (r := Y3.1) (r' := Y3.2) (d := 37) (by rw [hT3]; exact c_impl_HostFlush w Y2.1 q45 (S.rd (show GT.rd KK _ _ Y2.1 q45 from ⟨o63.rn, o66.rn, o69.rn, o72.rn⟩)) 0 0 (show In64 0 from ⟨by decide, by decide⟩) (Int.tdiv (Int.tmod (el p2 0) 16) 4) (tdiv4_in64 (tmod_in64 (by decide)) (by omega))) fun ac w N q80 q81 F82 F83 S up o84 o85 d86 d87 d88 => ?_
 have d89 := Disj.w d87 o63.sub
 have d90 := Disj.w d87 o66.sub
 have d91 := Disj.w d87 o69.sub
 have d92 := Disj.w d87 o72.sub
 have d93 := Disj.w d86 o63.sub
 have d94 := Disj.w d86 o66.sub
 have d95 := Disj.w d86 o69.sub
 have d96 := Disj.w d86 o72.sub
 replace o63 := o63.up up
 replace o66 := o66.up up
 replace o69 := o69.up up
 replace o72 := o72.up up
 clear up d86
 clear d87
 obtain ⟨F97, F100, F103, F106, o98, o101, o104, o107, s99, s102, s105, s108, d109, d110, d111, d112, d113, d114⟩ := sp_Host o84
 obtain ⟨Y4, hT4⟩ : ∃ z, z = f_hostDma Y3.1 0 0 (Int.tmod (el p2 0) 16) 11 := ⟨_, rfl⟩
 refine S.go 10 .nil fun ac w β S => S.K2 (r := Y4.1) (r' := Y4.2) (d := 43) (by rw [hT4]; exact c_impl_HostDma w Y3.1 q80 (S.rd (show GT.rd KK _ _ Y3.1 q80 from ⟨o98.rn, o101.rn, o104.rn, o107.rn⟩)) 0 0 (Int.tmod (el p2 0) 16) (tmod_in64 (by decide)) 11 (show In64 11 from ⟨by decide, by decide⟩)) fun ac w N q115 q116 F117 F118 S up o119 o120 d121 d122 d123 => ?_
 have d124 := Disj.w d122 o98.sub
 have d125 := Disj.w d122 o101.sub
 have d126 := Disj.w d122 o104.sub
 have d127 := Disj.w d122 o107.sub
 have d128 := Disj.w d121 o98.sub
 have d129 := Disj.w d121 o101.sub
 have d130 := Disj.w d121 o104.sub
 have d131 := Disj.w d121 o107.sub
 replace o98 := o98.up up
 replace o101 := o101.up up
 replace o104 := o104.up up
 replace o107 := o107.up up
 clear up d121
 clear d122
 obtain ⟨F132, F135, F138, F141, o133, o136, o139, o142, s134, s137, s140, s143, d144, d145, d146, d147, d148, d149⟩ := sp_Host o119
 obtain ⟨Y5, hT5⟩ : ∃ z, z = f_hostSet Y4.1 0 0 (Int.tdiv (Int.tmod (el p2 0) 16) 4) (⟨3, 1⟩ : TSlot) := ⟨_, rfl⟩
 refine S.go 13 (.cons (Q_quo (x := (Int.tmod (el p2 0) 16)) (y := 4) (by decide) (tdiv4_in64 (tmod_in64 (by decide)) (by omega))) (.cons (Q_sem (s := Instr.build 54 [(0, I 3), (1, I 1)].toArray) (v := .agg [I 3, I 1].toArray) (fun w => by kernel_rfl)) .nil)) fun ac w β S => S.K2 (r := Y5.1) (r' := Y5.2) (d := 51) (by rw [hT5]; exact c_impl_HostSet w Y4.1 q115 (S.rd (show GT.rd KK _ _ Y4.1 q115 from ⟨o133.rn, o136.rn, o139.rn, o142.rn⟩)) 0 0 (show In64 0 from ⟨by decide, by decide⟩) (Int.tdiv (Int.tmod (el p2 0) 16) 4) (tdiv4_in64 (tmod_in64 (by decide)) (by omega)) (⟨3, 1⟩ : TSlot) (show RSlot (⟨3, 1⟩ : TSlot) from ⟨(show In64 3 from ⟨by decide, by decide⟩), (show In64 1 from ⟨by decide, by decide⟩)⟩)) fun ac w N q150 q151 F152 F153 S up o154 o155 d156 d157 d158 => ?_
 have d159 := Disj.w d157 o133.sub
 have d160 := Disj.w d157 o136.sub
 have d161 := Disj.w d157 o139.sub
 have d162 := Disj.w d157 o142.sub
 have d163 := Disj.w d156 o133.sub
 have d164 := Disj.w d156 o136.sub
 have d165 := Disj.w d156 o139.sub
 have d166 := Disj.w d156 o142.sub
 replace o133 := o133.up up
 replace o136 := o136.up up
 replace o139 := o139.up up
 replace o142 := o142.up up
 clear up d156
 clear d157
 obtain ⟨F167, F170, F173, F176, o168, o171, o174, o177, s169, s172, s175, s178, d179, d180, d181, d182, d183, d184⟩ := sp_Host o154
 obtain ⟨Y6, hT6⟩ : ∃ z, z = f_hostDma Y5.1 0 0 (Int.tmod (el p2 0) 16) 22 := ⟨_, rfl⟩
 refine S.go 10 .nil fun ac w β S => S.K2 (r := Y6.1) (r' := Y6.2) (d := 57) (by rw [hT6]; exact c_impl_HostDma w Y5.1 q150 (S.rd (show GT.rd KK _ _ Y5.1 q150 from ⟨o168.rn, o171.rn, o174.rn, o177.rn⟩)) 0 0 (Int.tmod (el p2 0) 16) (tmod_in64 (by decide)) 22 (show In64 22 from ⟨by decide, by decide⟩)) fun ac w N q185 q186 F187 F188 S up o189 o190 d191 d192 d193 => ?_
 have d194 := Disj.w d192 o168.sub
 have d195 := Disj.w d192 o171.sub
 have d196 := Disj.w d192 o174.sub
 have d197 := Disj.w d192 o177.sub
 have d198 := Disj.w d191 o168.sub
 have d199 := Disj.w d191 o171.sub
 have d200 := Disj.w d191 o174.sub
 have d201 := Disj.w d191 o177.sub
 replace o168 := o168.up up
 replace o171 := o171.up up
 replace o174 := o174.up up
 replace o177 := o177.up up
 clear up d191
 clear d192
 obtain ⟨F202, F205, F208, F211, o203, o206, o209, o212, s204, s207, s210, s213, d214, d215, d216, d217, d218, d219⟩ := sp_Host o189
 obtain ⟨Y7, hT7⟩ : ∃ z, z = f_hostFlush Y6.1 0 0 (Int.tdiv (Int.tmod (el p2 0) 16) 4) := ⟨_, rfl⟩
 refine S.go 12 (.cons (Q_quo (x := (Int.tmod (el p2 0) 16)) (y := 4) (by decide) (tdiv4_in64 (tmod_in64 (by decide)) (by omega))) .nil) fun ac w β S => S.K2 (r := Y7.1) (r' := Y7.2) (d := 64) (by rw [hT7]; exact c_impl_HostFlush w Y6.1 q185 (S.rd (show GT.rd KK _ _ Y6.1 q185 from ⟨o203.rn, o206.rn, o209.rn, o212.rn⟩)) 0 0 (show In64 0 from ⟨by decide, by decide⟩) (Int.tdiv (Int.tmod (el p2 0) 16) 4) (tdiv4_in64 (tmod_in64 (by decide)) (by omega))) fun ac w N q220 q221 F222 F223 S up o224 o225 d226 d227 d228 => ?_
 have d229 := Disj.w d227 o203.sub
 have d230 := Disj.w d227 o206.sub
 have d231 := Disj.w d227 o209.sub
 have d232 := Disj.w d227 o212.sub
 have d233 := Disj.w d226 o203.sub
 have d234 := Disj.w d226 o206.sub
 have d235 := Disj.w d226 o209.sub
 have d236 := Disj.w d226 o212.sub
 replace o203 := o203.up up
 replace o206 := o206.up up
 replace o209 := o209.up up
 replace o212 := o212.up up
 clear up d226
 clear d227
 obtain ⟨F237, F240, F243, F246, o238, o241, o244, o247, s239, s242, s245, s248, d249, d250, d251, d252, d253, d254⟩ := sp_Host o224
 obtain ⟨Y8, hT8⟩ : ∃ z, z = f_hostDma Y7.1 0 0 (Int.tmod (el p2 0) 16) 33 := ⟨_, rfl⟩
 refine S.go 10 .nil fun ac w β S => S.K2 (r := Y8.1) (r' := Y8.2) (d := 70) (by rw [hT8]; exact c_impl_HostDma w Y7.1 q220 (S.rd (show GT.rd KK _ _ Y7.1 q220 from ⟨o238.rn, o241.rn, o244.rn, o247.rn⟩)) 0 0 (Int.tmod (el p2 0) 16) (tmod_in64 (by decide)) 33 (show In64 33 from ⟨by decide, by decide⟩)) fun ac w N q255 q256 F257 F258 S up o259 o260 d261 d262 d263 => ?_
 have d264 := Disj.w d262 o238.sub
 have d265 := Disj.w d262 o241.sub
 have d266 := Disj.w d262 o244.sub
 have d267 := Disj.w d262 o247.sub
 have d268 := Disj.w d261 o238.sub
 have d269 := Disj.w d261 o241.sub
 have d270 := Disj.w d261 o244.sub
 have d271 := Disj.w d261 o247.sub
 replace o238 := o238.up up
 replace o241 := o241.up up
 replace o244 := o244.up up
 replace o247 := o247.up up
 clear up d261
 clear d262
 obtain ⟨F272, F275, F278, F281, o273, o276, o279, o282, s274, s277, s280, s283, d284, d285, d286, d287, d288, d289⟩ := sp_Host o259
 obtain ⟨Y9, hT9⟩ : ∃ z, z = f_hostRead Y8.1 0 0 (Int.tmod (el p2 0) 16) := ⟨_, rfl⟩
 refine S.go 11 .nil fun ac w β S => S.K3 (r := Y9.1) (r' := Y9.2.1) (r'' := Y9.2.2) (d := 76) (by rw [hT9]; exact c_impl_HostRead w Y8.1 q255 (S.rd (show GT.rd KK _ _ Y8.1 q255 from ⟨o273.rn, o276.rn, o279.rn, o282.rn⟩)) 0 0 (Int.tmod (el p2 0) 16) (tmod_in64 (by decide))) fun ac w N q290 F291 S up o292 d293 i294 => ?_
 have d295 := Disj.w d293 o273.sub
 have d296 := Disj.w d293 o276.sub
 have d297 := Disj.w d293 o279.sub
 have d298 := Disj.w d293 o282.sub
 replace o273 := o273.up up
 replace o276 := o276.up up
 replace o279 := o279.up up
 replace o282 := o282.up up
 clear up d293
 obtain ⟨F299, F302, F305, F308, o300, o303, o306, o309, s301, s304, s307, s310, d311, d312, d313, d314, d315, d316⟩ := sp_Host o292
 refine S.gb 14 .nil Y4.2 (fun ac w β h317 S => ?_) (fun ac w β h317 S => ?_)
 ·refine S.gb 3 .nil Y6.2 (fun ac w β h318 S => ?_) (fun ac w β h318 S => ?_)
  ·refine S.gb 4 .nil (!Y8.2) (fun ac w β h319 S => ?_) (fun ac w β h319 S => ?_)
   ·have h320 := not_t h319
    refine S.gd 4 .nil (Y9.2.1 == 22) (fun ac w β h321 g322 S => ?_) (fun ac w β h321 g322 S => ?_)
    ·exact S.gf 6 .nil [B Y9.2.2] (retB k0_laws_FnTakenBack)
    exact S.gf 6 .nil [B false] (retB k0_laws_FnTakenBack)
   have h323 := not_f h319
   exact S.gf 10 .nil [B false] (retB k0_laws_FnTakenBack)
  exact S.gf 14 .nil [B false] (retB k0_laws_FnTakenBack)
 exact S.gf 17 .nil [B false] (retB k0_laws_FnTakenBack)

end Go.Proofs.Ytgonaioedbphgaa
