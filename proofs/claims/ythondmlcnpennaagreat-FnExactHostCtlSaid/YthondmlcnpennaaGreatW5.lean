/- The walks: what each function that the laws reach computes (part 5). -/
import Derived.Test.YthondmlcnpennaaGreatW4
import Derived.Test.YthondmlcnpennaaGreatProg
import Derived.KernelRfl
namespace Go.Proofs.YthondmlcnpennaaGreat
open Go
set_option linter.unusedVariables false
set_option linter.unusedSimpArgs false

theorem k0_laws_FnExactHostCtl {p : Prop} (h : p := by clear S; first | rfl | (exfalso; omega) | (exfalso; simp_all; done) | (exfalso; simp_all; omega)) : p := h
set_option maxRecDepth 100000 in
theorem c_laws_FnExactHostCtl (w0 : World) (aH : THost) (paH : PHost) (haH : GT.rd KR (Lt w0.heap.size) w0 aH paH) (aM : Int) (aG : Int) (haG : In64 aG) (aC : TCtl) (haC : RCtl aC) : Calls Tryz.prog 4 [GT.val aH paH, I aM, I aG, GT.val aC ()].toArray w0 (fun e w' => e = .returned (B true) ∧ Chg NoB w0 w') := by
 refine Calls.walk (args := [GT.val aH paH, I aM, I aG, GT.val aC ()]) NoB Tryz.func4 rfl rfl ?_
 intro ac β S
 have hloaG := haG.lo; have hhiaG := haG.hi
 refine ws (rg ?_)
 refine S.qem 3 [] [(4, .p 0 0), (7, .p 1 0)] 2 [(0, GT.cells aH paH), (1, GT.cells aC ())] ?_; clear S; intro ac w β S
 refine (nt (ws (rg ?_)))
 refine S.qe 1 [] [(9, .v (I 1048576))] ?_; clear S; intro ac w β S
 refine (nt (ws (rg ?_)))
 have b1 := f_sz_cs (SZ.sz aH) 1048576
 refine S.qg 4 [] [(9, .v (I (f_sz (SZ.sz aH) 1048576)))] (.cons (Q_call fun w hw => c_laws_szHost w aH paH (rd_of (S.arg haH) hw) 1048576 (by omega) (by omega)) .nil) ?_; clear S; intro ac w β S
 refine (nt (ws (ws (rg ?_))))
 refine S.qe 2 [] [(24, .v (B (decide ((f_sz (SZ.sz aH) 1048576) < 0))))] ?_; clear S; intro ac w β S
 refine (nt (S.c (decide ((f_sz (SZ.sz aH) 1048576) < 0)) (fun h2 => ?_) (fun h2 => ?_)))
 ·have g3 := of_decide_eq_true h2
  refine ws (rg ?_)
  refine S.qe 1 [] [(8, .v (B true))] ?_; clear S; intro ac w β S
  exact (nt (wr (rt (S.r [B true] ⟨retB k0_laws_FnExactHostCtl, S.chg⟩))))
 ·have g4 := of_decide_eq_false h2
  have hkaH : GT.rd KK (Lt w0.heap.size) w0 aH paH := SZ.cut haH (show SZ.sz aH ≤ 4194304 by omega)
  have hcaH : SZ.sz aH ≤ 1048576 := by omega
  refine wk (nt (ws ?_))
  let σ5 : Sy := ⟨[(1, .v (I aM)), (2, .v (I aG)), (4, .p 0 0), (7, .p 1 0), (24, .v (B (decide ((f_sz (SZ.sz aH) 1048576) < 0))))], [GT.cells aH paH, GT.cells aC ()]⟩
  obtain ⟨u0, N0, β0, S⟩ : ∃ u0 N0 β0, St Tryz.prog Tryz.f4.ntmps w0 NoB u0 N0 β0 σ5 ac w := ⟨_, _, _, S.z⟩
  refine wp_region_cut (fun ac w => ∃ q47 F48 u N β, St Tryz.prog Tryz.f4.ntmps w0 NoB u N β (σ5.dl [24] [(10, .p 2 0), (11, .v (B ((f_hostCtl aH aM aG aC).2)))] 3 [(2, GT.cells ((f_hostCtl aH aM aG aC).1) q47)]) ac w ∧ Ow w0 NoB u N F48 ((f_hostCtl aH aM aG aC).1) q47) ?_ ?_
  ·refine S.draw0 (f := 13) 11 rfl rfl ?_
   clear S; intro w S
   refine S.hq 0 [0] [] [(26, .v (GT.val aH paH))] .nil ?_
   clear S; intro ac S
   refine S.hq 2 [2] [] [(28, .v (I aM))] .nil ?_
   clear S; intro ac S
   refine S.hq 3 [3] [] [(29, .v (I aG))] .nil ?_
   clear S; intro ac S
   refine S.hq 4 [4] [] [(30, .v (GT.val aC ()))] .nil ?_
   clear S; intro ac S
   refine WD.nameW fun W hW => ?_
   refine WD.castW (l' := mkL 13 [0, 2, 3, 4]) (by kernel_rfl) ?_
   have hK49 ac w q47 F48 u N β (S : St Tryz.prog Tryz.f4.ntmps w0 NoB u N β (σ5.dl [24] [(10, .p 2 0), (11, .v (B ((f_hostCtl aH aM aG aC).2)))] 3 [(2, GT.cells ((f_hostCtl aH aM aG aC).1) q47)]) ac w) (o46 : Ow w0 NoB u N F48 ((f_hostCtl aH aM aG aC).1) q47) : W 0 (mkL 13 [0, 1, 2, 3, 4, 5, 6, 7, 8, 9, 10, 11, 12]) ac w := by
    exact od hW ⟨rfl, q47, F48, _, _, _, S.z, o46⟩
   have hK50 ac w q32 F33 u N β (S : St Tryz.prog Tryz.f4.ntmps w0 NoB u N β (σ5.dl [24] [(10, .p 2 0), (33, .v (GT.val ((f_hostCtl aH aM aG aC).1) q32)), (34, .v (B ((f_hostCtl aH aM aG aC).2)))] 3 [(2, Zc THost)]) ac w) (o31 : Ow w0 NoB u N F33 ((f_hostCtl aH aM aG aC).1) q32) (hNN : NN N0 u0 N u) (hBB : BB σ5.bx.length β0 β) : W 2 (mkL 13 [0, 1, 2, 3, 4, 5, 6, 7, 8, 9, 10]) ac w := by
    exact o1 hW 11 (S.wl hW [12] .nil fun _ _ _ S => hK49 _ _ q32 F33 _ _ _ S o31)
   have hK51 ac w q32 F33 u N β (S : St Tryz.prog Tryz.f4.ntmps w0 NoB u N β (σ5.dl [24] [(33, .v (GT.val ((f_hostCtl aH aM aG aC).1) q32)), (34, .v (B ((f_hostCtl aH aM aG aC).2)))] 2 []) ac w) (o31 : Ow w0 NoB u N F33 ((f_hostCtl aH aM aG aC).1) q32) (hNN : NN N0 u0 N u) (hBB : BB σ5.bx.length β0 β) : W 3 (mkL 13 [0, 1, 2, 3, 4, 5, 6, 7, 8, 9]) ac w := by
    exact o1 hW 10 (S.wq hW hNN hBB [] .nil fun _ _ _ S hB => hK50 _ _ q32 F33 _ _ _ S o31 hNN hB)
   have hK52 ac w q12 F13 u N β (S : St Tryz.prog Tryz.f4.ntmps w0 NoB u N β (σ5.dl [24] [(10, .p 2 0), (27, .v (GT.val aH q12)), (28, .v (I aM)), (29, .v (I aG)), (31, .v (GT.val aC ()))] 3 [(2, Zc THost)]) ac w) (o11 : Ow w0 NoB u N F13 aH q12) (hNN : NN N0 u0 N u) (hBB : BB σ5.bx.length β0 β) : W 6 (mkL 13 [0, 1, 2, 3, 4, 5, 10]) ac w := by
    refine o1 hW 6 ?_
    refine id (S.call2 (r := (f_hostCtl aH aM aG aC).1) (r' := (f_hostCtl aH aM aG aC).2) (d := 32) (c_spec_HostCtl w aH q12 (S.rd o11.rn) aM aG haG aC (haC)) (by kernel_rfl) rfl ?_)
    clear S; intro ac w N q53 q54 F55 F56 S up o57 o58 d59 d60 d61
    have hb62 := fun b h => (⟨(up b (hNN b h).1).1, (up b (hNN b h).1).2.trans (hNN b h).2⟩ : _ ∧ _)
    refine WD.sc S hb62 hBB fun hC => ?_
    have d63 : Disj F13 F56 := fun b x y => d60 b (o11.sub b x) y
    have d64 : Disj F13 F55 := fun b x y => d59 b (o11.sub b x) y
    replace o11 := o11.up up
    clear up d59
    clear d60
    exact S.wh hW [7, 8, 9] hC fun _ S => hK50 _ _ q53 F55 _ _ _ S o57 hb62 hBB
   have hK65 ac w q12 F13 u N β (S : St Tryz.prog Tryz.f4.ntmps w0 NoB u N β (σ5.dl [24] [(27, .v (GT.val aH q12)), (28, .v (I aM)), (29, .v (I aG)), (31, .v (GT.val aC ()))] 2 []) ac w) (o11 : Ow w0 NoB u N F13 aH q12) (hNN : NN N0 u0 N u) (hBB : BB σ5.bx.length β0 β) : W 7 (mkL 13 [0, 1, 2, 3, 4, 5]) ac w := by
    refine o2 hW 6 10 ?_ (S.wq hW hNN hBB [] .nil fun _ _ _ S hB => hK52 _ _ q12 F13 _ _ _ S o11 hNN hB)
    refine id (S.call2 (r := (f_hostCtl aH aM aG aC).1) (r' := (f_hostCtl aH aM aG aC).2) (d := 32) (c_spec_HostCtl w aH q12 (S.rd o11.rn) aM aG haG aC (haC)) (by kernel_rfl) rfl ?_)
    clear S; intro ac w N q66 q67 F68 F69 S up o70 o71 d72 d73 d74
    have hb75 := fun b h => (⟨(up b (hNN b h).1).1, (up b (hNN b h).1).2.trans (hNN b h).2⟩ : _ ∧ _)
    refine WD.sc S hb75 hBB fun hC => ?_
    have d76 : Disj F13 F69 := fun b x y => d73 b (o11.sub b x) y
    have d77 : Disj F13 F68 := fun b x y => d72 b (o11.sub b x) y
    replace o11 := o11.up up
    clear up d72
    clear d73
    exact S.wh hW [7, 8, 9] hC fun _ S => hK51 _ _ q66 F68 _ _ _ S o70 hb75 hBB
   have hK78 ac w q12 F13 u N β (S : St Tryz.prog Tryz.f4.ntmps w0 NoB u N β (σ5.dl [24] [(10, .p 2 0), (27, .v (GT.val aH q12)), (28, .v (I aM)), (29, .v (I aG)), (30, .v (GT.val aC ()))] 3 [(2, Zc THost)]) ac w) (o11 : Ow w0 NoB u N F13 aH q12) (hNN : NN N0 u0 N u) (hBB : BB σ5.bx.length β0 β) : W 7 (mkL 13 [0, 1, 2, 3, 4, 10]) ac w := by
    exact o1 hW 5 (S.wq hW hNN hBB [] (.cons (Q_call fun w hw => c_laws_toCtl w aC) .nil) fun _ _ _ S hB => hK52 _ _ q12 F13 _ _ _ S o11 hNN hB)
   have hK79 ac w q12 F13 u N β (S : St Tryz.prog Tryz.f4.ntmps w0 NoB u N β (σ5.dl [24] [(27, .v (GT.val aH q12)), (28, .v (I aM)), (29, .v (I aG)), (30, .v (GT.val aC ()))] 2 []) ac w) (o11 : Ow w0 NoB u N F13 aH q12) (hNN : NN N0 u0 N u) (hBB : BB σ5.bx.length β0 β) : W 8 (mkL 13 [0, 1, 2, 3, 4]) ac w := by
    exact o2 hW 5 10 (S.wq hW hNN hBB [] (.cons (Q_call fun w hw => c_laws_toCtl w aC) .nil) fun _ _ _ S hB => hK65 _ _ q12 F13 _ _ _ S o11 hNN hB) (S.wq hW hNN hBB [] .nil fun _ _ _ S hB => hK78 _ _ q12 F13 _ _ _ S o11 hNN hB)
   have hK80 ac w u N β (S : St Tryz.prog Tryz.f4.ntmps w0 NoB u N β (σ5.dl [24] [(10, .p 2 0), (26, .v (GT.val aH paH)), (28, .v (I aM)), (29, .v (I aG)), (30, .v (GT.val aC ()))] 3 [(2, Zc THost)]) ac w) (hNN : NN N0 u0 N u) (hBB : BB σ5.bx.length β0 β) : W 8 (mkL 13 [0, 2, 3, 4, 10]) ac w := by
    refine o1 hW 1 ?_
    refine id (S.call1 (r := aH) (d := 27) (c_laws_toHost w aH paH (S.rd (S.arg hkaH))) (by kernel_rfl) rfl ?_)
    clear S; intro ac w N q81 F82 S up o83 d84
    have hb85 := fun b h => (⟨(up b (hNN b h).1).1, (up b (hNN b h).1).2.trans (hNN b h).2⟩ : _ ∧ _)
    refine WD.sc S hb85 hBB fun hC => ?_
    clear up d84
    exact S.wh hW [] hC fun _ S => hK78 _ _ q81 F82 _ _ _ S o83 hb85 hBB
   have hNN : NN N0 u0 N0 u0 := fun b h => ⟨h, rfl⟩
   have hBB : BB σ5.bx.length β0 β0 := fun _ _ => rfl
   refine o2 hW 1 10 ?_ (S.wq hW hNN hBB [] .nil fun _ _ _ S hB => hK80 _ _ _ _ _ S hNN hB)
   refine id (S.call1 (r := aH) (d := 27) (c_laws_toHost w aH paH (S.rd (S.arg hkaH))) (by kernel_rfl) rfl ?_)
   clear S; intro ac w N q86 F87 S up o88 d89
   have hb90 := fun b h => (⟨(up b (hNN b h).1).1, (up b (hNN b h).1).2.trans (hNN b h).2⟩ : _ ∧ _)
   refine WD.sc S hb90 hBB fun hC => ?_
   clear up d89
   exact S.wh hW [] hC fun _ S => hK79 _ _ q86 F87 _ _ _ S o88 hb90 hBB
  clear S
  rintro ac w ⟨q47, F48, u, N, β, S, o46⟩
  refine id (nt (ws (rg ?_)))
  refine S.qa 1 [] [(35, .v (GT.val aH paH))] ?_; clear S; intro ac w β S
  refine RG.op rfl (S.call1 (r := aH) (d := 36) (c_laws_toHost w aH paH (S.rd (S.arg hkaH))) (by kernel_rfl) rfl ?_)
  clear S; intro ac w N q91 F92 S up o93 d94
  have d95 : Disj F48 F92 := fun b x y => d94 b (o46.sub b x) y
  replace o46 := o46.up up
  clear up d94
  refine S.qem 2 [] [(12, .p 3 0)] 4 [(3, GT.cells aH q91)] ?_; clear S; intro ac w β S
  refine (nt (ws ?_))
  let σ96 : Sy := ⟨[(1, .v (I aM)), (2, .v (I aG)), (4, .p 0 0), (7, .p 1 0), (10, .p 2 0), (11, .v (B ((f_hostCtl aH aM aG aC).2))), (12, .p 3 0)], [GT.cells aH paH, GT.cells aC (), GT.cells ((f_hostCtl aH aM aG aC).1) q47, GT.cells aH q91]⟩
  obtain ⟨u0, N0, β0, S, o46, o93⟩ : ∃ u0 N0 β0, St Tryz.prog Tryz.f4.ntmps w0 NoB u0 N0 β0 σ96 ac w ∧ Ow w0 NoB u0 N0 F48 ((f_hostCtl aH aM aG aC).1) q47 ∧ Ow w0 NoB u0 N0 F92 aH q91 := ⟨_, _, _, S.z, o46, o93⟩
  refine wp_region_cut (fun ac w => ∃ q129 F130 u N β, St Tryz.prog Tryz.f4.ntmps w0 NoB u N β (σ96.dl [] [(13, .p 4 0), (14, .v (B ((f_hostCtl aH aM aG aC).2)))] 5 [(4, GT.cells ((f_hostCtl aH aM aG aC).1) q129)]) ac w ∧ Ow w0 NoB u N F48 ((f_hostCtl aH aM aG aC).1) q47 ∧ Ow w0 NoB u N F92 aH q91 ∧ Ow w0 NoB u N F130 ((f_hostCtl aH aM aG aC).1) q129 ∧ Disj F48 F130 ∧ Disj F92 F130) ?_ ?_
  ·refine S.draw0 (f := 12) 10 rfl rfl ?_
   clear S; intro w S
   refine S.hq 0 [0] [] [(38, .v (GT.val aH q91))] .nil ?_
   clear S; intro ac S
   refine S.hq 1 [1] [] [(39, .v (I aM))] .nil ?_
   clear S; intro ac S
   refine S.hq 2 [2] [] [(40, .v (I aG))] .nil ?_
   clear S; intro ac S
   refine S.hq 3 [3] [] [(41, .v (GT.val aC ()))] .nil ?_
   clear S; intro ac S
   refine WD.nameW fun W hW => ?_
   refine WD.castW (l' := mkL 12 [0, 1, 2, 3]) (by kernel_rfl) ?_
   have hK131 ac w q129 F130 u N β (S : St Tryz.prog Tryz.f4.ntmps w0 NoB u N β (σ96.dl [] [(13, .p 4 0), (14, .v (B ((f_hostCtl aH aM aG aC).2)))] 5 [(4, GT.cells ((f_hostCtl aH aM aG aC).1) q129)]) ac w) (o46 : Ow w0 NoB u N F48 ((f_hostCtl aH aM aG aC).1) q47) (o93 : Ow w0 NoB u N F92 aH q91) (o128 : Ow w0 NoB u N F130 ((f_hostCtl aH aM aG aC).1) q129) (d132 : Disj F48 F130) (d133 : Disj F92 F130) : W 0 (mkL 12 [0, 1, 2, 3, 4, 5, 6, 7, 8, 9, 10, 11]) ac w := by
    exact od hW ⟨rfl, q129, F130, _, _, _, S.z, o46, o93, o128, d132, d133⟩
   have hK134 ac w q112 F113 u N β (S : St Tryz.prog Tryz.f4.ntmps w0 NoB u N β (σ96.dl [] [(13, .p 4 0), (44, .v (GT.val ((f_hostCtl aH aM aG aC).1) q112)), (45, .v (B ((f_hostCtl aH aM aG aC).2)))] 5 [(4, Zc THost)]) ac w) (o46 : Ow w0 NoB u N F48 ((f_hostCtl aH aM aG aC).1) q47) (o93 : Ow w0 NoB u N F92 aH q91) (o111 : Ow w0 NoB u N F113 ((f_hostCtl aH aM aG aC).1) q112) (d135 : Disj F48 F113) (d136 : Disj F92 F113) (hNN : NN N0 u0 N u) (hBB : BB σ96.bx.length β0 β) : W 2 (mkL 12 [0, 1, 2, 3, 4, 5, 6, 7, 8, 9]) ac w := by
    exact o1 hW 10 (S.wl hW [11] .nil fun _ _ _ S => hK131 _ _ q112 F113 _ _ _ S o46 o93 o111 d135 d136)
   have hK137 ac w q112 F113 u N β (S : St Tryz.prog Tryz.f4.ntmps w0 NoB u N β (σ96.dl [] [(44, .v (GT.val ((f_hostCtl aH aM aG aC).1) q112)), (45, .v (B ((f_hostCtl aH aM aG aC).2)))] 4 []) ac w) (o46 : Ow w0 NoB u N F48 ((f_hostCtl aH aM aG aC).1) q47) (o93 : Ow w0 NoB u N F92 aH q91) (o111 : Ow w0 NoB u N F113 ((f_hostCtl aH aM aG aC).1) q112) (d138 : Disj F48 F113) (d139 : Disj F92 F113) (hNN : NN N0 u0 N u) (hBB : BB σ96.bx.length β0 β) : W 3 (mkL 12 [0, 1, 2, 3, 4, 5, 6, 7, 8]) ac w := by
    exact o1 hW 9 (S.wq hW hNN hBB [] .nil fun _ _ _ S hB => hK134 _ _ q112 F113 _ _ _ S o46 o93 o111 d138 d139 hNN hB)
   have hK140 ac w u N β (S : St Tryz.prog Tryz.f4.ntmps w0 NoB u N β (σ96.dl [] [(13, .p 4 0), (38, .v (GT.val aH q91)), (39, .v (I aM)), (40, .v (I aG)), (42, .v (GT.val aC ()))] 5 [(4, Zc THost)]) ac w) (o46 : Ow w0 NoB u N F48 ((f_hostCtl aH aM aG aC).1) q47) (o93 : Ow w0 NoB u N F92 aH q91) (hNN : NN N0 u0 N u) (hBB : BB σ96.bx.length β0 β) : W 6 (mkL 12 [0, 1, 2, 3, 4, 9]) ac w := by
    refine o1 hW 5 ?_
    refine id (S.call2 (r := (f_hostCtl aH aM aG aC).1) (r' := (f_hostCtl aH aM aG aC).2) (d := 43) (c_impl_HostCtl w aH q91 (S.rd o93.rn) aM aG haG aC (haC)) (by kernel_rfl) rfl ?_)
    clear S; intro ac w N q141 q142 F143 F144 S up o145 o146 d147 d148 d149
    have hb150 := fun b h => (⟨(up b (hNN b h).1).1, (up b (hNN b h).1).2.trans (hNN b h).2⟩ : _ ∧ _)
    refine WD.sc S hb150 hBB fun hC => ?_
    have d151 : Disj F48 F144 := fun b x y => d148 b (o46.sub b x) y
    have d152 : Disj F92 F144 := fun b x y => d148 b (o93.sub b x) y
    have d153 : Disj F48 F143 := fun b x y => d147 b (o46.sub b x) y
    have d154 : Disj F92 F143 := fun b x y => d147 b (o93.sub b x) y
    replace o46 := o46.up up
    replace o93 := o93.up up
    clear up d147
    clear d148
    exact S.wh hW [6, 7, 8] hC fun _ S => hK134 _ _ q141 F143 _ _ _ S o46 o93 o145 d153 d154 hb150 hBB
   have hK155 ac w u N β (S : St Tryz.prog Tryz.f4.ntmps w0 NoB u N β (σ96.dl [] [(38, .v (GT.val aH q91)), (39, .v (I aM)), (40, .v (I aG)), (42, .v (GT.val aC ()))] 4 []) ac w) (o46 : Ow w0 NoB u N F48 ((f_hostCtl aH aM aG aC).1) q47) (o93 : Ow w0 NoB u N F92 aH q91) (hNN : NN N0 u0 N u) (hBB : BB σ96.bx.length β0 β) : W 7 (mkL 12 [0, 1, 2, 3, 4]) ac w := by
    refine o2 hW 5 9 ?_ (S.wq hW hNN hBB [] .nil fun _ _ _ S hB => hK140 _ _ _ _ _ S o46 o93 hNN hB)
    refine id (S.call2 (r := (f_hostCtl aH aM aG aC).1) (r' := (f_hostCtl aH aM aG aC).2) (d := 43) (c_impl_HostCtl w aH q91 (S.rd o93.rn) aM aG haG aC (haC)) (by kernel_rfl) rfl ?_)
    clear S; intro ac w N q156 q157 F158 F159 S up o160 o161 d162 d163 d164
    have hb165 := fun b h => (⟨(up b (hNN b h).1).1, (up b (hNN b h).1).2.trans (hNN b h).2⟩ : _ ∧ _)
    refine WD.sc S hb165 hBB fun hC => ?_
    have d166 : Disj F48 F159 := fun b x y => d163 b (o46.sub b x) y
    have d167 : Disj F92 F159 := fun b x y => d163 b (o93.sub b x) y
    have d168 : Disj F48 F158 := fun b x y => d162 b (o46.sub b x) y
    have d169 : Disj F92 F158 := fun b x y => d162 b (o93.sub b x) y
    replace o46 := o46.up up
    replace o93 := o93.up up
    clear up d162
    clear d163
    exact S.wh hW [6, 7, 8] hC fun _ S => hK137 _ _ q156 F158 _ _ _ S o46 o93 o160 d168 d169 hb165 hBB
   have hK170 ac w u N β (S : St Tryz.prog Tryz.f4.ntmps w0 NoB u N β (σ96.dl [] [(13, .p 4 0), (38, .v (GT.val aH q91)), (39, .v (I aM)), (40, .v (I aG)), (41, .v (GT.val aC ()))] 5 [(4, Zc THost)]) ac w) (o46 : Ow w0 NoB u N F48 ((f_hostCtl aH aM aG aC).1) q47) (o93 : Ow w0 NoB u N F92 aH q91) (hNN : NN N0 u0 N u) (hBB : BB σ96.bx.length β0 β) : W 7 (mkL 12 [0, 1, 2, 3, 9]) ac w := by
    exact o1 hW 4 (S.wq hW hNN hBB [] (.cons (Q_call fun w hw => c_laws_toCtl w aC) .nil) fun _ _ _ S hB => hK140 _ _ _ _ _ S o46 o93 hNN hB)
   have hNN : NN N0 u0 N0 u0 := fun b h => ⟨h, rfl⟩
   have hBB : BB σ96.bx.length β0 β0 := fun _ _ => rfl
   exact o2 hW 4 9 (S.wq hW hNN hBB [] (.cons (Q_call fun w hw => c_laws_toCtl w aC) .nil) fun _ _ _ S hB => hK155 _ _ _ _ _ S o46 o93 hNN hB) (S.wq hW hNN hBB [] .nil fun _ _ _ S hB => hK170 _ _ _ _ _ S o46 o93 hNN hB)
  clear S o46 o93
  rintro ac w ⟨q129, F130, u, N, β, S, o46, o93, o128, d171, d172⟩
  refine id (nt (ws (ws (rg ?_))))
  refine S.qb 5 [] [(50, .v (B (!(decide (((f_hostCtl aH aM aG aC).1) = ((f_hostCtl aH aM aG aC).1))))))] (.cons (Q_call fun w hw => c_laws_eqHost w ((f_hostCtl aH aM aG aC).1) q129 (rd_of o128.rn hw) ((f_hostCtl aH aM aG aC).1) q47 (rd_of o46.rn hw)) .nil) ?_; clear S; intro ac w β S
  rcases Bool.eq_false_or_eq_true (!(decide (((f_hostCtl aH aM aG aC).1) = ((f_hostCtl aH aM aG aC).1)))) with h173 | h173 <;> rw [h173] at S
  ·have h174 := not_t h173
   have g175 := of_decide_eq_false h174
   refine S.qe 4 [50] [(54, .v (B true))] ?_; clear S; intro ac w β S
   refine (nt (S.c true (fun _ => ?_) (fun hx => by cases hx)))
   refine ws (rg ?_)
   refine S.qe 1 [] [(8, .v (B false))] ?_; clear S; intro ac w β S
   exact (nt (wr (rt (S.r [B false] ⟨retB k0_laws_FnExactHostCtl, S.chg⟩))))
  ·have h176 := not_f h173
   have g177 := of_decide_eq_true h176
   refine S.qe 4 [50] [(54, .v (B (!((f_hostCtl aH aM aG aC).2 == (f_hostCtl aH aM aG aC).2))))] ?_; clear S; intro ac w β S
   refine (nt (S.c (!((f_hostCtl aH aM aG aC).2 == (f_hostCtl aH aM aG aC).2)) (fun h178 => ?_) (fun h178 => ?_)))
   ·have h179 := not_t h178
    have g180 : ¬ ((f_hostCtl aH aM aG aC).2 = (f_hostCtl aH aM aG aC).2) := ne_of_beq_false h179
    refine ws (rg ?_)
    refine S.qe 1 [] [(8, .v (B false))] ?_; clear S; intro ac w β S
    exact (nt (wr (rt (S.r [B false] ⟨retB k0_laws_FnExactHostCtl, S.chg⟩))))
   ·have h181 := not_f h178
    have g182 : (f_hostCtl aH aM aG aC).2 = (f_hostCtl aH aM aG aC).2 := eq_of_beq h181
    refine wk (nt (ws (ws ?_)))
    refine S.draw0 (f := 5) 5 rfl rfl ?_
    clear S; intro w S
    refine S.hoist (i := 0) (path := []) (keep := [1, 2, 4, 7, 10, 11, 12, 13, 14, 55]) (m := 5) (σ' := ⟨[(1, .v (I aM)), (2, .v (I aG)), (4, .p 0 0), (7, .p 1 0), (10, .p 2 0), (11, .v (B ((f_hostCtl aH aM aG aC).2))), (12, .p 3 0), (13, .p 4 0), (14, .v (B ((f_hostCtl aH aM aG aC).2))), (55, .v (GT.val aH q91))], [GT.cells aH paH, GT.cells aC (), GT.cells ((f_hostCtl aH aM aG aC).1) q47, GT.cells aH q91, GT.cells ((f_hostCtl aH aM aG aC).1) q129]⟩) (by kernel_rfl) (by kernel_rfl) .nil (by kernel_rfl) ?_
    clear S; intro ac S
    refine S.hoist (i := 1) (path := []) (keep := [1, 2, 4, 7, 10, 11, 12, 13, 14, 55, 56]) (m := 5) (σ' := ⟨[(1, .v (I aM)), (2, .v (I aG)), (4, .p 0 0), (7, .p 1 0), (10, .p 2 0), (11, .v (B ((f_hostCtl aH aM aG aC).2))), (12, .p 3 0), (13, .p 4 0), (14, .v (B ((f_hostCtl aH aM aG aC).2))), (55, .v (GT.val aH q91)), (56, .v (GT.val aH paH))], [GT.cells aH paH, GT.cells aC (), GT.cells ((f_hostCtl aH aM aG aC).1) q47, GT.cells aH q91, GT.cells ((f_hostCtl aH aM aG aC).1) q129]⟩) (by kernel_rfl) (by kernel_rfl) .nil (by kernel_rfl) ?_
    clear S; intro ac S
    refine WD.one (i := 2) (by kernel_rfl) ?_
    refine id (S.call1 (r := aH) (d := 57) (c_laws_toHost w aH paH (S.rd (S.arg hkaH))) (by kernel_rfl) rfl ?_)
    clear S; intro ac w N q183 F184 S up o185 d186
    refine WD.next S up rfl ?_
    have d187 : Disj F48 F184 := fun b x y => d186 b (o46.sub b x) y
    have d188 : Disj F92 F184 := fun b x y => d186 b (o93.sub b x) y
    have d189 : Disj F130 F184 := fun b x y => d186 b (o128.sub b x) y
    replace o46 := o46.up up
    replace o93 := o93.up up
    replace o128 := o128.up up
    clear up d186
    refine WD.one (i := 3) (by kernel_rfl) ?_
    refine S.stepq (i := 3) (keep := [1, 2, 4, 7, 10, 11, 12, 13, 14, 58]) (m := 5) (σ' := ⟨[(1, .v (I aM)), (2, .v (I aG)), (4, .p 0 0), (7, .p 1 0), (10, .p 2 0), (11, .v (B ((f_hostCtl aH aM aG aC).2))), (12, .p 3 0), (13, .p 4 0), (14, .v (B ((f_hostCtl aH aM aG aC).2))), (58, .v (B (decide (aH = aH))))], [GT.cells aH paH, GT.cells aC (), GT.cells ((f_hostCtl aH aM aG aC).1) q47, GT.cells aH q91, GT.cells ((f_hostCtl aH aM aG aC).1) q129]⟩) (.cons (Q_call fun w hw => c_laws_eqHost w aH q91 (rd_of o93.rn hw) aH q183 (rd_of o185.rn hw)) .nil) (by kernel_rfl) ?_
    clear S; intro ac w β S hβ
    refine WD.stay S hβ (fun _ _ h => h) ?_
    clear hβ
    refine S.hoist (i := 4) (path := []) (keep := [1, 2, 4, 7, 10, 11, 12, 13, 14, 59]) (m := 5) (σ' := ⟨[(1, .v (I aM)), (2, .v (I aG)), (4, .p 0 0), (7, .p 1 0), (10, .p 2 0), (11, .v (B ((f_hostCtl aH aM aG aC).2))), (12, .p 3 0), (13, .p 4 0), (14, .v (B ((f_hostCtl aH aM aG aC).2))), (59, .v (B (!(decide (aH = aH)))))], [GT.cells aH paH, GT.cells aC (), GT.cells ((f_hostCtl aH aM aG aC).1) q47, GT.cells aH q91, GT.cells ((f_hostCtl aH aM aG aC).1) q129]⟩) (by kernel_rfl) (by kernel_rfl) .nil (by kernel_rfl) ?_
    clear S; intro ac S
    refine WD.done (by kernel_rfl) ?_ _
    refine id (nt (S.c (!(decide (aH = aH))) (fun h190 => ?_) (fun h190 => ?_)))
    ·have h191 := not_t h190
     have g192 := of_decide_eq_false h191
     refine ws (rg ?_)
     refine S.qe 1 [] [(8, .v (B false))] ?_; clear S; intro ac w β S
     exact (nt (wr (rt (S.r [B false] ⟨retB k0_laws_FnExactHostCtl, S.chg⟩))))
    ·have h193 := not_f h190
     have g194 := of_decide_eq_true h193
     refine wk (nt (ws (rg ?_)))
     refine S.qe 1 [] [(15, .v (I 1))] ?_; clear S; intro ac w β S
     refine (nt (ws (rg ?_)))
     refine S.qa 2 [] [(60, .v (GT.val aH q91)), (61, .v (I 1))] ?_; clear S; intro ac w β S
     have z203 := sz_hostCtl aH aM aG aC
     refine RG.op rfl (S.callX (hd := hdT_Host) (d := 62) o93 (c_laws_markHost w aH q91 F92 (S.ownw o93) (fun b hb => (S.sep b (o93.sub b hb)).1) 1 (by omega) (by omega)) (by kernel_rfl) rfl ?_)
     clear S; intro ac w N q195 y196 k197 S up o198 c199 x200 b201 b202
     replace o46 := o46.upF d95 up
     replace o128 := o128.upF (Disj.symm d172) up
     clear up
     replace S := S.z (σ' := ⟨[(1, .v (I aM)), (2, .v (I aG)), (4, .p 0 0), (7, .p 1 0), (10, .p 2 0), (11, .v (B ((f_hostCtl aH aM aG aC).2))), (13, .p 4 0), (14, .v (B ((f_hostCtl aH aM aG aC).2))), (61, .v (I 1)), (62, .v (I k197))], [GT.cells aH paH, GT.cells aC (), GT.cells ((f_hostCtl aH aM aG aC).1) q47, GT.cells aH q91, GT.cells ((f_hostCtl aH aM aG aC).1) q129]⟩)
     have hw0 : GT.cells y196 q195 = GT.cells aH q91 := c199
     replace S := S.cast (σ' := ⟨[(1, .v (I aM)), (2, .v (I aG)), (4, .p 0 0), (7, .p 1 0), (10, .p 2 0), (11, .v (B ((f_hostCtl aH aM aG aC).2))), (13, .p 4 0), (14, .v (B ((f_hostCtl aH aM aG aC).2))), (61, .v (I 1)), (62, .v (I k197))], [GT.cells aH paH, GT.cells aC (), GT.cells ((f_hostCtl aH aM aG aC).1) q47, GT.cells y196 q195, GT.cells ((f_hostCtl aH aM aG aC).1) q129]⟩) (by rw [hw0])
     clear hw0
     refine S.qe 1 [] [(15, .v (I k197))] ?_; clear S; intro ac w β S
     refine (nt (ws (ws (rg ?_))))
     refine S.qa 3 [] [(65, .v (B (decide (k197 < 0))))] ?_; clear S; intro ac w β S
     rcases Bool.eq_false_or_eq_true (decide (k197 < 0)) with h204 | h204 <;> rw [h204] at S
     ·have g205 := of_decide_eq_true h204
      refine S.qe 10 [65] [(75, .v (B true))] ?_; clear S; intro ac w β S
      refine (nt (S.c true (fun _ => ?_) (fun hx => by cases hx)))
      refine ws (rg ?_)
      refine S.qe 1 [] [(8, .v (B false))] ?_; clear S; intro ac w β S
      exact (nt (wr (rt (S.r [B false] ⟨retB k0_laws_FnExactHostCtl, S.chg⟩))))
     ·have g206 := of_decide_eq_false h204
      refine S.qb 6 [65] [(71, .v (B (!(decide (((f_hostCtl aH aM aG aC).1) = ((f_hostCtl aH aM aG aC).1))))))] (.cons (Q_call fun w hw => c_laws_eqHost w ((f_hostCtl aH aM aG aC).1) q129 (rd_of o128.rn hw) ((f_hostCtl aH aM aG aC).1) q47 (rd_of o46.rn hw)) .nil) ?_; clear S; intro ac w β S
      rw [h173] at S
      refine S.qe 4 [71] [(75, .v (B (!((f_hostCtl aH aM aG aC).2 == (f_hostCtl aH aM aG aC).2))))] ?_; clear S; intro ac w β S
      refine (nt (S.c (!((f_hostCtl aH aM aG aC).2 == (f_hostCtl aH aM aG aC).2)) (fun h207 => ?_) (fun h207 => ?_)))
      ·have h208 := not_t h207
       have g209 : ¬ ((f_hostCtl aH aM aG aC).2 = (f_hostCtl aH aM aG aC).2) := ne_of_beq_false h208
       refine ws (rg ?_)
       refine S.qe 1 [] [(8, .v (B false))] ?_; clear S; intro ac w β S
       exact (nt (wr (rt (S.r [B false] ⟨retB k0_laws_FnExactHostCtl, S.chg⟩))))
      ·have h210 := not_f h207
       have g211 : (f_hostCtl aH aM aG aC).2 = (f_hostCtl aH aM aG aC).2 := eq_of_beq h210
       refine wk (nt (ws (rg ?_)))
       refine S.qe 1 [] [(16, .v (I 1))] ?_; clear S; intro ac w β S
       refine (nt (ws (rg ?_)))
       refine S.qa 2 [] [(76, .v (GT.val ((f_hostCtl aH aM aG aC).1) q129)), (77, .v (I 1))] ?_; clear S; intro ac w β S
       have z220 := sz_hostCtl aH aM aG aC
       refine RG.op rfl (S.callX (hd := hdT_Host) (d := 78) o128 (c_laws_markHost w ((f_hostCtl aH aM aG aC).1) q129 F130 (S.ownw o128) (fun b hb => (S.sep b (o128.sub b hb)).1) 1 (by omega) (by omega)) (by kernel_rfl) rfl ?_)
       clear S; intro ac w N q212 y213 k214 S up o215 c216 x217 b218 b219
       replace o46 := o46.upF d171 up
       replace o198 := o198.upF (Disj.symm (Disj.symm d172)) up
       clear up
       replace S := S.z (σ' := ⟨[(1, .v (I aM)), (2, .v (I aG)), (4, .p 0 0), (7, .p 1 0), (10, .p 2 0), (11, .v (B ((f_hostCtl aH aM aG aC).2))), (13, .p 4 0), (77, .v (I 1)), (78, .v (I k214))], [GT.cells aH paH, GT.cells aC (), GT.cells ((f_hostCtl aH aM aG aC).1) q47, GT.cells y196 q195, GT.cells ((f_hostCtl aH aM aG aC).1) q129]⟩)
       have hw0 : GT.cells y213 q212 = GT.cells ((f_hostCtl aH aM aG aC).1) q129 := c216
       replace S := S.cast (σ' := ⟨[(1, .v (I aM)), (2, .v (I aG)), (4, .p 0 0), (7, .p 1 0), (10, .p 2 0), (11, .v (B ((f_hostCtl aH aM aG aC).2))), (13, .p 4 0), (77, .v (I 1)), (78, .v (I k214))], [GT.cells aH paH, GT.cells aC (), GT.cells ((f_hostCtl aH aM aG aC).1) q47, GT.cells y196 q195, GT.cells y213 q212]⟩) (by rw [hw0])
       clear hw0
       refine S.qe 1 [] [(16, .v (I k214))] ?_; clear S; intro ac w β S
       refine (nt (ws (rg ?_)))
       refine S.qe 1 [] [(17, .v (I 1))] ?_; clear S; intro ac w β S
       refine (nt (ws (rg ?_)))
       refine S.qg 4 [] [(17, .v (I (hdT_Host y213 1)))] (.cons (Q_call fun w hw => c_laws_heldHost w y213 q212 (rd_of o215.rn hw) 1) .nil) ?_; clear S; intro ac w β S
       refine (nt (ws (ws (rg ?_))))
       refine S.qe 2 [] [(83, .v (B (decide ((hdT_Host y213 1) < 0))))] ?_; clear S; intro ac w β S
       refine (nt (S.c (decide ((hdT_Host y213 1) < 0)) (fun h221 => ?_) (fun h221 => ?_)))
       ·have g222 := of_decide_eq_true h221
        refine ws (rg ?_)
        refine S.qe 1 [] [(8, .v (B false))] ?_; clear S; intro ac w β S
        exact (nt (wr (rt (S.r [B false] ⟨retB k0_laws_FnExactHostCtl, S.chg⟩))))
       ·have g223 := of_decide_eq_false h221
        refine wk (nt (ws (ws (rg ?_))))
        refine S.qe 3 [] [(86, .v (B ((hdT_Host y213 1) != k214)))] ?_; clear S; intro ac w β S
        refine (nt (S.c ((hdT_Host y213 1) != k214) (fun h224 => ?_) (fun h224 => ?_)))
        ·have g225 : ¬ ((hdT_Host y213 1) = k214) := bne_iff_ne.1 h224
         refine ws (rg ?_)
         refine S.qe 1 [1, 2, 4, 7, 10, 11, 13, 16, 17, 77, 78, 83, 86] [(8, .v (B false))] ?_; clear S; intro ac w β S
         exact (nt (wr (rt (S.r [B false] ⟨retB k0_laws_FnExactHostCtl, S.chg⟩))))
        ·have g226 : (hdT_Host y213 1) = k214 := ne_f h224
         refine wk (nt (ws ?_))
         let σ227 : Sy := ⟨[(1, .v (I aM)), (2, .v (I aG)), (4, .p 0 0), (7, .p 1 0), (10, .p 2 0), (11, .v (B ((f_hostCtl aH aM aG aC).2))), (13, .p 4 0), (16, .v (I k214)), (86, .v (B ((hdT_Host y213 1) != k214)))], [GT.cells aH paH, GT.cells aC (), GT.cells ((f_hostCtl aH aM aG aC).1) q47, GT.cells y196 q195, GT.cells y213 q212]⟩
         obtain ⟨u0, N0, β0, S, o46, o198, o215⟩ : ∃ u0 N0 β0, St Tryz.prog Tryz.f4.ntmps w0 NoB u0 N0 β0 σ227 ac w ∧ Ow w0 NoB u0 N0 F48 ((f_hostCtl aH aM aG aC).1) q47 ∧ Ow w0 NoB u0 N0 F92 y196 q195 ∧ Ow w0 NoB u0 N0 F130 y213 q212 := ⟨_, _, _, S.z, o46, o198, o215⟩
         refine wp_region_cut (fun ac w => ∃ q287 F288 u N β, St Tryz.prog Tryz.f4.ntmps w0 NoB u N β (σ227.dl [1, 2, 4, 7, 86] [(18, .p 5 0), (19, .v (B ((f_hostCtl aH aM aG aC).2)))] 6 [(5, GT.cells ((f_hostCtl aH aM aG aC).1) q287)]) ac w ∧ Ow w0 NoB u N F48 ((f_hostCtl aH aM aG aC).1) q47 ∧ Ow w0 NoB u N F92 y196 q195 ∧ Ow w0 NoB u N F130 y213 q212 ∧ Ow w0 NoB u N F288 ((f_hostCtl aH aM aG aC).1) q287 ∧ Disj F48 F288 ∧ Disj F92 F288 ∧ Disj F130 F288) ?_ ?_
         ·refine S.draw0 (f := 13) 11 rfl rfl ?_
          clear S; intro w S
          refine S.hq 0 [0] [] [(88, .v (GT.val aH paH))] .nil ?_
          clear S; intro ac S
          refine S.hq 2 [2] [] [(90, .v (I aM))] .nil ?_
          clear S; intro ac S
          refine S.hq 3 [3] [] [(91, .v (I aG))] .nil ?_
          clear S; intro ac S
          refine S.hq 4 [4] [] [(92, .v (GT.val aC ()))] .nil ?_
          clear S; intro ac S
          refine WD.nameW fun W hW => ?_
          refine WD.castW (l' := mkL 13 [0, 2, 3, 4]) (by kernel_rfl) ?_
          have hK289 ac w q287 F288 u N β (S : St Tryz.prog Tryz.f4.ntmps w0 NoB u N β (σ227.dl [1, 2, 4, 7, 86] [(18, .p 5 0), (19, .v (B ((f_hostCtl aH aM aG aC).2)))] 6 [(5, GT.cells ((f_hostCtl aH aM aG aC).1) q287)]) ac w) (o46 : Ow w0 NoB u N F48 ((f_hostCtl aH aM aG aC).1) q47) (o198 : Ow w0 NoB u N F92 y196 q195) (o215 : Ow w0 NoB u N F130 y213 q212) (o286 : Ow w0 NoB u N F288 ((f_hostCtl aH aM aG aC).1) q287) (d290 : Disj F48 F288) (d291 : Disj F92 F288) (d292 : Disj F130 F288) : W 0 (mkL 13 [0, 1, 2, 3, 4, 5, 6, 7, 8, 9, 10, 11, 12]) ac w := by
           exact od hW ⟨rfl, q287, F288, _, _, _, S.z, o46, o198, o215, o286, d290, d291, d292⟩
          have hK293 ac w q266 F267 u N β (S : St Tryz.prog Tryz.f4.ntmps w0 NoB u N β (σ227.dl [1, 2, 4, 7, 86] [(18, .p 5 0), (95, .v (GT.val ((f_hostCtl aH aM aG aC).1) q266)), (96, .v (B ((f_hostCtl aH aM aG aC).2)))] 6 [(5, Zc THost)]) ac w) (o46 : Ow w0 NoB u N F48 ((f_hostCtl aH aM aG aC).1) q47) (o198 : Ow w0 NoB u N F92 y196 q195) (o215 : Ow w0 NoB u N F130 y213 q212) (o265 : Ow w0 NoB u N F267 ((f_hostCtl aH aM aG aC).1) q266) (d294 : Disj F48 F267) (d295 : Disj F92 F267) (d296 : Disj F130 F267) (hNN : NN N0 u0 N u) (hBB : BB σ227.bx.length β0 β) : W 2 (mkL 13 [0, 1, 2, 3, 4, 5, 6, 7, 8, 9, 10]) ac w := by
           exact o1 hW 11 (S.wl hW [12] .nil fun _ _ _ S => hK289 _ _ q266 F267 _ _ _ S o46 o198 o215 o265 d294 d295 d296)
          have hK297 ac w q266 F267 u N β (S : St Tryz.prog Tryz.f4.ntmps w0 NoB u N β (σ227.dl [1, 2, 4, 7, 86] [(95, .v (GT.val ((f_hostCtl aH aM aG aC).1) q266)), (96, .v (B ((f_hostCtl aH aM aG aC).2)))] 5 []) ac w) (o46 : Ow w0 NoB u N F48 ((f_hostCtl aH aM aG aC).1) q47) (o198 : Ow w0 NoB u N F92 y196 q195) (o215 : Ow w0 NoB u N F130 y213 q212) (o265 : Ow w0 NoB u N F267 ((f_hostCtl aH aM aG aC).1) q266) (d298 : Disj F48 F267) (d299 : Disj F92 F267) (d300 : Disj F130 F267) (hNN : NN N0 u0 N u) (hBB : BB σ227.bx.length β0 β) : W 3 (mkL 13 [0, 1, 2, 3, 4, 5, 6, 7, 8, 9]) ac w := by
           exact o1 hW 10 (S.wq hW hNN hBB [] .nil fun _ _ _ S hB => hK293 _ _ q266 F267 _ _ _ S o46 o198 o215 o265 d298 d299 d300 hNN hB)
          have hK301 ac w q237 F238 u N β (S : St Tryz.prog Tryz.f4.ntmps w0 NoB u N β (σ227.dl [1, 2, 4, 7, 86] [(18, .p 5 0), (89, .v (GT.val aH q237)), (90, .v (I aM)), (91, .v (I aG)), (93, .v (GT.val aC ()))] 6 [(5, Zc THost)]) ac w) (o46 : Ow w0 NoB u N F48 ((f_hostCtl aH aM aG aC).1) q47) (o198 : Ow w0 NoB u N F92 y196 q195) (o215 : Ow w0 NoB u N F130 y213 q212) (o236 : Ow w0 NoB u N F238 aH q237) (d302 : Disj F48 F238) (d303 : Disj F92 F238) (d304 : Disj F130 F238) (hNN : NN N0 u0 N u) (hBB : BB σ227.bx.length β0 β) : W 6 (mkL 13 [0, 1, 2, 3, 4, 5, 10]) ac w := by
           refine o1 hW 6 ?_
           refine id (S.call2 (r := (f_hostCtl aH aM aG aC).1) (r' := (f_hostCtl aH aM aG aC).2) (d := 94) (c_impl_HostCtl w aH q237 (S.rd o236.rn) aM aG haG aC (haC)) (by kernel_rfl) rfl ?_)
           clear S; intro ac w N q305 q306 F307 F308 S up o309 o310 d311 d312 d313
           have hb314 := fun b h => (⟨(up b (hNN b h).1).1, (up b (hNN b h).1).2.trans (hNN b h).2⟩ : _ ∧ _)
           refine WD.sc S hb314 hBB fun hC => ?_
           have d315 : Disj F48 F308 := fun b x y => d312 b (o46.sub b x) y
           have d316 : Disj F92 F308 := fun b x y => d312 b (o198.sub b x) y
           have d317 : Disj F130 F308 := fun b x y => d312 b (o215.sub b x) y
           have d318 : Disj F238 F308 := fun b x y => d312 b (o236.sub b x) y
           have d319 : Disj F48 F307 := fun b x y => d311 b (o46.sub b x) y
           have d320 : Disj F92 F307 := fun b x y => d311 b (o198.sub b x) y
           have d321 : Disj F130 F307 := fun b x y => d311 b (o215.sub b x) y
           have d322 : Disj F238 F307 := fun b x y => d311 b (o236.sub b x) y
           replace o46 := o46.up up
           replace o198 := o198.up up
           replace o215 := o215.up up
           replace o236 := o236.up up
           clear up d311
           clear d312
           exact S.wh hW [7, 8, 9] hC fun _ S => hK293 _ _ q305 F307 _ _ _ S o46 o198 o215 o309 d319 d320 d321 hb314 hBB
          have hK323 ac w q237 F238 u N β (S : St Tryz.prog Tryz.f4.ntmps w0 NoB u N β (σ227.dl [1, 2, 4, 7, 86] [(89, .v (GT.val aH q237)), (90, .v (I aM)), (91, .v (I aG)), (93, .v (GT.val aC ()))] 5 []) ac w) (o46 : Ow w0 NoB u N F48 ((f_hostCtl aH aM aG aC).1) q47) (o198 : Ow w0 NoB u N F92 y196 q195) (o215 : Ow w0 NoB u N F130 y213 q212) (o236 : Ow w0 NoB u N F238 aH q237) (d324 : Disj F48 F238) (d325 : Disj F92 F238) (d326 : Disj F130 F238) (hNN : NN N0 u0 N u) (hBB : BB σ227.bx.length β0 β) : W 7 (mkL 13 [0, 1, 2, 3, 4, 5]) ac w := by
           refine o2 hW 6 10 ?_ (S.wq hW hNN hBB [] .nil fun _ _ _ S hB => hK301 _ _ q237 F238 _ _ _ S o46 o198 o215 o236 d324 d325 d326 hNN hB)
           refine id (S.call2 (r := (f_hostCtl aH aM aG aC).1) (r' := (f_hostCtl aH aM aG aC).2) (d := 94) (c_impl_HostCtl w aH q237 (S.rd o236.rn) aM aG haG aC (haC)) (by kernel_rfl) rfl ?_)
           clear S; intro ac w N q327 q328 F329 F330 S up o331 o332 d333 d334 d335
           have hb336 := fun b h => (⟨(up b (hNN b h).1).1, (up b (hNN b h).1).2.trans (hNN b h).2⟩ : _ ∧ _)
           refine WD.sc S hb336 hBB fun hC => ?_
           have d337 : Disj F48 F330 := fun b x y => d334 b (o46.sub b x) y
           have d338 : Disj F92 F330 := fun b x y => d334 b (o198.sub b x) y
           have d339 : Disj F130 F330 := fun b x y => d334 b (o215.sub b x) y
           have d340 : Disj F238 F330 := fun b x y => d334 b (o236.sub b x) y
           have d341 : Disj F48 F329 := fun b x y => d333 b (o46.sub b x) y
           have d342 : Disj F92 F329 := fun b x y => d333 b (o198.sub b x) y
           have d343 : Disj F130 F329 := fun b x y => d333 b (o215.sub b x) y
           have d344 : Disj F238 F329 := fun b x y => d333 b (o236.sub b x) y
           replace o46 := o46.up up
           replace o198 := o198.up up
           replace o215 := o215.up up
           replace o236 := o236.up up
           clear up d333
           clear d334
           exact S.wh hW [7, 8, 9] hC fun _ S => hK297 _ _ q327 F329 _ _ _ S o46 o198 o215 o331 d341 d342 d343 hb336 hBB
          have hK345 ac w q237 F238 u N β (S : St Tryz.prog Tryz.f4.ntmps w0 NoB u N β (σ227.dl [1, 2, 4, 7, 86] [(18, .p 5 0), (89, .v (GT.val aH q237)), (90, .v (I aM)), (91, .v (I aG)), (92, .v (GT.val aC ()))] 6 [(5, Zc THost)]) ac w) (o46 : Ow w0 NoB u N F48 ((f_hostCtl aH aM aG aC).1) q47) (o198 : Ow w0 NoB u N F92 y196 q195) (o215 : Ow w0 NoB u N F130 y213 q212) (o236 : Ow w0 NoB u N F238 aH q237) (d346 : Disj F48 F238) (d347 : Disj F92 F238) (d348 : Disj F130 F238) (hNN : NN N0 u0 N u) (hBB : BB σ227.bx.length β0 β) : W 7 (mkL 13 [0, 1, 2, 3, 4, 10]) ac w := by
           exact o1 hW 5 (S.wq hW hNN hBB [] (.cons (Q_call fun w hw => c_laws_toCtl w aC) .nil) fun _ _ _ S hB => hK301 _ _ q237 F238 _ _ _ S o46 o198 o215 o236 d346 d347 d348 hNN hB)
          have hK349 ac w q237 F238 u N β (S : St Tryz.prog Tryz.f4.ntmps w0 NoB u N β (σ227.dl [1, 2, 4, 7, 86] [(89, .v (GT.val aH q237)), (90, .v (I aM)), (91, .v (I aG)), (92, .v (GT.val aC ()))] 5 []) ac w) (o46 : Ow w0 NoB u N F48 ((f_hostCtl aH aM aG aC).1) q47) (o198 : Ow w0 NoB u N F92 y196 q195) (o215 : Ow w0 NoB u N F130 y213 q212) (o236 : Ow w0 NoB u N F238 aH q237) (d350 : Disj F48 F238) (d351 : Disj F92 F238) (d352 : Disj F130 F238) (hNN : NN N0 u0 N u) (hBB : BB σ227.bx.length β0 β) : W 8 (mkL 13 [0, 1, 2, 3, 4]) ac w := by
           exact o2 hW 5 10 (S.wq hW hNN hBB [] (.cons (Q_call fun w hw => c_laws_toCtl w aC) .nil) fun _ _ _ S hB => hK323 _ _ q237 F238 _ _ _ S o46 o198 o215 o236 d350 d351 d352 hNN hB) (S.wq hW hNN hBB [] .nil fun _ _ _ S hB => hK345 _ _ q237 F238 _ _ _ S o46 o198 o215 o236 d350 d351 d352 hNN hB)
          have hK353 ac w u N β (S : St Tryz.prog Tryz.f4.ntmps w0 NoB u N β (σ227.dl [1, 2, 4, 7, 86] [(18, .p 5 0), (88, .v (GT.val aH paH)), (90, .v (I aM)), (91, .v (I aG)), (92, .v (GT.val aC ()))] 6 [(5, Zc THost)]) ac w) (o46 : Ow w0 NoB u N F48 ((f_hostCtl aH aM aG aC).1) q47) (o198 : Ow w0 NoB u N F92 y196 q195) (o215 : Ow w0 NoB u N F130 y213 q212) (hNN : NN N0 u0 N u) (hBB : BB σ227.bx.length β0 β) : W 8 (mkL 13 [0, 2, 3, 4, 10]) ac w := by
           refine o1 hW 1 ?_
           refine id (S.call1 (r := aH) (d := 89) (c_laws_toHost w aH paH (S.rd (S.arg hkaH))) (by kernel_rfl) rfl ?_)
           clear S; intro ac w N q354 F355 S up o356 d357
           have hb358 := fun b h => (⟨(up b (hNN b h).1).1, (up b (hNN b h).1).2.trans (hNN b h).2⟩ : _ ∧ _)
           refine WD.sc S hb358 hBB fun hC => ?_
           have d359 : Disj F48 F355 := fun b x y => d357 b (o46.sub b x) y
           have d360 : Disj F92 F355 := fun b x y => d357 b (o198.sub b x) y
           have d361 : Disj F130 F355 := fun b x y => d357 b (o215.sub b x) y
           replace o46 := o46.up up
           replace o198 := o198.up up
           replace o215 := o215.up up
           clear up d357
           exact S.wh hW [] hC fun _ S => hK345 _ _ q354 F355 _ _ _ S o46 o198 o215 o356 d359 d360 d361 hb358 hBB
          have hNN : NN N0 u0 N0 u0 := fun b h => ⟨h, rfl⟩
          have hBB : BB σ227.bx.length β0 β0 := fun _ _ => rfl
          refine o2 hW 1 10 ?_ (S.wq hW hNN hBB [] .nil fun _ _ _ S hB => hK353 _ _ _ _ _ S o46 o198 o215 hNN hB)
          refine id (S.call1 (r := aH) (d := 89) (c_laws_toHost w aH paH (S.rd (S.arg hkaH))) (by kernel_rfl) rfl ?_)
          clear S; intro ac w N q362 F363 S up o364 d365
          have hb366 := fun b h => (⟨(up b (hNN b h).1).1, (up b (hNN b h).1).2.trans (hNN b h).2⟩ : _ ∧ _)
          refine WD.sc S hb366 hBB fun hC => ?_
          have d367 : Disj F48 F363 := fun b x y => d365 b (o46.sub b x) y
          have d368 : Disj F92 F363 := fun b x y => d365 b (o198.sub b x) y
          have d369 : Disj F130 F363 := fun b x y => d365 b (o215.sub b x) y
          replace o46 := o46.up up
          replace o198 := o198.up up
          replace o215 := o215.up up
          clear up d365
          exact S.wh hW [] hC fun _ S => hK349 _ _ q362 F363 _ _ _ S o46 o198 o215 o364 d367 d368 d369 hb366 hBB
         clear S o46 o198 o215
         rintro ac w ⟨q287, F288, u, N, β, S, o46, o198, o215, o286, d370, d371, d372⟩
         refine id (nt (ws (ws (rg ?_))))
         refine S.qbm 5 [] [(101, .v (B (!(decide (((f_hostCtl aH aM aG aC).1) = ((f_hostCtl aH aM aG aC).1))))))] (.cons (Q_call fun w hw => c_laws_eqHost w ((f_hostCtl aH aM aG aC).1) q287 (rd_of o286.rn hw) ((f_hostCtl aH aM aG aC).1) q47 (rd_of o46.rn hw)) .nil) 5 [] ?_; clear S; intro ac w β S
         rw [h173] at S
         refine S.qe 4 [101] [(105, .v (B (!((f_hostCtl aH aM aG aC).2 == (f_hostCtl aH aM aG aC).2))))] ?_; clear S; intro ac w β S
         refine (nt (S.c (!((f_hostCtl aH aM aG aC).2 == (f_hostCtl aH aM aG aC).2)) (fun h373 => ?_) (fun h373 => ?_)))
         ·have h374 := not_t h373
          have g375 : ¬ ((f_hostCtl aH aM aG aC).2 = (f_hostCtl aH aM aG aC).2) := ne_of_beq_false h374
          refine ws (rg ?_)
          refine S.qe 1 [] [(8, .v (B false))] ?_; clear S; intro ac w β S
          exact (nt (wr (rt (S.r [B false] ⟨retB k0_laws_FnExactHostCtl, S.chg⟩))))
         ·have h376 := not_f h373
          have g377 : (f_hostCtl aH aM aG aC).2 = (f_hostCtl aH aM aG aC).2 := eq_of_beq h376
          refine wk (nt (ws (rg ?_)))
          refine S.qe 1 [] [(17, .v (I 1))] ?_; clear S; intro ac w β S
          refine (nt (ws (rg ?_)))
          refine S.qgm 4 [] [(17, .v (I (hdT_Host y213 1)))] (.cons (Q_call fun w hw => c_laws_heldHost w y213 q212 (rd_of o215.rn hw) 1) .nil) 0 [] ?_; clear S; intro ac w β S
          refine (nt (ws (ws (rg ?_))))
          refine S.qe 2 [] [(110, .v (B (decide ((hdT_Host y213 1) < 0))))] ?_; clear S; intro ac w β S
          refine (nt (S.c (decide ((hdT_Host y213 1) < 0)) (fun h378 => ?_) (fun h378 => ?_)))
          ·have g379 := of_decide_eq_true h378
           refine ws (rg ?_)
           refine S.qe 1 [] [(8, .v (B false))] ?_; clear S; intro ac w β S
           exact (nt (wr (rt (S.r [B false] ⟨retB k0_laws_FnExactHostCtl, S.chg⟩))))
          ·have g380 := of_decide_eq_false h378
           refine wk (nt (ws (ws (rg ?_))))
           refine S.qe 3 [] [(113, .v (B ((hdT_Host y213 1) != k214)))] ?_; clear S; intro ac w β S
           refine (nt (S.c ((hdT_Host y213 1) != k214) (fun h381 => ?_) (fun h381 => ?_)))
           ·have g382 : ¬ ((hdT_Host y213 1) = k214) := bne_iff_ne.1 h381
            refine ws (rg ?_)
            refine S.qe 1 [] [(8, .v (B false))] ?_; clear S; intro ac w β S
            exact (nt (wr (rt (S.r [B false] ⟨retB k0_laws_FnExactHostCtl, S.chg⟩))))
           ·have g383 : (hdT_Host y213 1) = k214 := ne_f h381
            refine wk (nt (ws (rg ?_)))
            refine S.qe 1 [] [(8, .v (B true))] ?_; clear S; intro ac w β S
            exact (nt (wr (S.r [B true] ⟨retB k0_laws_FnExactHostCtl, S.chg⟩)))

end Go.Proofs.YthondmlcnpennaaGreat
