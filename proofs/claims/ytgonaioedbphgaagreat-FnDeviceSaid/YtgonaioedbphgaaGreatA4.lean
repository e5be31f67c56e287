/- The walks: what each function that the laws reach computes (part 2). -/
import Derived.Test.YtgonaioedbphgaaGreatA3
import Derived.Test.YtgonaioedbphgaaGreatProg
import Derived.KernelRfl
namespace Go.Proofs.YtgonaioedbphgaaGreat
open Go
set_option linter.unusedVariables false
set_option linter.unusedSimpArgs false
set_option maxRecDepth 100000
set_option maxHeartbeats 2000000

theorem c_spec_l17Any (w0 : World) (bs : List TByte) (pbs : LP TByte) (G F : Bl) (q : LP TCur) (hc : Cu bs pbs G F w0 q) : Calls Tryz.prog 34 [pt q.1.b (q.1.off + 0 * 3)].toArray w0 (RetQ1 bs pbs G F q w0 (fun (r : TBare) => True)) := by
 refine Calls.run F Tryz.func34 ?_
 intro ac β S
 have oc := hc.oc
 refine S.go 8 .nil fun ac w β S => S.KD1 (d := 5) oc (c_spec_l17Bare w bs pbs G F q (S.cu oc)) fun ac w N x1 q2 F3 S h6 up o4 d5 ocn => ?_
 have d7 := Disj.w d5 oc.sub
 replace oc := ocn
 clear up d5
 have i17 : In64 x1.pend := RBare.pend (d := x1) o4.rn
 obtain ⟨F8, F11, F14, o9, o12, o15, s10, s13, s16, d18, d19, d20⟩ := sp_Bare o4
 refine S.go 8 .nil fun ac w β S => S.KD1 (d := 7) oc (c_spec_l01Below w bs pbs G F q (S.cu oc) 14 (show In64 14 from ⟨by decide, by decide⟩)) fun ac w N x21 q22 F23 S h26 up o24 d25 ocn => ?_
 replace o9 := o9.upF (Disj.part (Disj.symm d7) s10) up
 replace o12 := o12.upF (Disj.part (Disj.symm d7) s13) up
 replace o15 := o15.upF (Disj.part (Disj.symm d7) s16) up
 replace oc := ocn
 clear up d25
 have i27 : In64 x21 := o24.own
 have l28 := i27.lo; have l29 := i27.hi
 refine S.gd 9 .nil (x21 == 0) (fun ac w β h30 g31 S => ?_) (fun ac w β h30 g31 S => ?_)
 ·refine S.go 3 .nil fun ac w β S => S.KQ1 (d := 11) oc (c_spec_l04Any w bs pbs G F q (S.cu oc)) fun ac w N x32 q33 F34 S h37 up o35 d36 ocn => ?_
  have d41 := Disj.w d36 oc.sub
  replace o9 := o9.upF (Disj.part (Disj.symm d7) s10) up
  replace o12 := o12.upF (Disj.part (Disj.symm d7) s13) up
  replace o15 := o15.upF (Disj.part (Disj.symm d7) s16) up
  replace oc := ocn
  clear up d36
  have l42 := LRd.le o35.rn
  refine S.gr 12 .nil [GT.val (⟨x32, x1.guests, x1.outs, x1.pend⟩ : TBare) (⟨q33, q2.guests, q2.outs⟩ : PBare)] fun ac w β S => ?_
  have o43 := o12.rw
  have o44 := o15.rw
  have o45 := rw_Bare (x := (⟨x32, x1.guests, x1.outs, x1.pend⟩ : TBare)) (p := (⟨q33, q2.guests, q2.outs⟩ : PBare)) o35 o43 o44 i17
  exact retQ1_of S (show True by clear S; trivial) rfl o45 (Disj.or (Disj.symm d41) (Disj.or (Disj.symm (Disj.symm (Disj.part (Disj.symm d7) s13))) (Disj.or (Disj.symm (Disj.symm (Disj.part (Disj.symm d7) s16))) Disj.nob))) oc
 refine S.gd 7 .nil (x21 == 1) (fun ac w β h46 g47 S => ?_) (fun ac w β h46 g47 S => ?_)
 ·refine S.go 1 .nil fun ac w β S => ?_
  refine drw ?_
  let σ48 : Sy := ⟨[(0, .v (pt q.1.b (q.1.off + 0 * 3))), (2, .p 0 0), (3, .p 1 0), (7, .v (I x21)), (13, .v (B true))], [Zc TBare, [slv x1.mem.length q2.mem.1, slv x1.guests.length q2.guests.1, slv x1.outs.length q2.outs.1, I x1.pend]]⟩
  obtain ⟨u0, N0, β0, S, o9, o12, o15, oc⟩ : ∃ u0 N0 β0, St Tryz.prog Tryz.f34.ntmps w0 F u0 N0 β0 σ48 ac w ∧ Ow w0 F u0 N0 F8 x1.mem q2.mem ∧ Ow w0 F u0 N0 F11 x1.guests q2.guests ∧ Ow w0 F u0 N0 F14 x1.outs q2.outs ∧ Oc bs pbs G w0 F u0 N0 F q := ⟨_, _, _, S.z, o9, o12, o15, oc⟩
  refine wp_region_cut (fun ac w => ∃  (x50 : TGuest) (q82 : GT.Ptr (List TGuest)) (F83 : Bl) (u : _) (N : _) (β : _), St Tryz.prog Tryz.f34.ntmps w0 F u N β (σ48.dl [0, 7, 13] [] 2 [(1, [slv x1.mem.length q2.mem.1, slv (x1.guests.set 0 x50).length q82.1, slv x1.outs.length q2.outs.1, I x1.pend])]) ac w ∧ Ow w0 F u N F8 x1.mem q2.mem ∧ Ow w0 F u N F14 x1.outs q2.outs ∧ Oc bs pbs G w0 F u N F q ∧ Ow w0 F u N F83 (x1.guests.set 0 x50) q82 ∧ Disj F8 F83 ∧ Disj F14 F83 ∧ Disj F F83 ∧ In64 x1.pend) ?_ ?_
  ·refine S.draw0 (f := 6) 3 (by kernel_rfl) (by kernel_rfl) fun w S => ?_
   refine S.hq 2 [2] [] [(17, .v (pt q.1.b (q.1.off + 0 * 3)))] .nil fun ac S => ?_
   refine WD.nameW fun W hW => ?_
   refine WD.castW (l' := mkL 6 [2]) (by kernel_rfl) ?_
   have hK84 ac w (x50 : TGuest) q82 F83 u N β (S : St Tryz.prog Tryz.f34.ntmps w0 F u N β (σ48.dl [0, 7, 13] [] 2 [(1, [slv x1.mem.length q2.mem.1, slv (x1.guests.set 0 x50).length q82.1, slv x1.outs.length q2.outs.1, I x1.pend])]) ac w) (o9 : Ow w0 F u N F8 x1.mem q2.mem) (o15 : Ow w0 F u N F14 x1.outs q2.outs) (oc : Oc bs pbs G w0 F u N F q) (o81 : Ow w0 F u N F83 (x1.guests.set 0 x50) q82) (d85 : Disj F8 F83) (d86 : Disj F14 F83) (d87 : Disj F F83) (i49 : In64 x1.pend) : W 0 (mkL 6 [0, 1, 2, 3, 4, 5]) ac w := by
    exact od hW ⟨rfl, x50, q82, F83, _, _, _, S.z, o9, o15, oc, o81, d85, d86, d87, i49⟩
   have hK88 ac w (x50 : TGuest) q61 F62 u N β (S : St Tryz.prog Tryz.f34.ntmps w0 F u N β (σ48.dl [0, 7, 13] [(18, .v (GT.val x50 q61)), (19, .v (pt q2.guests.1.b (q2.guests.1.off + 0 * 15)))] 2 []) ac w) (o9 : Ow w0 F u N F8 x1.mem q2.mem) (o12 : Ow w0 F u N F11 x1.guests q2.guests) (o15 : Ow w0 F u N F14 x1.outs q2.outs) (oc : Oc bs pbs G w0 F u N F q) (o60 : Ow w0 F u N F62 x50 q61) (d89 : Disj F8 F62) (d90 : Disj F11 F62) (d91 : Disj F14 F62) (d92 : Disj F F62) (i49 : In64 x1.pend) : W 1 (mkL 6 [0, 1, 2, 3, 4]) ac w := by
    refine ox1 hW 5 ?_
    refine id (S.sV (α := TGuest) o12 (t := 51) (k := 0) (off := q2.guests.1.off + 0 * 15) o60 d90 fun w N F94 q95 S up o93 d96 s97 n98 => ?_)
    refine WD.sl fun hC => ?_
    have d99 := d96 _ d18 d89 o9.sub
    have d100 := d96 _ (Disj.symm d20) d91 o15.sub
    have d101 := d96 _ (Disj.symm (Disj.part (Disj.symm d7) s13)) d92 oc.sub
    replace o9 := o9.upF d18 up
    replace o15 := o15.upF (Disj.symm d20) up
    replace oc := oc.upF (Disj.symm (Disj.part (Disj.symm d7) s13)) up
    clear up d96 o12 n98
    have l102 : (x1.guests.set 0 x50).length = x1.guests.length := List.length_set
    replace S := S.z (σ' := ⟨[(2, .p 0 0), (3, .p 1 0), (18, .v (GT.val x50 q61)), (19, .v (pt q2.guests.1.b (q2.guests.1.off + 0 * 15)))], [Zc TBare, [slv x1.mem.length q2.mem.1, slv x1.guests.length q2.guests.1, slv x1.outs.length q2.outs.1, I x1.pend]]⟩)
    replace S := S.cast (σ' := ⟨[(2, .p 0 0), (3, .p 1 0), (18, .v (GT.val x50 q61)), (19, .v (pt q2.guests.1.b (q2.guests.1.off + 0 * 15)))], [Zc TBare, [slv x1.mem.length q2.mem.1, slv (x1.guests.set 0 x50).length q2.guests.1, slv x1.outs.length q2.outs.1, I x1.pend]]⟩) (by rw [show (x1.guests.set 0 x50).length = x1.guests.length by omega])
    exact S.wh hW [] hC fun _ S => hK84 _ _ x50 (q2.guests.1, q95) F94 _ _ _ S o9 o15 oc o93 d99 d100 d101 i49
   have hK103 ac w (x50 : TGuest) q61 F62 u N β (S : St Tryz.prog Tryz.f34.ntmps w0 F u N β (σ48.dl [0, 7, 13] [(16, .v (slv x1.guests.length q2.guests.1)), (18, .v (GT.val x50 q61))] 2 []) ac w) (o9 : Ow w0 F u N F8 x1.mem q2.mem) (o12 : Ow w0 F u N F11 x1.guests q2.guests) (o15 : Ow w0 F u N F14 x1.outs q2.outs) (oc : Oc bs pbs G w0 F u N F q) (o60 : Ow w0 F u N F62 x50 q61) (d104 : Disj F8 F62) (d105 : Disj F11 F62) (d106 : Disj F14 F62) (d107 : Disj F F62) (i49 : In64 x1.pend) : W 2 (mkL 6 [0, 1, 2, 3]) ac w := by
    exact ox1 hW 4 (S.wl hW [] (.cons (qn o12.rn 0 Tryz.underlying25) .nil) fun _ _ _ S => hK88 _ _ x50 q61 F62 _ _ _ S o9 o12 o15 oc o60 d104 d105 d106 d107 i49)
   have hK108 ac w u N β (S : St Tryz.prog Tryz.f34.ntmps w0 F u N β (σ48.dl [0, 7, 13] [(16, .v (slv x1.guests.length q2.guests.1)), (17, .v (pt q.1.b (q.1.off + 0 * 3)))] 2 []) ac w) (o9 : Ow w0 F u N F8 x1.mem q2.mem) (o12 : Ow w0 F u N F11 x1.guests q2.guests) (o15 : Ow w0 F u N F14 x1.outs q2.outs) (oc : Oc bs pbs G w0 F u N F q) (i49 : In64 x1.pend) (hNN : NN N0 u0 N u) (hBB : BB σ48.bx.length β0 β) : W 3 (mkL 6 [0, 1, 2]) ac w := by
    refine ox1 hW 3 ?_
    refine id (S.callD1 (d := 18) oc (c_spec_l15Any w bs pbs G F q (S.cu oc)) fun ac w N x50 q109 F110 S h55 up o111 d112 ocn => ?_)
    refine WD.sl fun hC => ?_
    have d113 := Disj.w d112 o9.sub
    have d114 := Disj.w d112 o12.sub
    have d115 := Disj.w d112 o15.sub
    have d116 := Disj.w d112 oc.sub
    replace o9 := o9.upF (Disj.part (Disj.symm d7) s10) up
    replace o12 := o12.upF (Disj.part (Disj.symm d7) s13) up
    replace o15 := o15.upF (Disj.part (Disj.symm d7) s16) up
    replace oc := ocn
    clear up d112
    exact S.wh hW [] hC fun _ S => hK103 _ _ x50 q109 F110 _ _ _ S o9 o12 o15 oc o111 d113 d114 d115 d116 i49
   have hK117 ac w (x50 : TGuest) q61 F62 u N β (S : St Tryz.prog Tryz.f34.ntmps w0 F u N β (σ48.dl [0, 7, 13] [(15, .p 1 1), (18, .v (GT.val x50 q61))] 2 []) ac w) (o9 : Ow w0 F u N F8 x1.mem q2.mem) (o12 : Ow w0 F u N F11 x1.guests q2.guests) (o15 : Ow w0 F u N F14 x1.outs q2.outs) (oc : Oc bs pbs G w0 F u N F q) (o60 : Ow w0 F u N F62 x50 q61) (d118 : Disj F8 F62) (d119 : Disj F11 F62) (d120 : Disj F14 F62) (d121 : Disj F F62) (i49 : In64 x1.pend) : W 3 (mkL 6 [0, 2, 3]) ac w := by
    exact ox1 hW 1 (S.wl hW [] .nil fun _ _ _ S => hK103 _ _ x50 q61 F62 _ _ _ S o9 o12 o15 oc o60 d118 d119 d120 d121 i49)
   have hK122 ac w u N β (S : St Tryz.prog Tryz.f34.ntmps w0 F u N β (σ48.dl [0, 7, 13] [(15, .p 1 1), (17, .v (pt q.1.b (q.1.off + 0 * 3)))] 2 []) ac w) (o9 : Ow w0 F u N F8 x1.mem q2.mem) (o12 : Ow w0 F u N F11 x1.guests q2.guests) (o15 : Ow w0 F u N F14 x1.outs q2.outs) (oc : Oc bs pbs G w0 F u N F q) (hNN : NN N0 u0 N u) (hBB : BB σ48.bx.length β0 β) : W 4 (mkL 6 [0, 2]) ac w := by
    refine ox2 hW 1 3 (S.wq hW hNN hBB [] .nil fun _ _ _ S hB => hK108 _ _ _ _ _ S o9 o12 o15 oc i17 hNN hB) ?_
    refine id (S.callD1 (d := 18) oc (c_spec_l15Any w bs pbs G F q (S.cu oc)) fun ac w N x50 q123 F124 S h55 up o125 d126 ocn => ?_)
    refine WD.sl fun hC => ?_
    have d127 := Disj.w d126 o9.sub
    have d128 := Disj.w d126 o12.sub
    have d129 := Disj.w d126 o15.sub
    have d130 := Disj.w d126 oc.sub
    replace o9 := o9.upF (Disj.part (Disj.symm d7) s10) up
    replace o12 := o12.upF (Disj.part (Disj.symm d7) s13) up
    replace o15 := o15.upF (Disj.part (Disj.symm d7) s16) up
    replace oc := ocn
    clear up d126
    exact S.wh hW [] hC fun _ S => hK117 _ _ x50 q123 F124 _ _ _ S o9 o12 o15 oc o125 d127 d128 d129 d130 i17
   rw [hW]
   exact S.wh hW [0] (fun _ => S.rcx) fun _ S => hK122 _ _ _ _ _ S o9 o12 o15 oc (fun _ h => ⟨h, rfl⟩) (fun _ _ => rfl)
  clear S o9 o12 o15 oc
  rintro ac w ⟨x50, q82, F83, u, N, β, S, o9, o15, oc, o81, d131, d132, d133, i49⟩
  refine S.ex fun S => ?_
  refine S.gr 9 .nil [GT.val (⟨x1.mem, (x1.guests.set 0 x50), x1.outs, x1.pend⟩ : TBare) (⟨q2.mem, q82, q2.outs⟩ : PBare)] fun ac w β S => ?_
  have o134 := ow_Bare (x := (⟨x1.mem, (x1.guests.set 0 x50), x1.outs, x1.pend⟩ : TBare)) (p := (⟨q2.mem, q82, q2.outs⟩ : PBare)) o9 o81 o15 d131 d19 (Disj.symm d132) i49
  have o135 := o134.rw
  exact retQ1_of S (show True by clear S; trivial) rfl o135 (Disj.symm (Disj.symm (Disj.or (Disj.part (Disj.symm d7) s10) (Disj.or (Disj.symm d133) (Disj.or (Disj.part (Disj.symm d7) s16) Disj.nob))))) oc
 refine S.gd 7 .nil (x21 == 2) (fun ac w β h136 g137 S => ?_) (fun ac w β h136 g137 S => ?_)
 ·refine S.go 1 .nil fun ac w β S => ?_
  refine drw ?_
  let σ138 : Sy := ⟨[(0, .v (pt q.1.b (q.1.off + 0 * 3))), (2, .p 0 0), (3, .p 1 0), (7, .v (I x21)), (20, .v (B true))], [Zc TBare, [slv x1.mem.length q2.mem.1, slv x1.guests.length q2.guests.1, slv x1.outs.length q2.outs.1, I x1.pend]]⟩
  obtain ⟨u0, N0, β0, S, o9, o12, o15, oc⟩ : ∃ u0 N0 β0, St Tryz.prog Tryz.f34.ntmps w0 F u0 N0 β0 σ138 ac w ∧ Ow w0 F u0 N0 F8 x1.mem q2.mem ∧ Ow w0 F u0 N0 F11 x1.guests q2.guests ∧ Ow w0 F u0 N0 F14 x1.outs q2.outs ∧ Oc bs pbs G w0 F u0 N0 F q := ⟨_, _, _, S.z, o9, o12, o15, oc⟩
  refine wp_region_cut (fun ac w => ∃  (x140 : TGuest) (x161 : TGuest) (q215 : GT.Ptr (List TGuest)) (F216 : Bl) (u : _) (N : _) (β : _), St Tryz.prog Tryz.f34.ntmps w0 F u N β (σ138.dl [0, 7, 20] [] 2 [(1, [slv x1.mem.length q2.mem.1, slv (x1.guests ++ [x140, x161]).length q215.1, slv x1.outs.length q2.outs.1, I x1.pend])]) ac w ∧ Ow w0 F u N F8 x1.mem q2.mem ∧ Ow w0 F u N F14 x1.outs q2.outs ∧ Oc bs pbs G w0 F u N F q ∧ Ow w0 F u N F216 (x1.guests ++ [x140, x161]) q215 ∧ Disj F8 F216 ∧ Disj F14 F216 ∧ Disj F F216 ∧ In64 x1.pend ∧ (x140.seen.length ≤ 4) ∧ (x161.seen.length ≤ 4)) ?_ ?_
  ·refine S.draw0 (f := 10) 3 (by kernel_rfl) (by kernel_rfl) fun w S => ?_
   refine S.hq 2 [2] [] [(24, .v (pt q.1.b (q.1.off + 0 * 3)))] .nil fun ac S => ?_
   refine WD.nameW fun W hW => ?_
   refine WD.castW (l' := mkL 10 [2]) (by kernel_rfl) ?_
   have hK217 ac w (x140 : TGuest) (x161 : TGuest) q215 F216 u N β (S : St Tryz.prog Tryz.f34.ntmps w0 F u N β (σ138.dl [0, 7, 20] [] 2 [(1, [slv x1.mem.length q2.mem.1, slv (x1.guests ++ [x140, x161]).length q215.1, slv x1.outs.length q2.outs.1, I x1.pend])]) ac w) (o9 : Ow w0 F u N F8 x1.mem q2.mem) (o15 : Ow w0 F u N F14 x1.outs q2.outs) (oc : Oc bs pbs G w0 F u N F q) (o214 : Ow w0 F u N F216 (x1.guests ++ [x140, x161]) q215) (d218 : Disj F8 F216) (d219 : Disj F14 F216) (d220 : Disj F F216) (i139 : In64 x1.pend) (h145 : (x140.seen.length ≤ 4)) (h166 : (x161.seen.length ≤ 4)) : W 0 (mkL 10 [0, 1, 2, 3, 4, 5, 6, 7, 8, 9]) ac w := by
    exact od hW ⟨rfl, x140, x161, q215, F216, _, _, _, S.z, o9, o15, oc, o214, d218, d219, d220, i139, h145, h166⟩
   have hK221 ac w (x140 : TGuest) (x161 : TGuest) q212 F213 u N β (S : St Tryz.prog Tryz.f34.ntmps w0 F u N β (σ138.dl [0, 7, 20] [(29, .v (slv (x1.guests ++ [x140, x161]).length q212.1)), (30, .p 1 1)] 2 []) ac w) (o9 : Ow w0 F u N F8 x1.mem q2.mem) (o15 : Ow w0 F u N F14 x1.outs q2.outs) (oc : Oc bs pbs G w0 F u N F q) (o211 : Ow w0 F u N F213 (x1.guests ++ [x140, x161]) q212) (d222 : Disj F8 F213) (d223 : Disj F14 F213) (d224 : Disj F F213) (i139 : In64 x1.pend) (h145 : (x140.seen.length ≤ 4)) (h166 : (x161.seen.length ≤ 4)) : W 1 (mkL 10 [0, 1, 2, 3, 4, 5, 6, 7, 8]) ac w := by
    exact ox1 hW 9 (S.wl hW [] .nil fun _ _ _ S => hK217 _ _ x140 x161 q212 F213 _ _ _ S o9 o15 oc o211 d222 d223 d224 i139 h145 h166)
   have hK225 ac w (x140 : TGuest) (x161 : TGuest) q193 F194 u N β (S : St Tryz.prog Tryz.f34.ntmps w0 F u N β (σ138.dl [0, 7, 20] [(23, .v (slv x1.guests.length q2.guests.1)), (28, .v (slv 2 q193.1))] 2 []) ac w) (o9 : Ow w0 F u N F8 x1.mem q2.mem) (o12 : Ow w0 F u N F11 x1.guests q2.guests) (o15 : Ow w0 F u N F14 x1.outs q2.outs) (oc : Oc bs pbs G w0 F u N F q) (o192 : Ow w0 F u N F194 ([x140, x161]) q193) (d226 : Disj F8 F194) (d227 : Disj F11 F194) (d228 : Disj F14 F194) (d229 : Disj F F194) (i139 : In64 x1.pend) (h145 : (x140.seen.length ≤ 4)) (h166 : (x161.seen.length ≤ 4)) : W 3 (mkL 10 [0, 1, 2, 3, 4, 5, 6]) ac w := by
    refine ox1 hW 7 ?_
    have b234 : 2 ≤ 4194304 := LRd.le o192.rn
    refine id (S.appOwn (α := TGuest) o12 o192 d227 (by' := 184) (d := 29) (lx := x1.guests.length) (ly := 2) rfl rfl (by kernel_rfl) (show _ ≤ 4194304 by simp only [List.length_append, List.length_cons, List.length_nil]; omega) fun ac w N q230 F231 S up o232 d233 => ?_)
    refine WD.sl fun hC => ?_
    have d235 := d233 _ d18 d226 o9.sub
    have d236 := d233 _ (Disj.symm d20) d228 o15.sub
    have d237 := d233 _ (Disj.symm (Disj.part (Disj.symm d7) s13)) d229 oc.sub
    replace o9 := o9.upF d18 up
    replace o15 := o15.upF (Disj.symm d20) up
    replace oc := oc.upF (Disj.symm (Disj.part (Disj.symm d7) s13)) up
    clear up d233
    exact S.wh hW [8] hC fun _ S => hK221 _ _ x140 x161 q230 F231 _ _ _ S o9 o15 oc o232 d235 d236 d237 i139 h145 h166
   have hK238 ac w (x140 : TGuest) (x161 : TGuest) q151 F152 q173 F174 u N β (S : St Tryz.prog Tryz.f34.ntmps w0 F u N β (σ138.dl [0, 7, 20] [(23, .v (slv x1.guests.length q2.guests.1)), (25, .v (GT.val x140 q151)), (27, .v (GT.val x161 q173))] 2 []) ac w) (o9 : Ow w0 F u N F8 x1.mem q2.mem) (o12 : Ow w0 F u N F11 x1.guests q2.guests) (o15 : Ow w0 F u N F14 x1.outs q2.outs) (oc : Oc bs pbs G w0 F u N F q) (o150 : Ow w0 F u N F152 x140 q151) (o172 : Ow w0 F u N F174 x161 q173) (d239 : Disj F8 F152) (d240 : Disj F8 F174) (d241 : Disj F11 F152) (d242 : Disj F11 F174) (d243 : Disj F14 F152) (d244 : Disj F14 F174) (d245 : Disj F F152) (d246 : Disj F F174) (d247 : Disj F152 F174) (i139 : In64 x1.pend) (h145 : (x140.seen.length ≤ 4)) (h166 : (x161.seen.length ≤ 4)) : W 4 (mkL 10 [0, 1, 2, 3, 4, 5]) ac w := by
    refine ox1 hW 6 ?_
    refine id (S.bs2 (d := 28) o150 o172 d247 fun ac w N q248 F249 S up o250 d251 => ?_)
    refine WD.sl fun hC => ?_
    have d252 := d251 _ d239 d240 o9.sub
    have d253 := d251 _ d241 d242 o12.sub
    have d254 := d251 _ d243 d244 o15.sub
    have d255 := d251 _ d245 d246 oc.sub
    replace o9 := o9.up up
    replace o12 := o12.up up
    replace o15 := o15.up up
    replace oc := oc.up up
    clear up d251
    exact S.wh hW [] hC fun _ S => hK225 _ _ x140 x161 q248 F249 _ _ _ S o9 o12 o15 oc o250 d252 d253 d254 d255 i139 h145 h166
   have hK256 ac w (x140 : TGuest) (x161 : TGuest) q193 F194 u N β (S : St Tryz.prog Tryz.f34.ntmps w0 F u N β (σ138.dl [0, 7, 20] [(22, .p 1 1), (28, .v (slv 2 q193.1))] 2 []) ac w) (o9 : Ow w0 F u N F8 x1.mem q2.mem) (o12 : Ow w0 F u N F11 x1.guests q2.guests) (o15 : Ow w0 F u N F14 x1.outs q2.outs) (oc : Oc bs pbs G w0 F u N F q) (o192 : Ow w0 F u N F194 ([x140, x161]) q193) (d257 : Disj F8 F194) (d258 : Disj F11 F194) (d259 : Disj F14 F194) (d260 : Disj F F194) (i139 : In64 x1.pend) (h145 : (x140.seen.length ≤ 4)) (h166 : (x161.seen.length ≤ 4)) : W 4 (mkL 10 [0, 2, 3, 4, 5, 6]) ac w := by
    exact ox1 hW 1 (S.wl hW [] .nil fun _ _ _ S => hK225 _ _ x140 x161 q193 F194 _ _ _ S o9 o12 o15 oc o192 d257 d258 d259 d260 i139 h145 h166)
   have hK261 ac w (x140 : TGuest) q151 F152 u N β (S : St Tryz.prog Tryz.f34.ntmps w0 F u N β (σ138.dl [0, 7, 20] [(23, .v (slv x1.guests.length q2.guests.1)), (25, .v (GT.val x140 q151)), (26, .v (pt q.1.b (q.1.off + 0 * 3)))] 2 []) ac w) (o9 : Ow w0 F u N F8 x1.mem q2.mem) (o12 : Ow w0 F u N F11 x1.guests q2.guests) (o15 : Ow w0 F u N F14 x1.outs q2.outs) (oc : Oc bs pbs G w0 F u N F q) (o150 : Ow w0 F u N F152 x140 q151) (d262 : Disj F8 F152) (d263 : Disj F11 F152) (d264 : Disj F14 F152) (d265 : Disj F F152) (i139 : In64 x1.pend) (h145 : (x140.seen.length ≤ 4)) : W 5 (mkL 10 [0, 1, 2, 3, 4]) ac w := by
    refine ox1 hW 5 ?_
    refine id (S.callD1 (d := 27) oc (c_spec_l15Guest w bs pbs G F q (S.cu oc)) fun ac w N x161 q266 F267 S h166 up o268 d269 ocn => ?_)
    refine WD.sl fun hC => ?_
    have d270 := Disj.w d269 o9.sub
    have d271 := Disj.w d269 o12.sub
    have d272 := Disj.w d269 o15.sub
    have d273 := Disj.w d269 o150.sub
    have d274 := Disj.w d269 oc.sub
    replace o9 := o9.upF (Disj.part (Disj.symm d7) s10) up
    replace o12 := o12.upF (Disj.part (Disj.symm d7) s13) up
    replace o15 := o15.upF (Disj.part (Disj.symm d7) s16) up
    replace o150 := o150.upF (Disj.symm d265) up
    replace oc := ocn
    clear up d269
    exact S.wh hW [] hC fun _ S => hK238 _ _ x140 x161 q151 F152 q266 F267 _ _ _ S o9 o12 o15 oc o150 o268 d262 d270 d263 d271 d264 d272 d265 d274 d273 i139 h145 h166
   have hK275 ac w (x140 : TGuest) (x161 : TGuest) q151 F152 q173 F174 u N β (S : St Tryz.prog Tryz.f34.ntmps w0 F u N β (σ138.dl [0, 7, 20] [(22, .p 1 1), (25, .v (GT.val x140 q151)), (27, .v (GT.val x161 q173))] 2 []) ac w) (o9 : Ow w0 F u N F8 x1.mem q2.mem) (o12 : Ow w0 F u N F11 x1.guests q2.guests) (o15 : Ow w0 F u N F14 x1.outs q2.outs) (oc : Oc bs pbs G w0 F u N F q) (o150 : Ow w0 F u N F152 x140 q151) (o172 : Ow w0 F u N F174 x161 q173) (d276 : Disj F8 F152) (d277 : Disj F8 F174) (d278 : Disj F11 F152) (d279 : Disj F11 F174) (d280 : Disj F14 F152) (d281 : Disj F14 F174) (d282 : Disj F F152) (d283 : Disj F F174) (d284 : Disj F152 F174) (i139 : In64 x1.pend) (h145 : (x140.seen.length ≤ 4)) (h166 : (x161.seen.length ≤ 4)) : W 5 (mkL 10 [0, 2, 3, 4, 5]) ac w := by
    refine ox2 hW 1 6 (S.wl hW [] .nil fun _ _ _ S => hK238 _ _ x140 x161 q151 F152 q173 F174 _ _ _ S o9 o12 o15 oc o150 o172 d276 d277 d278 d279 d280 d281 d282 d283 d284 i139 h145 h166) ?_
    refine id (S.bs2 (d := 28) o150 o172 d284 fun ac w N q285 F286 S up o287 d288 => ?_)
    refine WD.sl fun hC => ?_
    have d289 := d288 _ d276 d277 o9.sub
    have d290 := d288 _ d278 d279 o12.sub
    have d291 := d288 _ d280 d281 o15.sub
    have d292 := d288 _ d282 d283 oc.sub
    replace o9 := o9.up up
    replace o12 := o12.up up
    replace o15 := o15.up up
    replace oc := oc.up up
    clear up d288
    exact S.wh hW [] hC fun _ S => hK256 _ _ x140 x161 q285 F286 _ _ _ S o9 o12 o15 oc o287 d289 d290 d291 d292 i139 h145 h166
   have hK293 ac w u N β (S : St Tryz.prog Tryz.f34.ntmps w0 F u N β (σ138.dl [0, 7, 20] [(23, .v (slv x1.guests.length q2.guests.1)), (24, .v (pt q.1.b (q.1.off + 0 * 3))), (26, .v (pt q.1.b (q.1.off + 0 * 3)))] 2 []) ac w) (o9 : Ow w0 F u N F8 x1.mem q2.mem) (o12 : Ow w0 F u N F11 x1.guests q2.guests) (o15 : Ow w0 F u N F14 x1.outs q2.outs) (oc : Oc bs pbs G w0 F u N F q) (i139 : In64 x1.pend) (hNN : NN N0 u0 N u) (hBB : BB σ138.bx.length β0 β) : W 6 (mkL 10 [0, 1, 2, 4]) ac w := by
    refine ox1 hW 3 ?_
    refine id (S.callD1 (d := 25) oc (c_spec_l15Guest w bs pbs G F q (S.cu oc)) fun ac w N x140 q294 F295 S h145 up o296 d297 ocn => ?_)
    refine WD.sl fun hC => ?_
    have d298 := Disj.w d297 o9.sub
    have d299 := Disj.w d297 o12.sub
    have d300 := Disj.w d297 o15.sub
    have d301 := Disj.w d297 oc.sub
    replace o9 := o9.upF (Disj.part (Disj.symm d7) s10) up
    replace o12 := o12.upF (Disj.part (Disj.symm d7) s13) up
    replace o15 := o15.upF (Disj.part (Disj.symm d7) s16) up
    replace oc := ocn
    clear up d297
    exact S.wh hW [] hC fun _ S => hK261 _ _ x140 q294 F295 _ _ _ S o9 o12 o15 oc o296 d298 d299 d300 d301 i139 h145
   have hK302 ac w (x140 : TGuest) q151 F152 u N β (S : St Tryz.prog Tryz.f34.ntmps w0 F u N β (σ138.dl [0, 7, 20] [(22, .p 1 1), (25, .v (GT.val x140 q151)), (26, .v (pt q.1.b (q.1.off + 0 * 3)))] 2 []) ac w) (o9 : Ow w0 F u N F8 x1.mem q2.mem) (o12 : Ow w0 F u N F11 x1.guests q2.guests) (o15 : Ow w0 F u N F14 x1.outs q2.outs) (oc : Oc bs pbs G w0 F u N F q) (o150 : Ow w0 F u N F152 x140 q151) (d303 : Disj F8 F152) (d304 : Disj F11 F152) (d305 : Disj F14 F152) (d306 : Disj F F152) (i139 : In64 x1.pend) (h145 : (x140.seen.length ≤ 4)) : W 6 (mkL 10 [0, 2, 3, 4]) ac w := by
    refine ox2 hW 1 5 (S.wl hW [] .nil fun _ _ _ S => hK261 _ _ x140 q151 F152 _ _ _ S o9 o12 o15 oc o150 d303 d304 d305 d306 i139 h145) ?_
    refine id (S.callD1 (d := 27) oc (c_spec_l15Guest w bs pbs G F q (S.cu oc)) fun ac w N x161 q307 F308 S h166 up o309 d310 ocn => ?_)
    refine WD.sl fun hC => ?_
    have d311 := Disj.w d310 o9.sub
    have d312 := Disj.w d310 o12.sub
    have d313 := Disj.w d310 o15.sub
    have d314 := Disj.w d310 o150.sub
    have d315 := Disj.w d310 oc.sub
    replace o9 := o9.upF (Disj.part (Disj.symm d7) s10) up
    replace o12 := o12.upF (Disj.part (Disj.symm d7) s13) up
    replace o15 := o15.upF (Disj.part (Disj.symm d7) s16) up
    replace o150 := o150.upF (Disj.symm d306) up
    replace oc := ocn
    clear up d310
    exact S.wh hW [] hC fun _ S => hK275 _ _ x140 x161 q151 F152 q307 F308 _ _ _ S o9 o12 o15 oc o150 o309 d303 d311 d304 d312 d305 d313 d306 d315 d314 i139 h145 h166
   have hK316 ac w u N β (S : St Tryz.prog Tryz.f34.ntmps w0 F u N β (σ138.dl [0, 7, 20] [(22, .p 1 1), (24, .v (pt q.1.b (q.1.off + 0 * 3))), (26, .v (pt q.1.b (q.1.off + 0 * 3)))] 2 []) ac w) (o9 : Ow w0 F u N F8 x1.mem q2.mem) (o12 : Ow w0 F u N F11 x1.guests q2.guests) (o15 : Ow w0 F u N F14 x1.outs q2.outs) (oc : Oc bs pbs G w0 F u N F q) (hNN : NN N0 u0 N u) (hBB : BB σ138.bx.length β0 β) : W 7 (mkL 10 [0, 2, 4]) ac w := by
    refine ox2 hW 1 3 (S.wq hW hNN hBB [] .nil fun _ _ _ S hB => hK293 _ _ _ _ _ S o9 o12 o15 oc i17 hNN hB) ?_
    refine id (S.callD1 (d := 25) oc (c_spec_l15Guest w bs pbs G F q (S.cu oc)) fun ac w N x140 q317 F318 S h145 up o319 d320 ocn => ?_)
    refine WD.sl fun hC => ?_
    have d321 := Disj.w d320 o9.sub
    have d322 := Disj.w d320 o12.sub
    have d323 := Disj.w d320 o15.sub
    have d324 := Disj.w d320 oc.sub
    replace o9 := o9.upF (Disj.part (Disj.symm d7) s10) up
    replace o12 := o12.upF (Disj.part (Disj.symm d7) s13) up
    replace o15 := o15.upF (Disj.part (Disj.symm d7) s16) up
    replace oc := ocn
    clear up d320
    exact S.wh hW [] hC fun _ S => hK302 _ _ x140 q317 F318 _ _ _ S o9 o12 o15 oc o319 d321 d322 d323 d324 i17 h145
   rw [hW]
   exact S.wh hW [0, 4] (fun _ => S.rcx) fun _ S => hK316 _ _ _ _ _ S o9 o12 o15 oc (fun _ h => ⟨h, rfl⟩) (fun _ _ => rfl)
  clear S o9 o12 o15 oc
  rintro ac w ⟨x140, x161, q215, F216, u, N, β, S, o9, o15, oc, o214, d325, d326, d327, i139, h145, h166⟩
  refine S.ex fun S => ?_
  refine S.gr 9 .nil [GT.val (⟨x1.mem, (x1.guests ++ [x140, x161]), x1.outs, x1.pend⟩ : TBare) (⟨q2.mem, q215, q2.outs⟩ : PBare)] fun ac w β S => ?_
  have o328 := ow_Bare (x := (⟨x1.mem, (x1.guests ++ [x140, x161]), x1.outs, x1.pend⟩ : TBare)) (p := (⟨q2.mem, q215, q2.outs⟩ : PBare)) o9 o214 o15 d325 d19 (Disj.symm d326) i139
  have o329 := o328.rw
  exact retQ1_of S (show True by clear S; trivial) rfl o329 (Disj.symm (Disj.symm (Disj.or (Disj.part (Disj.symm d7) s10) (Disj.or (Disj.symm d327) (Disj.or (Disj.part (Disj.symm d7) s16) Disj.nob))))) oc
 refine S.gd 7 .nil (x21 == 3) (fun ac w β h330 g331 S => ?_) (fun ac w β h330 g331 S => ?_)
 ·refine S.gr 14 .nil [GT.val (⟨x1.mem, ([] : List TGuest), x1.outs, x1.pend⟩ : TBare) (⟨q2.mem, (GT.pdflt (α := List TGuest)), q2.outs⟩ : PBare)] fun ac w β S => ?_
  have o332 := S.nilOw (α := TGuest)
  have o333 := ow_Bare (x := (⟨x1.mem, ([] : List TGuest), x1.outs, x1.pend⟩ : TBare)) (p := (⟨q2.mem, (GT.pdflt (α := List TGuest)), q2.outs⟩ : PBare)) o9 o332 o15 (fun b _ h => False.elim h) d19 (Disj.symm (fun b _ h => False.elim h)) i17
  have o334 := o333.rw
  exact retQ1_of S (show True by clear S; trivial) rfl o334 (Disj.symm (Disj.symm (Disj.or (Disj.part (Disj.symm d7) s10) (Disj.or (Disj.symm (fun b _ h => False.elim h)) (Disj.or (Disj.part (Disj.symm d7) s16) Disj.nob))))) oc
 refine S.gd 7 .nil (x21 == 4) (fun ac w β h335 g336 S => ?_) (fun ac w β h335 g336 S => ?_)
 ·refine S.go 2 .nil fun ac w β S => ?_
  refine lp (fun mm ac w => ∃ (os : List Int) (q337 : _) (F338 : _) (u : _) (N : _) (β : _), mm = 41 - os.length ∧ (os.length ≤ 41) ∧ St Tryz.prog Tryz.f34.ntmps w0 F u N β ⟨[(0, .v (pt q.1.b (q.1.off + 0 * 3))), (2, .p 0 0), (3, .p 1 0)], [Zc TBare, [slv x1.mem.length q2.mem.1, slv x1.guests.length q2.guests.1, slv os.length q337.1, I x1.pend]]⟩ ac w ∧ Ow w0 F u N F338 os q337 ∧ Ow w0 F u N F8 x1.mem q2.mem ∧ Ow w0 F u N F11 x1.guests q2.guests ∧ Oc bs pbs G w0 F u N F q ∧ Disj F338 F8 ∧ Disj F338 F11 ∧ Disj F338 F) _ ⟨x1.outs, q2.outs, F14, _, _, _, rfl, o0, S.z, o15, o9, o12, oc, (Disj.symm d19), (Disj.symm d20), (Disj.part (Disj.symm d7) s16)⟩ ?_
  clear S o12 o15 o9 oc
  rintro f343 mm hf344 ac w ⟨os, q337, F338, u, N, β, rfl, hl, S, o339, o9, o12, oc, d340, d341, d342⟩
  refine S.rs fun S => ?_
  refine S.go 2 .nil fun ac w β S => ?_
  refine drw ?_
  let σ345 : Sy := ⟨[(0, .v (pt q.1.b (q.1.off + 0 * 3))), (2, .p 0 0), (3, .p 1 0)], [Zc TBare, [slv x1.mem.length q2.mem.1, slv x1.guests.length q2.guests.1, slv os.length q337.1, I x1.pend]]⟩
  obtain ⟨u0, N0, β0, S, o339, o9, o12, oc⟩ : ∃ u0 N0 β0, St Tryz.prog Tryz.f34.ntmps w0 F u0 N0 β0 σ345 ac w ∧ Ow w0 F u0 N0 F338 os q337 ∧ Ow w0 F u0 N0 F8 x1.mem q2.mem ∧ Ow w0 F u0 N0 F11 x1.guests q2.guests ∧ Oc bs pbs G w0 F u0 N0 F q := ⟨_, _, _, S.z, o339, o9, o12, oc⟩
  refine wp_region_cut (fun ac w => ∃  (x347 : Int)  (u : _) (N : _) (β : _), St Tryz.prog Tryz.f34.ntmps w0 F u N β (σ345.dl [] [(42, .v (B (decide ((os.length : Int) < (39 + x347)))))] 2 []) ac w ∧ Ow w0 F u N F338 os q337 ∧ Ow w0 F u N F8 x1.mem q2.mem ∧ Ow w0 F u N F11 x1.guests q2.guests ∧ Oc bs pbs G w0 F u N F q ∧ In64 x1.pend ∧ (((3 : Int) ≤ 0 → x347 = 0) ∧ ((0 : Int) < 3 → 0 ≤ x347 ∧ x347 < 3)) ∧ (In64 x347)) ?_ ?_
  ·refine S.draw0 (f := 7) 4 (by kernel_rfl) (by kernel_rfl) fun w S => ?_
   refine S.hq 3 [3] [] [(39, .v (pt q.1.b (q.1.off + 0 * 3)))] .nil fun ac S => ?_
   refine WD.nameW fun W hW => ?_
   refine WD.castW (l' := mkL 7 [3]) (by kernel_rfl) ?_
   have hK368 ac w (x347 : Int) u N β (S : St Tryz.prog Tryz.f34.ntmps w0 F u N β (σ345.dl [] [(42, .v (B (decide ((os.length : Int) < (39 + x347)))))] 2 []) ac w) (o339 : Ow w0 F u N F338 os q337) (o9 : Ow w0 F u N F8 x1.mem q2.mem) (o12 : Ow w0 F u N F11 x1.guests q2.guests) (oc : Oc bs pbs G w0 F u N F q) (i346 : In64 x1.pend) (h352 : (((3 : Int) ≤ 0 → x347 = 0) ∧ ((0 : Int) < 3 → 0 ≤ x347 ∧ x347 < 3))) (i353 : (In64 x347)) : W 0 (mkL 7 [0, 1, 2, 3, 4, 5, 6]) ac w := by
    have l369 := i353.lo; have l370 := i353.hi
    exact od hW ⟨rfl, x347, _, _, _, S.z, o339, o9, o12, oc, i346, h352, i353⟩
   have hK371 ac w (x347 : Int) u N β (S : St Tryz.prog Tryz.f34.ntmps w0 F u N β (σ345.dl [] [(38, .v (I (os.length : Int))), (40, .v (I x347))] 2 []) ac w) (o339 : Ow w0 F u N F338 os q337) (o9 : Ow w0 F u N F8 x1.mem q2.mem) (o12 : Ow w0 F u N F11 x1.guests q2.guests) (oc : Oc bs pbs G w0 F u N F q) (i346 : In64 x1.pend) (h352 : (((3 : Int) ≤ 0 → x347 = 0) ∧ ((0 : Int) < 3 → 0 ≤ x347 ∧ x347 < 3))) (i353 : (In64 x347)) : W 2 (mkL 7 [0, 1, 2, 3, 4]) ac w := by
    have l372 := i353.lo; have l373 := i353.hi
    exact ox1 hW 5 (S.wl hW [6] (.cons (qp 39 x347) .nil) fun _ _ _ S => hK368 _ _ x347 _ _ _ S o339 o9 o12 oc i346 h352 i353)
   have hK374 ac w (x347 : Int) u N β (S : St Tryz.prog Tryz.f34.ntmps w0 F u N β (σ345.dl [] [(37, .v (slv os.length q337.1)), (41, .v (I (39 + x347)))] 2 []) ac w) (o339 : Ow w0 F u N F338 os q337) (o9 : Ow w0 F u N F8 x1.mem q2.mem) (o12 : Ow w0 F u N F11 x1.guests q2.guests) (oc : Oc bs pbs G w0 F u N F q) (i346 : In64 x1.pend) (h352 : (((3 : Int) ≤ 0 → x347 = 0) ∧ ((0 : Int) < 3 → 0 ≤ x347 ∧ x347 < 3))) (i353 : (In64 x347)) : W 2 (mkL 7 [0, 1, 3, 4, 5]) ac w := by
    have l375 := i353.lo; have l376 := i353.hi
    exact ox1 hW 2 (S.wl hW [6] .nil fun _ _ _ S => hK368 _ _ x347 _ _ _ S o339 o9 o12 oc i346 h352 i353)
   have hK377 ac w u N β (S : St Tryz.prog Tryz.f34.ntmps w0 F u N β (σ345.dl [] [(38, .v (I (os.length : Int))), (39, .v (pt q.1.b (q.1.off + 0 * 3)))] 2 []) ac w) (o339 : Ow w0 F u N F338 os q337) (o9 : Ow w0 F u N F8 x1.mem q2.mem) (o12 : Ow w0 F u N F11 x1.guests q2.guests) (oc : Oc bs pbs G w0 F u N F q) (i346 : In64 x1.pend) (hNN : NN N0 u0 N u) (hBB : BB σ345.bx.length β0 β) : W 3 (mkL 7 [0, 1, 2, 3]) ac w := by
    refine ox1 hW 4 ?_
    refine id (S.callD1 (d := 40) oc (c_spec_l01Below w bs pbs G F q (S.cu oc) 3 (show In64 3 from ⟨by decide, by decide⟩)) fun ac w N x347 q378 F379 S h352 up o380 d381 ocn => ?_)
    refine WD.sl fun hC => ?_
    replace o339 := o339.upF d342 up
    replace o9 := o9.upF (Disj.part (Disj.symm d7) s10) up
    replace o12 := o12.upF (Disj.part (Disj.symm d7) s13) up
    replace oc := ocn
    clear up d381
    have i353 : In64 x347 := o380.own
    have l382 := i353.lo; have l383 := i353.hi
    exact S.wh hW [] hC fun _ S => hK371 _ _ x347 _ _ _ S o339 o9 o12 oc i346 h352 i353
   have hK384 ac w (x347 : Int) u N β (S : St Tryz.prog Tryz.f34.ntmps w0 F u N β (σ345.dl [] [(37, .v (slv os.length q337.1)), (40, .v (I x347))] 2 []) ac w) (o339 : Ow w0 F u N F338 os q337) (o9 : Ow w0 F u N F8 x1.mem q2.mem) (o12 : Ow w0 F u N F11 x1.guests q2.guests) (oc : Oc bs pbs G w0 F u N F q) (i346 : In64 x1.pend) (h352 : (((3 : Int) ≤ 0 → x347 = 0) ∧ ((0 : Int) < 3 → 0 ≤ x347 ∧ x347 < 3))) (i353 : (In64 x347)) : W 3 (mkL 7 [0, 1, 3, 4]) ac w := by
    have l385 := i353.lo; have l386 := i353.hi
    exact ox2 hW 2 5 (S.wl hW [] .nil fun _ _ _ S => hK371 _ _ x347 _ _ _ S o339 o9 o12 oc i346 h352 i353) (S.wl hW [] (.cons (qp 39 x347) .nil) fun _ _ _ S => hK374 _ _ x347 _ _ _ S o339 o9 o12 oc i346 h352 i353)
   have hK387 ac w (x347 : Int) u N β (S : St Tryz.prog Tryz.f34.ntmps w0 F u N β (σ345.dl [] [(36, .p 1 2), (41, .v (I (39 + x347)))] 2 []) ac w) (o339 : Ow w0 F u N F338 os q337) (o9 : Ow w0 F u N F8 x1.mem q2.mem) (o12 : Ow w0 F u N F11 x1.guests q2.guests) (oc : Oc bs pbs G w0 F u N F q) (i346 : In64 x1.pend) (h352 : (((3 : Int) ≤ 0 → x347 = 0) ∧ ((0 : Int) < 3 → 0 ≤ x347 ∧ x347 < 3))) (i353 : (In64 x347)) : W 3 (mkL 7 [0, 3, 4, 5]) ac w := by
    have l388 := i353.lo; have l389 := i353.hi
    exact ox1 hW 1 (S.wl hW [] .nil fun _ _ _ S => hK374 _ _ x347 _ _ _ S o339 o9 o12 oc i346 h352 i353)
   have hK390 ac w u N β (S : St Tryz.prog Tryz.f34.ntmps w0 F u N β (σ345.dl [] [(37, .v (slv os.length q337.1)), (39, .v (pt q.1.b (q.1.off + 0 * 3)))] 2 []) ac w) (o339 : Ow w0 F u N F338 os q337) (o9 : Ow w0 F u N F8 x1.mem q2.mem) (o12 : Ow w0 F u N F11 x1.guests q2.guests) (oc : Oc bs pbs G w0 F u N F q) (i346 : In64 x1.pend) (hNN : NN N0 u0 N u) (hBB : BB σ345.bx.length β0 β) : W 4 (mkL 7 [0, 1, 3]) ac w := by
    refine ox2 hW 2 4 (S.wq hW hNN hBB [] .nil fun _ _ _ S hB => hK377 _ _ _ _ _ S o339 o9 o12 oc i346 hNN hB) ?_
    refine id (S.callD1 (d := 40) oc (c_spec_l01Below w bs pbs G F q (S.cu oc) 3 (show In64 3 from ⟨by decide, by decide⟩)) fun ac w N x347 q391 F392 S h352 up o393 d394 ocn => ?_)
    refine WD.sl fun hC => ?_
    replace o339 := o339.upF d342 up
    replace o9 := o9.upF (Disj.part (Disj.symm d7) s10) up
    replace o12 := o12.upF (Disj.part (Disj.symm d7) s13) up
    replace oc := ocn
    clear up d394
    have i353 : In64 x347 := o393.own
    have l395 := i353.lo; have l396 := i353.hi
    exact S.wh hW [] hC fun _ S => hK384 _ _ x347 _ _ _ S o339 o9 o12 oc i346 h352 i353
   have hK397 ac w (x347 : Int) u N β (S : St Tryz.prog Tryz.f34.ntmps w0 F u N β (σ345.dl [] [(36, .p 1 2), (40, .v (I x347))] 2 []) ac w) (o339 : Ow w0 F u N F338 os q337) (o9 : Ow w0 F u N F8 x1.mem q2.mem) (o12 : Ow w0 F u N F11 x1.guests q2.guests) (oc : Oc bs pbs G w0 F u N F q) (i346 : In64 x1.pend) (h352 : (((3 : Int) ≤ 0 → x347 = 0) ∧ ((0 : Int) < 3 → 0 ≤ x347 ∧ x347 < 3))) (i353 : (In64 x347)) : W 4 (mkL 7 [0, 3, 4]) ac w := by
    have l398 := i353.lo; have l399 := i353.hi
    exact ox2 hW 1 5 (S.wl hW [] .nil fun _ _ _ S => hK384 _ _ x347 _ _ _ S o339 o9 o12 oc i346 h352 i353) (S.wl hW [] (.cons (qp 39 x347) .nil) fun _ _ _ S => hK387 _ _ x347 _ _ _ S o339 o9 o12 oc i346 h352 i353)
   have hK400 ac w u N β (S : St Tryz.prog Tryz.f34.ntmps w0 F u N β (σ345.dl [] [(36, .p 1 2), (39, .v (pt q.1.b (q.1.off + 0 * 3)))] 2 []) ac w) (o339 : Ow w0 F u N F338 os q337) (o9 : Ow w0 F u N F8 x1.mem q2.mem) (o12 : Ow w0 F u N F11 x1.guests q2.guests) (oc : Oc bs pbs G w0 F u N F q) (hNN : NN N0 u0 N u) (hBB : BB σ345.bx.length β0 β) : W 5 (mkL 7 [0, 3]) ac w := by
    refine ox2 hW 1 4 (S.wq hW hNN hBB [] .nil fun _ _ _ S hB => hK390 _ _ _ _ _ S o339 o9 o12 oc i17 hNN hB) ?_
    refine id (S.callD1 (d := 40) oc (c_spec_l01Below w bs pbs G F q (S.cu oc) 3 (show In64 3 from ⟨by decide, by decide⟩)) fun ac w N x347 q401 F402 S h352 up o403 d404 ocn => ?_)
    refine WD.sl fun hC => ?_
    replace o339 := o339.upF d342 up
    replace o9 := o9.upF (Disj.part (Disj.symm d7) s10) up
    replace o12 := o12.upF (Disj.part (Disj.symm d7) s13) up
    replace oc := ocn
    clear up d404
    have i353 : In64 x347 := o403.own
    have l405 := i353.lo; have l406 := i353.hi
    exact S.wh hW [] hC fun _ S => hK397 _ _ x347 _ _ _ S o339 o9 o12 oc i17 h352 i353
   rw [hW]
   exact S.wh hW [0] (fun _ => S.rcx) fun _ S => hK400 _ _ _ _ _ S o339 o9 o12 oc (fun _ h => ⟨h, rfl⟩) (fun _ _ => rfl)
  clear S o339 o9 o12 oc
  rintro ac w ⟨x347, u, N, β, S, o339, o9, o12, oc, i346, h352, i353⟩
  have l407 := i353.lo; have l408 := i353.hi
  refine S.ex fun S => ?_
  refine S.gd 1 .nil (decide ((os.length : Int) < (39 + x347))) (fun ac w β h409 g410 S => ?_) (fun ac w β h409 g410 S => ?_)
  ·refine S.go 7 .nil fun ac w β S => S.B1 (α := Int) (x := 1) (p := ()) (F := NoB) (show In64 1 from ⟨by decide, by decide⟩) (fun b h => False.elim h) (fun b h => False.elim h) (d := 45) fun ac w N q411 F412 S up o413 d414 => ?_
   replace o339 := o339.up up
   replace o9 := o9.up up
   replace o12 := o12.up up
   replace oc := oc.up up
   clear up d414
   refine S.AF (α := Int) o339 o413.rn (fun _ _ h => h) (by' := 8) (d := 46) (lx := os.length) (ly := 1) rfl rfl (show _ ≤ 4194304 by simp only [List.length_append, List.length_cons, List.length_nil]; omega) fun ac w N q419 F420 S up o421 d422 => ?_
   have d423 := d422 _ (Disj.symm d340) o9.sub
   have d424 := d422 _ (Disj.symm d341) o12.sub
   have d425 := d422 _ (Disj.symm d342) oc.sub
   replace o9 := o9.upF (Disj.symm d340) up
   replace o12 := o12.upF (Disj.symm d341) up
   replace oc := oc.upF (Disj.symm d342) up
   clear up d422
   refine S.ge 4 .nil f343 fun ac w β S => hf344.of (41 - (os ++ [1]).length) _ _ (by (simp; omega)) ⟨(os ++ [1]), q419, F420, _, _, _, rfl, ?_, S.z, o421, o9, o12, oc, (Disj.symm d423), (Disj.symm d424), (Disj.symm d425)⟩
   ·clear S; (simp; omega)
  refine S.gr 14 .nil [GT.val (⟨x1.mem, x1.guests, os, x1.pend⟩ : TBare) (⟨q2.mem, q2.guests, q337⟩ : PBare)] fun ac w β S => ?_
  have o427 := ow_Bare (x := (⟨x1.mem, x1.guests, os, x1.pend⟩ : TBare)) (p := (⟨q2.mem, q2.guests, q337⟩ : PBare)) o9 o12 o339 d18 (Disj.symm d340) (Disj.symm d341) i346
  have o428 := o427.rw
  exact retQ1_of S (show True by clear S; trivial) rfl o428 (Disj.symm (Disj.symm (Disj.or (Disj.part (Disj.symm d7) s10) (Disj.or (Disj.part (Disj.symm d7) s13) (Disj.or d342 Disj.nob))))) oc
 refine S.gd 7 .nil (x21 == 5) (fun ac w β h429 g430 S => ?_) (fun ac w β h429 g430 S => ?_)
 ·refine S.go 3 .nil fun ac w β S => S.KD1 (d := 51) oc (c_spec_l14Pend w bs pbs G F q (S.cu oc)) fun ac w N x431 q432 F433 S h436 up o434 d435 ocn => ?_
  replace o9 := o9.upF (Disj.part (Disj.symm d7) s10) up
  replace o12 := o12.upF (Disj.part (Disj.symm d7) s13) up
  replace o15 := o15.upF (Disj.part (Disj.symm d7) s16) up
  replace oc := ocn
  clear up d435
  have i437 : In64 x431 := o434.own
  have l438 := i437.lo; have l439 := i437.hi
  refine S.gr 12 .nil [GT.val (⟨x1.mem, x1.guests, x1.outs, x431⟩ : TBare) (⟨q2.mem, q2.guests, q2.outs⟩ : PBare)] fun ac w β S => ?_
  have o440 := ow_Bare (x := (⟨x1.mem, x1.guests, x1.outs, x431⟩ : TBare)) (p := (⟨q2.mem, q2.guests, q2.outs⟩ : PBare)) o9 o12 o15 d18 d19 d20 i437
  have o441 := o440.rw
  exact retQ1_of S (show True by clear S; trivial) rfl o441 (Disj.symm (Disj.symm (Disj.or (Disj.part (Disj.symm d7) s10) (Disj.or (Disj.part (Disj.symm d7) s13) (Disj.or (Disj.part (Disj.symm d7) s16) Disj.nob))))) oc
 refine S.gr 11 .nil [GT.val x1 q2] fun ac w β S => ?_
 have o442 := ow_Bare (x := x1) (p := q2) o9 o12 o15 d18 d19 d20 i17
 have o443 := o442.rw
 exact retQ1_of S (show True by clear S; trivial) rfl o443 (Disj.symm (Disj.symm (Disj.or (Disj.part (Disj.symm d7) s10) (Disj.or (Disj.part (Disj.symm d7) s13) (Disj.or (Disj.part (Disj.symm d7) s16) Disj.nob))))) oc

theorem c_spec_l17At (w0 : World) (bs : List TByte) (pbs : LP TByte) (G F : Bl) (q : LP TCur) (hc : Cu bs pbs G F w0 q) : Calls Tryz.prog 35 [pt q.1.b (q.1.off + 0 * 3)].toArray w0 (RetD1 bs pbs G F q w0 (fun (r : Int) => True)) := by
 refine Calls.run F Tryz.func35 ?_
 intro ac β S
 have oc := hc.oc
 refine S.go 8 .nil fun ac w β S => S.BF ([0, 0, 1, 1, 2, (-1), 9223372036854775807] : List Int) () (d := 4) (List.forall_mem_cons.2 ⟨fun _ => (show In64 0 from ⟨by decide, by decide⟩), List.forall_mem_cons.2 ⟨fun _ => (show In64 0 from ⟨by decide, by decide⟩), List.forall_mem_cons.2 ⟨fun _ => (show In64 1 from ⟨by decide, by decide⟩), List.forall_mem_cons.2 ⟨fun _ => (show In64 1 from ⟨by decide, by decide⟩), List.forall_mem_cons.2 ⟨fun _ => (show In64 2 from ⟨by decide, by decide⟩), List.forall_mem_cons.2 ⟨fun _ => (show In64 (-1) from ⟨by decide, by decide⟩), List.forall_mem_cons.2 ⟨fun _ => (show In64 9223372036854775807 from ⟨by decide, by decide⟩), List.forall_mem_nil _⟩⟩⟩⟩⟩⟩⟩) (show 7 ≤ 4194304 by decide) fun ac w N q1 F2 S up o3 d4 => ?_
 have d5 := Disj.w d4 oc.sub
 replace oc := oc.up up
 clear up d4
 refine S.KD1 (d := 5) oc (c_spec_l01PickInt w bs pbs G F q (S.cu oc) ([0, 0, 1, 1, 2, (-1), 9223372036854775807] : List Int) q1 F2 (GT.own_rd (S.ownw o3)) (fun b hb => ⟨(S.sep b (o3.sub b hb)).1, (Disj.symm d5) b hb⟩) (by first | omega | decide | (simp; done))) fun ac w N x6 q7 F8 S h11 up o9 d10 ocn => ?_
 replace oc := ocn
 clear up d10
 have i12 : In64 x6 := o9.own
 have l13 := i12.lo; have l14 := i12.hi
 refine S.gr 4 .nil [I x6] fun ac w β S => ?_
 exact retD1_of (F1 := NoB) (p := ()) S (show True by clear S; trivial) rfl ⟨i12, fun _ h => False.elim h, fun _ h => False.elim h⟩ (fun b h _ => False.elim h) oc

theorem c_spec_l20Addr (w0 : World) (bs : List TByte) (pbs : LP TByte) (G F : Bl) (q : LP TCur) (hc : Cu bs pbs G F w0 q) : Calls Tryz.prog 36 [pt q.1.b (q.1.off + 0 * 3)].toArray w0 (RetD1 bs pbs G F q w0 (fun (r : Int) => True)) := by
 refine Calls.run F Tryz.func36 ?_
 intro ac β S
 have oc := hc.oc
 refine S.go 9 .nil fun ac w β S => S.KD1 (d := 5) oc (c_spec_l01Below w bs pbs G F q (S.cu oc) 16 (show In64 16 from ⟨by decide, by decide⟩)) fun ac w N x1 q2 F3 S h6 up o4 d5 ocn => ?_
 replace oc := ocn
 clear up d5
 have i7 : In64 x1 := o4.own
 have l8 := i7.lo; have l9 := i7.hi
 refine S.go 1 .nil fun ac w β S => S.KD1 (d := 7) oc (c_spec_l01Below w bs pbs G F q (S.cu oc) 16 (show In64 16 from ⟨by decide, by decide⟩)) fun ac w N x10 q11 F12 S h15 up o13 d14 ocn => ?_
 replace oc := ocn
 clear up d14
 have i16 : In64 x10 := o13.own
 have l17 := i16.lo; have l18 := i16.hi
 refine S.go 1 .nil fun ac w β S => S.KD1 (d := 9) oc (c_spec_l01Below w bs pbs G F q (S.cu oc) 16 (show In64 16 from ⟨by decide, by decide⟩)) fun ac w N x19 q20 F21 S h24 up o22 d23 ocn => ?_
 replace oc := ocn
 clear up d23
 have i25 : In64 x19 := o22.own
 have l26 := i25.lo; have l27 := i25.hi
 refine S.BF ([x1, x10, x19, 15, 16, (-1), 9223372036854775807] : List Int) () (d := 10) (List.forall_mem_cons.2 ⟨fun _ => i7, List.forall_mem_cons.2 ⟨fun _ => i16, List.forall_mem_cons.2 ⟨fun _ => i25, List.forall_mem_cons.2 ⟨fun _ => (show In64 15 from ⟨by decide, by decide⟩), List.forall_mem_cons.2 ⟨fun _ => (show In64 16 from ⟨by decide, by decide⟩), List.forall_mem_cons.2 ⟨fun _ => (show In64 (-1) from ⟨by decide, by decide⟩), List.forall_mem_cons.2 ⟨fun _ => (show In64 9223372036854775807 from ⟨by decide, by decide⟩), List.forall_mem_nil _⟩⟩⟩⟩⟩⟩⟩) (show 7 ≤ 4194304 by decide) fun ac w N q28 F29 S up o30 d31 => ?_
 have d32 := Disj.w d31 oc.sub
 replace oc := oc.up up
 clear up d31
 refine S.KD1 (d := 11) oc (c_spec_l01PickInt w bs pbs G F q (S.cu oc) ([x1, x10, x19, 15, 16, (-1), 9223372036854775807] : List Int) q28 F29 (GT.own_rd (S.ownw o30)) (fun b hb => ⟨(S.sep b (o30.sub b hb)).1, (Disj.symm d32) b hb⟩) (by first | omega | decide | (simp; done))) fun ac w N x33 q34 F35 S h38 up o36 d37 ocn => ?_
 replace oc := ocn
 clear up d37
 have i39 : In64 x33 := o36.own
 have l40 := i39.lo; have l41 := i39.hi
 refine S.gr 4 .nil [I x33] fun ac w β S => ?_
 exact retD1_of (F1 := NoB) (p := ()) S (show True by clear S; trivial) rfl ⟨i39, fun _ h => False.elim h, fun _ h => False.elim h⟩ (fun b h _ => False.elim h) oc

theorem c_spec_l19Val (w0 : World) (bs : List TByte) (pbs : LP TByte) (G F : Bl) (q : LP TCur) (hc : Cu bs pbs G F w0 q) : Calls Tryz.prog 37 [pt q.1.b (q.1.off + 0 * 3)].toArray w0 (RetD1 bs pbs G F q w0 (fun (r : Int) => True)) := by
 refine Calls.run F Tryz.func37 ?_
 intro ac β S
 have oc := hc.oc
 refine S.go 8 .nil fun ac w β S => S.BF ([0, 7, 50, 99, 100, (-1)] : List Int) () (d := 4) (List.forall_mem_cons.2 ⟨fun _ => (show In64 0 from ⟨by decide, by decide⟩), List.forall_mem_cons.2 ⟨fun _ => (show In64 7 from ⟨by decide, by decide⟩), List.forall_mem_cons.2 ⟨fun _ => (show In64 50 from ⟨by decide, by decide⟩), List.forall_mem_cons.2 ⟨fun _ => (show In64 99 from ⟨by decide, by decide⟩), List.forall_mem_cons.2 ⟨fun _ => (show In64 100 from ⟨by decide, by decide⟩), List.forall_mem_cons.2 ⟨fun _ => (show In64 (-1) from ⟨by decide, by decide⟩), List.forall_mem_nil _⟩⟩⟩⟩⟩⟩) (show 6 ≤ 4194304 by decide) fun ac w N q1 F2 S up o3 d4 => ?_
 have d5 := Disj.w d4 oc.sub
 replace oc := oc.up up
 clear up d4
 refine S.KD1 (d := 5) oc (c_spec_l01PickInt w bs pbs G F q (S.cu oc) ([0, 7, 50, 99, 100, (-1)] : List Int) q1 F2 (GT.own_rd (S.ownw o3)) (fun b hb => ⟨(S.sep b (o3.sub b hb)).1, (Disj.symm d5) b hb⟩) (by first | omega | decide | (simp; done))) fun ac w N x6 q7 F8 S h11 up o9 d10 ocn => ?_
 replace oc := ocn
 clear up d10
 have i12 : In64 x6 := o9.own
 have l13 := i12.lo; have l14 := i12.hi
 refine S.gr 4 .nil [I x6] fun ac w β S => ?_
 exact retD1_of (F1 := NoB) (p := ()) S (show True by clear S; trivial) rfl ⟨i12, fun _ h => False.elim h, fun _ h => False.elim h⟩ (fun b h _ => False.elim h) oc

theorem c_spec_DrawBareDma (w0 : World) (code : List TByte) (pcode : LP TByte) (hcode : RD w0 code pcode) (pre0 : code.length ≤ 1048576) : Calls Tryz.prog 7 [slv code.length pcode.1].toArray w0 (RetR4 w0 (fun (r1 : TBare) (r2 : Int) (r3 : Int) (r4 : Int) => True)) := by
 refine Calls.run NoB Tryz.func7 ?_
 intro ac β S
 have hlecode : code.length ≤ 4194304 := LRd.le hcode
 refine S.go 11 .nil fun ac w β S => S.KNw (d := 8) hcode (fun _ h => h) (c_spec_l01New w code pcode (S.rd (S.arg hcode)) (by omega)) fun ac w N b1 F2 S up oc3 d4 => ?_
 clear up d4
 refine S.go 6 .nil fun ac w β S => S.KQ1 (d := 10) oc3 (c_spec_l17Any w code pcode (Lt w0.heap.size) F2 (cap1 b1 () : LP TCur) (S.cu oc3)) fun ac w N x5 q6 F7 S h10 up o8 d9 oc3n => ?_
 have d11 := Disj.w d9 oc3.sub
 replace oc3 := oc3n
 clear up d9
 refine S.go 1 .nil fun ac w β S => S.KD1 (d := 12) oc3 (c_spec_l17At w code pcode (Lt w0.heap.size) F2 (cap1 b1 () : LP TCur) (S.cu oc3)) fun ac w N x12 q13 F14 S h17 up o15 d16 oc3n => ?_
 replace o8 := o8.upF (Disj.symm d11) up
 replace oc3 := oc3n
 clear up d16
 have i18 : In64 x12 := o15.own
 have l19 := i18.lo; have l20 := i18.hi
 refine S.go 1 .nil fun ac w β S => S.KD1 (d := 14) oc3 (c_spec_l20Addr w code pcode (Lt w0.heap.size) F2 (cap1 b1 () : LP TCur) (S.cu oc3)) fun ac w N x21 q22 F23 S h26 up o24 d25 oc3n => ?_
 replace o8 := o8.upF (Disj.symm d11) up
 replace oc3 := oc3n
 clear up d25
 have i27 : In64 x21 := o24.own
 have l28 := i27.lo; have l29 := i27.hi
 refine S.go 1 .nil fun ac w β S => S.KD1 (d := 16) oc3 (c_spec_l19Val w code pcode (Lt w0.heap.size) F2 (cap1 b1 () : LP TCur) (S.cu oc3)) fun ac w N x30 q31 F32 S h35 up o33 d34 oc3n => ?_
 replace o8 := o8.upF (Disj.symm d11) up
 replace oc3 := oc3n
 clear up d34
 have i36 : In64 x30 := o33.own
 have l37 := i36.lo; have l38 := i36.hi
 refine S.gr 7 .nil [GT.val x5 q6, I x12, I x21, I x30] fun ac w β S => ?_
 exact retR4_of (F2 := NoB) (p2 := ()) (F3 := NoB) (p3 := ()) (F4 := NoB) (p4 := ()) S (show True by clear S; trivial) rfl rfl rfl rfl o8 ⟨i18, fun _ h => False.elim h, fun _ h => False.elim h⟩ ⟨i27, fun _ h => False.elim h, fun _ h => False.elim h⟩ ⟨i36, fun _ h => False.elim h, fun _ h => False.elim h⟩ (fun b _ h => False.elim h) (fun b _ h => False.elim h) (fun b _ h => False.elim h) (fun b h _ => False.elim h) (fun b h _ => False.elim h) (fun b h _ => False.elim h)

theorem c_impl_copyInts (w0 : World) (l : List Int) (pl : LP Int) (hl : RD w0 l pl) : Calls Tryz.prog 102 [slv l.length pl.1].toArray w0 (Ret1 NoB w0 (l : List Int)) := by
 refine Calls.run NoB Tryz.func102 ?_
 intro ac β S
 have hlel : l.length ≤ 4194304 := LRd.le hl
 refine S.go 7 .nil fun ac w β S => S.B0 (α := Int) (d := 3) fun ac w N q1 F2 S up o3 d4 => ?_
 clear up d4
 have b9 : l.length ≤ 4194304 := LRd.le (S.arg hl)
 refine S.go 1 .nil fun ac w β S => S.AF0 (α := Int) o3 (S.arg hl) (fun _ _ h => h) (by' := 8) (d := 5) (lx := 0) (ly := l.length) rfl fun ac w N q5 F6 S up o7 d8 => ?_
 clear up d8
 refine S.gr 4 .nil [slv l.length q5.1] fun ac w β S => ?_
 exact ret1_of S (show l = l by clear S; simp) rfl o7

theorem c_impl_copyMem (w0 : World) (l : List (List Int)) (pl : LP (List Int)) (hl : RD w0 l pl) : Calls Tryz.prog 100 [slv l.length pl.1].toArray w0 (Ret1 NoB w0 (l : List (List Int))) := by
 refine Calls.run NoB Tryz.func100 ?_
 intro ac β S
 have hlel : l.length ≤ 4194304 := LRd.le hl
 refine S.go 7 .nil fun ac w β S => S.B0 (α := List Int) (d := 6) fun ac w N q1 F2 S up o3 d4 => ?_
 clear up d4
 refine S.go 12 .nil fun ac w β S => ?_
 refine lp (fun mm ac w => ∃ (k : Nat) (acc : List (List Int)) (q5 : _) (F6 : _) (u : _) (N : _) (β : _), mm = l.length - k ∧ (k ≤ l.length) ∧ (acc = l.take k) ∧ St Tryz.prog Tryz.f100.ntmps w0 NoB u N β ⟨[(3, .v (slv acc.length q5.1)), (7, .v (slv l.length pl.1)), (8, .v (I (l.length : Int))), (9, .v (I (k : Int)))], []⟩ ac w ∧ Ow w0 NoB u N F6 acc q5) _ ⟨0, ([] : List (List Int)), q1, F2, _, _, _, rfl, o0, (by simp), S.z, o3⟩ ?_
 clear S o3
 rintro f8 mm hf9 ac w ⟨k, acc, q5, F6, u, N, β, rfl, hk, hacc, S, o7⟩
 refine S.rs fun S => ?_
 have hlacc : acc.length = k := by rw [hacc]; simp; omega
 refine S.gd 6 .nil (decide ((k : Int) < (l.length : Int))) (fun ac w β h10 g11 S => ?_) (fun ac w β h10 g11 S => ?_)
 ·refine S.go 15 (.cons (qn (S.arg hl) k Tryz.underlying24) (.cons (qx (S.arg hl) 26 k) .nil)) fun ac w β S => S.K1 (r := (el l k)) (d := 15) (c_impl_copyInts w (el l k) (pl.2 k) (S.rd (LRd.el (S.arg hl) k (by omega)))) fun ac w N q12 F13 S up o14 d15 => ?_
  have d16 := Disj.w d15 o7.sub
  replace o7 := o7.up up
  clear up d15
  refine S.B1 (α := List Int) (x := (el l k)) (p := q12) o14.own o14.sub o14.young (d := 16) fun ac w N q17 F18 S up o19 d20 => ?_
  have d21 := d20 _ d16 o7.sub
  replace o7 := o7.up up
  clear up d20
  refine S.AO (α := List Int) o7 o19 d21 (by' := 24) (d := 17) (lx := acc.length) (ly := 1) rfl rfl (show _ ≤ 4194304 by simp only [List.length_append, List.length_cons, List.length_nil]; omega) fun ac w N q22 F23 S up o24 d25 => ?_
  clear up d25
  refine S.ge 8 (.cons (qp (k : Int) 1) .nil) f8 fun ac w β S => hf9.of (l.length - (k + 1)) _ _ (by omega) ⟨k + 1, (acc ++ [(el l k)]), q22, F23, _, _, _, rfl, ?_, ?_, S.z, o24⟩
  ·exact oz
  ·clear S; (first | (rw [take_el (by omega), hacc]; done) | (rw [take_el (by omega), hacc]; simp; done))
 refine S.gr 13 .nil [slv acc.length q5.1] fun ac w β S => ?_
 exact ret1_of S (show l = acc by clear S; (rw [hacc, take_all (by omega)])) rfl o7

theorem c_impl_copyProg (w0 : World) (l : List TIns) (pl : LP TIns) (hl : RD w0 l pl) : Calls Tryz.prog 189 [slv l.length pl.1].toArray w0 (Ret1 NoB w0 (l : List TIns)) := by
 refine Calls.run NoB Tryz.func189 ?_
 intro ac β S
 have hlel : l.length ≤ 4194304 := LRd.le hl
 refine S.go 7 .nil fun ac w β S => S.B0 (α := TIns) (d := 3) fun ac w N q1 F2 S up o3 d4 => ?_
 clear up d4
 have b9 : l.length ≤ 4194304 := LRd.le (S.arg hl)
 refine S.go 1 .nil fun ac w β S => S.AF0 (α := TIns) o3 (S.arg hl) (fun _ _ h => h) (by' := 16) (d := 5) (lx := 0) (ly := l.length) rfl fun ac w N q5 F6 S up o7 d8 => ?_
 clear up d8
 refine S.gr 4 .nil [slv l.length q5.1] fun ac w β S => ?_
 exact ret1_of S (show l = l by clear S; simp) rfl o7

theorem c_impl_copyTable (w0 : World) (l : List TSlot) (pl : LP TSlot) (hl : RD w0 l pl) : Calls Tryz.prog 173 [slv l.length pl.1].toArray w0 (Ret1 NoB w0 (l : List TSlot)) := by
 refine Calls.run NoB Tryz.func173 ?_
 intro ac β S
 have hlel : l.length ≤ 4194304 := LRd.le hl
 refine S.go 7 .nil fun ac w β S => S.B0 (α := TSlot) (d := 3) fun ac w N q1 F2 S up o3 d4 => ?_
 clear up d4
 have b9 : l.length ≤ 4194304 := LRd.le (S.arg hl)
 refine S.go 1 .nil fun ac w β S => S.AF0 (α := TSlot) o3 (S.arg hl) (fun _ _ h => h) (by' := 16) (d := 5) (lx := 0) (ly := l.length) rfl fun ac w N q5 F6 S up o7 d8 => ?_
 clear up d8
 refine S.gr 4 .nil [slv l.length q5.1] fun ac w β S => ?_
 exact ret1_of S (show l = l by clear S; simp) rfl o7

theorem c_impl_copyGuest (w0 : World) (g : TGuest) (pg : PGuest) (hg : RD w0 g pg) : Calls Tryz.prog 143 [GT.val g pg].toArray w0 (Ret1 NoB w0 (g : TGuest)) := by
 refine Calls.run NoB Tryz.func143 ?_
 intro ac β S
 have hleg_prog : g.prog.length ≤ 4194304 := LRd.le (RGuest.prog (d := g) hg)
 have hleg_written : g.written.length ≤ 4194304 := LRd.le (RGuest.written (d := g) hg)
 have hleg_live : g.live.length ≤ 4194304 := LRd.le (RGuest.live (d := g) hg)
 have hleg_seen : g.seen.length ≤ 4194304 := LRd.le (RGuest.seen (d := g) hg)
 refine S.go 10 .nil fun ac w β S => S.K1 (r := g.prog) (d := 5) (c_impl_copyProg w g.prog pg.prog (S.rd (RGuest.prog (d := g) (S.arg hg)))) fun ac w N q1 F2 S up o3 d4 => ?_
 clear up d4
 refine S.go 8 .nil fun ac w β S => S.K1 (r := g.written) (d := 9) (c_impl_copyTable w g.written pg.written (S.rd (RGuest.written (d := g) (S.arg hg)))) fun ac w N q5 F6 S up o7 d8 => ?_
 have d9 := Disj.w d8 o3.sub
 replace o3 := o3.up up
 clear up d8
 refine S.go 8 .nil fun ac w β S => S.K1 (r := g.live) (d := 13) (c_impl_copyTable w g.live pg.live (S.rd (RGuest.live (d := g) (S.arg hg)))) fun ac w N q10 F11 S up o12 d13 => ?_
 have d14 := Disj.w d13 o3.sub
 have d15 := Disj.w d13 o7.sub
 replace o3 := o3.up up
 replace o7 := o7.up up
 clear up d13
 refine S.go 8 .nil fun ac w β S => S.K1 (r := g.seen) (d := 17) (c_impl_copyInts w g.seen pg.seen (S.rd (RGuest.seen (d := g) (S.arg hg)))) fun ac w N q16 F17 S up o18 d19 => ?_
 have d20 := Disj.w d19 o3.sub
 have d21 := Disj.w d19 o7.sub
 have d22 := Disj.w d19 o12.sub
 replace o3 := o3.up up
 replace o7 := o7.up up
 replace o12 := o12.up up
 clear up d19
 refine S.gr 11 .nil [GT.val (⟨g.prog, g.acc, g.pc, g.written, g.live, g.ctl, g.pend, g.exit, g.halted, g.seen⟩ : TGuest) (⟨q1, q5, q10, q16⟩ : PGuest)] fun ac w β S => ?_
 have o23 := ow_Guest (x := (⟨g.prog, g.acc, g.pc, g.written, g.live, g.ctl, g.pend, g.exit, g.halted, g.seen⟩ : TGuest)) (p := (⟨q1, q5, q10, q16⟩ : PGuest)) o3 o7 o12 o18 d9 d14 d20 d15 d21 d22 (RGuest.acc (d := g) (S.arg hg)) (RGuest.pc (d := g) (S.arg hg)) (RGuest.ctl (d := g) (S.arg hg)) (RGuest.pend (d := g) (S.arg hg)) (RGuest.exit (d := g) (S.arg hg))
 exact ret1_of S (show g = (⟨g.prog, g.acc, g.pc, g.written, g.live, g.ctl, g.pend, g.exit, g.halted, g.seen⟩ : TGuest) by clear S; (first | rfl | simp)) rfl o23

theorem c_impl_copyGuests (w0 : World) (l : List TGuest) (pl : LP TGuest) (hl : RD w0 l pl) : Calls Tryz.prog 101 [slv l.length pl.1].toArray w0 (Ret1 NoB w0 (l : List TGuest)) := by
 refine Calls.run NoB Tryz.func101 ?_
 intro ac β S
 have hlel : l.length ≤ 4194304 := LRd.le hl
 refine S.go 7 .nil fun ac w β S => S.B0 (α := TGuest) (d := 6) fun ac w N q1 F2 S up o3 d4 => ?_
 clear up d4
 refine S.go 12 .nil fun ac w β S => ?_
 refine lp (fun mm ac w => ∃ (k : Nat) (acc : List TGuest) (q5 : _) (F6 : _) (u : _) (N : _) (β : _), mm = l.length - k ∧ (k ≤ l.length) ∧ (acc = l.take k) ∧ St Tryz.prog Tryz.f101.ntmps w0 NoB u N β ⟨[(3, .v (slv acc.length q5.1)), (7, .v (slv l.length pl.1)), (8, .v (I (l.length : Int))), (9, .v (I (k : Int)))], []⟩ ac w ∧ Ow w0 NoB u N F6 acc q5) _ ⟨0, ([] : List TGuest), q1, F2, _, _, _, rfl, o0, (by simp), S.z, o3⟩ ?_
 clear S o3
 rintro f8 mm hf9 ac w ⟨k, acc, q5, F6, u, N, β, rfl, hk, hacc, S, o7⟩
 refine S.rs fun S => ?_
 have hlacc : acc.length = k := by rw [hacc]; simp; omega
 refine S.gd 6 .nil (decide ((k : Int) < (l.length : Int))) (fun ac w β h10 g11 S => ?_) (fun ac w β h10 g11 S => ?_)
 ·refine S.go 16 (.cons (qn (S.arg hl) k Tryz.underlying25) (.cons (qs (S.arg hl) 51 k) .nil)) fun ac w β S => S.K1 (r := (el l k)) (d := 15) (c_impl_copyGuest w (el l k) (pl.2 k) (S.rd (LRd.el (S.arg hl) k (by omega)))) fun ac w N q12 F13 S up o14 d15 => ?_
  have d16 := Disj.w d15 o7.sub
  replace o7 := o7.up up
  clear up d15
  refine S.B1 (α := TGuest) (x := (el l k)) (p := q12) o14.own o14.sub o14.young (d := 16) fun ac w N q17 F18 S up o19 d20 => ?_
  have d21 := d20 _ d16 o7.sub
  replace o7 := o7.up up
  clear up d20
  refine S.AO (α := TGuest) o7 o19 d21 (by' := 184) (d := 17) (lx := acc.length) (ly := 1) rfl rfl (show _ ≤ 4194304 by simp only [List.length_append, List.length_cons, List.length_nil]; omega) fun ac w N q22 F23 S up o24 d25 => ?_
  clear up d25
  refine S.ge 8 (.cons (qp (k : Int) 1) .nil) f8 fun ac w β S => hf9.of (l.length - (k + 1)) _ _ (by omega) ⟨k + 1, (acc ++ [(el l k)]), q22, F23, _, _, _, rfl, ?_, ?_, S.z, o24⟩
  ·exact oz
  ·clear S; (first | (rw [take_el (by omega), hacc]; done) | (rw [take_el (by omega), hacc]; simp; done))
 refine S.gr 13 .nil [slv acc.length q5.1] fun ac w β S => ?_
 exact ret1_of S (show l = acc by clear S; (rw [hacc, take_all (by omega)])) rfl o7

theorem c_impl_copyBare (w0 : World) (b : TBare) (pb : PBare) (hb : RD w0 b pb) : Calls Tryz.prog 38 [GT.val b pb].toArray w0 (Ret1 NoB w0 (b : TBare)) := by
 refine Calls.run NoB Tryz.func38 ?_
 intro ac β S
 have hleb_mem : b.mem.length ≤ 4194304 := LRd.le (RBare.mem (d := b) hb)
 have hleb_guests : b.guests.length ≤ 4194304 := LRd.le (RBare.guests (d := b) hb)
 have hleb_outs : b.outs.length ≤ 4194304 := LRd.le (RBare.outs (d := b) hb)
 refine S.go 7 .nil fun ac w β S => ?_
 refine drw ?_
 refine S.draw0 (f := 13) 12 (by kernel_rfl) (by kernel_rfl) fun w S => ?_
 refine S.hq 0 [0] [] [(3, .p 0 0)] .nil fun ac S => ?_
 refine S.hq 1 [1] [] [(4, .v (slv b.mem.length pb.mem.1))] .nil fun ac S => ?_
 refine S.hq 3 [3] [] [(6, .p 0 1)] .nil fun ac S => ?_
 refine S.hq 4 [4] [] [(7, .v (slv b.guests.length pb.guests.1))] .nil fun ac S => ?_
 refine S.hq 6 [6] [] [(9, .p 0 2)] .nil fun ac S => ?_
 refine S.hq 7 [7] [] [(10, .v (slv b.outs.length pb.outs.1))] .nil fun ac S => ?_
 refine S.hq 9 [9] [] [(12, .p 0 3)] .nil fun ac S => ?_
 refine S.hq 10 [10] [] [(13, .v (I b.pend))] .nil fun ac S => ?_
 refine WD.one (i := 2) (by kernel_rfl) ?_
 refine id (S.k1 5 (c_impl_copyMem w b.mem pb.mem (S.rd (RBare.mem (d := b) (S.arg hb)))) fun ac w N q1 F2 S up o3 d4 => ?_)
 refine WD.next S up (by kernel_rfl) ?_
 clear up d4
 refine WD.one (i := 5) (by kernel_rfl) ?_
 refine id (S.k1 8 (c_impl_copyGuests w b.guests pb.guests (S.rd (RBare.guests (d := b) (S.arg hb)))) fun ac w N q5 F6 S up o7 d8 => ?_)
 refine WD.next S up (by kernel_rfl) ?_
 have d9 := Disj.w d8 o3.sub
 replace o3 := o3.up up
 clear up d8
 refine WD.one (i := 8) (by kernel_rfl) ?_
 refine id (S.k1 11 (c_impl_copyInts w b.outs pb.outs (S.rd (RBare.outs (d := b) (S.arg hb)))) fun ac w N q10 F11 S up o12 d13 => ?_)
 refine WD.next S up (by kernel_rfl) ?_
 have d14 := Disj.w d13 o3.sub
 have d15 := Disj.w d13 o7.sub
 replace o3 := o3.up up
 replace o7 := o7.up up
 clear up d13
 refine S.hq 11 [11] [] [(14, .v (GT.val (⟨b.mem, b.guests, b.outs, b.pend⟩ : TBare) (⟨q1, q5, q10⟩ : PBare)))] (.cons (Q_sem (s := Instr.build 28 [(0, slv b.mem.length q1.1), (1, slv b.guests.length q5.1), (2, slv b.outs.length q10.1), (3, I b.pend)].toArray) (v := .agg [slv b.mem.length q1.1, slv b.guests.length q5.1, slv b.outs.length q10.1, I b.pend].toArray) (fun w => by kernel_rfl)) .nil) fun ac S => ?_
 refine S.sl 12 [] [] 2 [(1, [slv b.mem.length q1.1, slv b.guests.length q5.1, slv b.outs.length q10.1, I b.pend])] .nil fun ac w β S => ?_
 refine WD.done (by kernel_rfl) ?_ _
 refine S.ex fun S => ?_
 refine S.gr 2 .nil [GT.val (⟨b.mem, b.guests, b.outs, b.pend⟩ : TBare) (⟨q1, q5, q10⟩ : PBare)] fun ac w β S => ?_
 have o16 := ow_Bare (x := (⟨b.mem, b.guests, b.outs, b.pend⟩ : TBare)) (p := (⟨q1, q5, q10⟩ : PBare)) o3 o7 o12 d9 d14 d15 (RBare.pend (d := b) (S.arg hb))
 exact ret1_of S (show b = (⟨b.mem, b.guests, b.outs, b.pend⟩ : TBare) by clear S; (first | rfl | simp)) rfl o16

theorem c_impl_has (w0 : World) (k : Int) (length : Int) (pre0 : -9223372036854775808 < length) : Calls Tryz.prog 76 [I k, I length].toArray w0 (fun e w' => e = .returned (B (f_within k 0 (length - 1))) ∧ Chg NoB w0 w') := by
 refine Calls.run NoB Tryz.func76 ?_
 intro ac β S
 refine S.gd 10 .nil (decide (k ≥ 0)) (fun ac w β h1 g2 S => ?_) (fun ac w β h1 g2 S => ?_)
 ·exact S.gf 8 .nil [B (decide (k < length))] (retB (by clear S; (rw [Bool.eq_iff_iff]; simp [f_within]; omega)))
 exact S.gf 8 .nil [B false] (retB (by clear S; (rw [Bool.eq_iff_iff]; simp [f_within]; omega)))

theorem k0_impl_GuestAt {p : Prop} (h : p := by clear S; (first | (unfold f_guestAt; rw [if_pos (by omega)]; done) | (unfold f_guestAt; rw [if_pos (by omega)]; first | rfl | (simp; done)) | (unfold f_guestAt; rw [if_neg (by omega)]; done) | (unfold f_guestAt; rw [if_neg (by omega)]; first | rfl | (simp; done)))) : p := h
theorem c_impl_GuestAt (w0 : World) (b : TBare) (pb : PBare) (hb : RD w0 b pb) (g : Int) : Calls Tryz.prog 103 [GT.val b pb, I g].toArray w0 (Ret2 NoB w0 ((f_guestAt b g).1 : TGuest) ((f_guestAt b g).2 : Bool)) := by
 refine Calls.run NoB Tryz.func103 ?_
 intro ac β S
 have hleb_mem : b.mem.length ≤ 4194304 := LRd.le (RBare.mem (d := b) hb)
 have hleb_guests : b.guests.length ≤ 4194304 := LRd.le (RBare.guests (d := b) hb)
 have hleb_outs : b.outs.length ≤ 4194304 := LRd.le (RBare.outs (d := b) hb)
 refine S.gb 18 (.cons (Q_call fun w hw => c_impl_has w g (b.guests.length : Int) (by omega)) .nil) (!(f_within g 0 ((b.guests.length : Int) - 1))) (fun ac w β h1 S => ?_) (fun ac w β h1 S => ?_)
 ·have h2 := not_t h1
  have g3 := within_f h2
  refine S.gr 9 (.cons (Q_sem (s := Instr.build 51 [].toArray) (v := .agg [slv ([] : List TIns).length (GT.pdflt (α := List TIns)).1, I 0, I 0, slv ([] : List TSlot).length (GT.pdflt (α := List TSlot)).1, slv ([] : List TSlot).length (GT.pdflt (α := List TSlot)).1, I 0, I 0, B false, I 0, I 0, I 0, B false, I 0, B false, slv ([] : List Int).length (GT.pdflt (α := List Int)).1].toArray) (fun w => by kernel_rfl)) .nil) [GT.val (⟨([] : List TIns), 0, 0, ([] : List TSlot), ([] : List TSlot), (⟨0, 0, false⟩ : TCtl), 0, (⟨0, 0, false, 0⟩ : TExit), false, ([] : List Int)⟩ : TGuest) (⟨(GT.pdflt (α := List TIns)), (GT.pdflt (α := List TSlot)), (GT.pdflt (α := List TSlot)), (GT.pdflt (α := List Int))⟩ : PGuest), B false] fun ac w β S => ?_
  have o4 := S.nilOw (α := TIns)
  have o5 := S.nilOw (α := TSlot)
  have o6 := S.nilOw (α := TSlot)
  have o7 := S.nilOw (α := Int)
  have o8 := ow_Guest (x := (⟨([] : List TIns), 0, 0, ([] : List TSlot), ([] : List TSlot), (⟨0, 0, false⟩ : TCtl), 0, (⟨0, 0, false, 0⟩ : TExit), false, ([] : List Int)⟩ : TGuest)) (p := (⟨(GT.pdflt (α := List TIns)), (GT.pdflt (α := List TSlot)), (GT.pdflt (α := List TSlot)), (GT.pdflt (α := List Int))⟩ : PGuest)) o4 o5 o6 o7 (fun b _ h => False.elim h) (fun b _ h => False.elim h) (fun b _ h => False.elim h) (fun b _ h => False.elim h) (fun b _ h => False.elim h) (fun b _ h => False.elim h) (show In64 0 from ⟨by decide, by decide⟩) (show In64 0 from ⟨by decide, by decide⟩) (show RCtl (⟨0, 0, false⟩ : TCtl) from ⟨(show In64 0 from ⟨by decide, by decide⟩), (show In64 0 from ⟨by decide, by decide⟩)⟩) (show In64 0 from ⟨by decide, by decide⟩) (show RExit (⟨0, 0, false, 0⟩ : TExit) from ⟨(show In64 0 from ⟨by decide, by decide⟩), (show In64 0 from ⟨by decide, by decide⟩), (show In64 0 from ⟨by decide, by decide⟩)⟩)
  exact ret2_of (p' := ()) S (show (f_guestAt b g).1 = (⟨([] : List TIns), 0, 0, ([] : List TSlot), ([] : List TSlot), (⟨0, 0, false⟩ : TCtl), 0, (⟨0, 0, false, 0⟩ : TExit), false, ([] : List Int)⟩ : TGuest) from k0_impl_GuestAt) (show (f_guestAt b g).2 = false from k0_impl_GuestAt) rfl rfl o8 trivial
 have h9 := not_f h1
 have g10 := within_t h9
 refine S.go 10 (.cons (qt (RBare.guests (d := b) (S.arg hb)) g Tryz.underlying25) (.cons (qs (RBare.guests (d := b) (S.arg hb)) 51 g.toNat) .nil)) fun ac w β S => S.K1 (r := (el b.guests g.toNat)) (d := 18) (c_impl_copyGuest w (el b.guests g.toNat) (pb.guests.2 g.toNat) (S.rd (LRd.el (RBare.guests (d := b) (S.arg hb)) g.toNat (by omega)))) fun ac w N q11 F12 S up o13 d14 => ?_
 clear up d14
 refine S.gr 5 .nil [GT.val (el b.guests g.toNat) q11, B true] fun ac w β S => ?_
 exact ret2_of (p' := ()) S (show (f_guestAt b g).1 = (el b.guests g.toNat) from k0_impl_GuestAt) (show (f_guestAt b g).2 = true from k0_impl_GuestAt) rfl rfl o13 trivial

theorem k0_impl_within {p : Prop} (h : p := by clear S; first | rfl | (simp [f_within, *]; done) | (simp [f_within, *]; omega) | (simp_all [f_within]; done) | (simp_all [f_within]; omega)) : p := h
theorem c_impl_within (w0 : World) (n : Int) (a : Int) (b : Int) : Calls Tryz.prog 40 [I n, I a, I b].toArray w0 (fun e w' => e = .returned (B (f_within n a b)) ∧ Chg NoB w0 w') := by
 refine Calls.run NoB Tryz.func40 ?_
 intro ac β S
 refine S.gd 11 .nil (decide (n ≥ a)) (fun ac w β h1 g2 S => ?_) (fun ac w β h1 g2 S => ?_)
 ·exact S.gf 8 .nil [B (decide (n ≤ b))] (retB k0_impl_within)
 exact S.gf 8 .nil [B false] (retB k0_impl_within)

theorem k0_impl_InsOk {p : Prop} (h : p := by clear S; first | rfl | (simp [f_insOk, *]; done) | (simp [f_insOk, *]; omega) | (simp_all [f_insOk]; done) | (simp_all [f_insOk]; omega)) : p := h
theorem c_impl_InsOk (w0 : World) (i : TIns) : Calls Tryz.prog 213 [GT.val i ()].toArray w0 (fun e w' => e = .returned (B (f_insOk i)) ∧ Chg NoB w0 w') := by
 refine Calls.run NoB Tryz.func213 ?_
 intro ac β S
 refine S.gd 21 .nil (i.opc == 1) (fun ac w β h1 g2 S => ?_) (fun ac w β h1 g2 S => ?_)
 ·exact S.gf 13 (.cons (Q_call fun w hw => c_impl_within w i.x 0 99) .nil) [B (f_within i.x 0 99)] (retB k0_impl_InsOk)
 refine S.gd 7 .nil (i.opc == 2) (fun ac w β h3 g4 S => ?_) (fun ac w β h3 g4 S => ?_)
 ·exact S.gf 13 (.cons (Q_call fun w hw => c_impl_within w i.x 0 99) .nil) [B (f_within i.x 0 99)] (retB k0_impl_InsOk)
 refine S.gd 7 .nil (i.opc == 5) (fun ac w β h5 g6 S => ?_) (fun ac w β h5 g6 S => ?_)
 ·exact S.gf 13 (.cons (Q_call fun w hw => c_impl_within w i.x 0 99) .nil) [B (f_within i.x 0 99)] (retB k0_impl_InsOk)
 refine S.gd 6 .nil (i.opc == 6) (fun ac w β h7 g8 S => ?_) (fun ac w β h7 g8 S => ?_)
 ·exact S.gf 10 (.cons (Q_call fun w hw => c_impl_within w i.x 0 99) .nil) [B (f_within i.x 0 99)] (retB k0_impl_InsOk)
 refine S.gd 8 .nil (i.opc == 3) (fun ac w β h9 g10 S => ?_) (fun ac w β h9 g10 S => ?_)
 ·exact S.gf 13 (.cons (Q_call fun w hw => c_impl_within w i.x 0 15) .nil) [B (f_within i.x 0 15)] (retB k0_impl_InsOk)
 refine S.gd 6 .nil (i.opc == 4) (fun ac w β h11 g12 S => ?_) (fun ac w β h11 g12 S => ?_)
 ·exact S.gf 10 (.cons (Q_call fun w hw => c_impl_within w i.x 0 15) .nil) [B (f_within i.x 0 15)] (retB k0_impl_InsOk)
 refine S.gd 7 .nil (i.opc == 7) (fun ac w β h13 g14 S => ?_) (fun ac w β h13 g14 S => ?_)
 ·exact S.gf 10 .nil [B (i.x == 0)] (retB k0_impl_InsOk)
 refine S.gd 7 .nil (i.opc == 8) (fun ac w β h15 g16 S => ?_) (fun ac w β h15 g16 S => ?_)
 ·exact S.gf 10 (.cons (Q_call fun w hw => c_impl_within w i.x 0 11) .nil) [B (f_within i.x 0 11)] (retB k0_impl_InsOk)
 exact S.gf 10 .nil [B false] (retB k0_impl_InsOk)

theorem c_impl_ProgOk (w0 : World) (p : List TIns) (pp : LP TIns) (hp : RD w0 p pp) : Calls Tryz.prog 201 [slv p.length pp.1].toArray w0 (fun e w' => e = .returned (B (f_progOk p)) ∧ Chg NoB w0 w') := by
 refine Calls.run NoB Tryz.func201 ?_
 intro ac β S
 have hlep : p.length ≤ 4194304 := LRd.le hp
 refine S.go 14 .nil fun ac w β S => ?_
 refine lp (fun mm ac w => ∃ (k : Nat)  (u : _) (N : _) (β : _), mm = p.length - k ∧ (k ≤ p.length) ∧ ((p.take k).all f_insOk = true) ∧ St Tryz.prog Tryz.f201.ntmps w0 NoB u N β ⟨[(0, .v (slv p.length pp.1)), (5, .v (slv p.length pp.1)), (6, .v (I (p.length : Int))), (7, .v (I (k : Int)))], []⟩ ac w) _ ⟨0, _, _, _, rfl, o0, (by simp), S.z⟩ ?_
 clear S
 rintro f1 mm hf2 ac w ⟨k, u, N, β, rfl, hk, he, S⟩
 refine S.rs fun S => ?_
 refine S.gd 6 .nil (decide ((k : Int) < (p.length : Int))) (fun ac w β h3 g4 S => ?_) (fun ac w β h3 g4 S => ?_)
 ·refine S.gb 20 (.cons (qn (S.arg hp) k Tryz.underlying41) (.cons (qs (S.arg hp) 40 k) (.cons (Q_call fun w hw => c_impl_InsOk w (el p k)) .nil))) (!(f_insOk (el p k))) (fun ac w β h5 S => ?_) (fun ac w β h5 S => ?_)
  ·have h6 := not_t h5
   exact S.gf 7 .nil [B false] (retB (by clear S; (first | (unfold f_progOk; rw [all_bad (k := k) (by omega) (by first | assumption | simp_all)]; simp; done) | (unfold f_progOk; rw [all_end (by omega) he]; simp; done) | (unfold f_progOk; rw [all_end (by omega) he]; simp [*]; done) | (unfold f_progOk; rw [all_end (by omega) he]; simp; omega))))
  have h7 := not_f h5
  refine S.ge 8 (.cons (qp (k : Int) 1) .nil) f1 fun ac w β S => hf2.of (p.length - (k + 1)) _ _ (by omega) ⟨k + 1, _, _, _, rfl, ?_, ?_, S.z⟩
  ·exact oz
  ·clear S; exact all_step (by omega) he (by first | assumption | (simp only [f_slotOk, f_within] at *; simp_all; done) | (simp_all; done) | (simp_all; omega))
 exact S.gf 15 (.cons (Q_call fun w hw => c_impl_within w (p.length : Int) 1 12) .nil) [B (f_within (p.length : Int) 1 12)] (retB (by clear S; (first | (unfold f_progOk; rw [all_end (by omega) he]; simp; done) | (unfold f_progOk; rw [all_end (by omega) he]; simp [*]; done) | (unfold f_progOk; rw [all_end (by omega) he]; simp; omega) | (unfold f_progOk; rw [all_bad (k := k) (by omega) (by first | assumption | simp_all)]; simp; done))))

theorem c_impl_NoSlot (w0 : World)  : Calls Tryz.prog 124 [].toArray w0 (fun e w' => e = .returned (GT.val (⟨-1, 0⟩ : TSlot) ()) ∧ Chg NoB w0 w') := by
 refine Calls.run NoB Tryz.func124 ?_
 intro ac β S
 exact S.gf 12 (.cons (Q_sem (s := Instr.build 44 [(0, I (-1))].toArray) (v := .agg [I (-1), I 0].toArray) (fun w => by kernel_rfl)) .nil) [GT.val (⟨(-1), 0⟩ : TSlot) ()] (retV (p := ()) (by clear S; first | rfl | (simp [id, *]; done) | (simp [id, *]; omega) | (simp_all [id]; done) | (simp_all [id]; omega)))

theorem k0_impl_SlotOk {p : Prop} (h : p := by clear S; first | rfl | (simp [f_slotOk, *]; done) | (simp [f_slotOk, *]; omega) | (simp_all [f_slotOk]; done) | (simp_all [f_slotOk]; omega)) : p := h
theorem c_impl_SlotOk (w0 : World) (s : TSlot) (pages : Int) (pre0 : 0 ≤ pages) (pre1 : pages ≤ 1000) : Calls Tryz.prog 118 [GT.val s (), I pages].toArray w0 (fun e w' => e = .returned (B (f_slotOk s pages)) ∧ Chg NoB w0 w') := by
 refine Calls.run NoB Tryz.func118 ?_
 intro ac β S
 refine S.go 7 .nil fun ac w β S => ?_
 refine drw ?_
 rcases Bool.eq_false_or_eq_true (decide (s = (⟨-1, 0⟩ : TSlot))) with h1 | h1
 ·refine S.drawnO [(3, true)] (keep := [4]) (m := 0) (σ' := ⟨[(4, .v (B true))], []⟩) (.cons (Q_call fun w hw => c_impl_NoSlot w ) (.cons (Eq_eq_Slot (t := 44) s (⟨-1, 0⟩ : TSlot) (by kernel_rfl)) .nil)) rfl (by kernel_rfl) (by kernel_rfl) (.cons h1 .nil) fun ac w S => ?_
  refine S.ex fun S => ?_
  exact S.gf 2 .nil [B true] (retB k0_impl_SlotOk)
 ·rcases Bool.eq_false_or_eq_true (decide (pages > 0)) with h2 | h2
  ·have g3 := of_decide_eq_true h2
   rcases Bool.eq_false_or_eq_true (f_within s.page 0 (pages - 1)) with h4 | h4
   ·have g5 := within_t h4
    refine S.drawnO [(3, false), (6, true), (13, true)] (keep := [4]) (m := 0) (σ' := ⟨[(4, .v (B (f_within s.rights 1 3)))], []⟩) (.cons (Q_call fun w hw => c_impl_NoSlot w ) (.cons (Eq_eq_Slot (t := 44) s (⟨-1, 0⟩ : TSlot) (by kernel_rfl)) (.cons (qm pages 1) (.cons (Q_call fun w hw => c_impl_within w s.page 0 (pages - 1)) (.cons (Q_call fun w hw => c_impl_within w s.rights 1 3) .nil))))) rfl (by kernel_rfl) (by kernel_rfl) (.cons h1 (.cons h2 (.cons h4 .nil))) fun ac w S => ?_
    refine S.ex fun S => ?_
    exact S.gf 2 .nil [B (f_within s.rights 1 3)] (retB k0_impl_SlotOk)
   ·have g6 := within_f h4
    refine S.drawnO [(3, false), (6, true), (13, false)] (keep := [4]) (m := 0) (σ' := ⟨[(4, .v (B false))], []⟩) (.cons (Q_call fun w hw => c_impl_NoSlot w ) (.cons (Eq_eq_Slot (t := 44) s (⟨-1, 0⟩ : TSlot) (by kernel_rfl)) (.cons (qm pages 1) (.cons (Q_call fun w hw => c_impl_within w s.page 0 (pages - 1)) .nil)))) rfl (by kernel_rfl) (by kernel_rfl) (.cons h1 (.cons h2 (.cons h4 .nil))) fun ac w S => ?_
    refine S.ex fun S => ?_
    exact S.gf 2 .nil [B false] (retB k0_impl_SlotOk)
  ·have g7 := of_decide_eq_false h2
   refine S.drawnO [(3, false), (6, false)] (keep := [4]) (m := 0) (σ' := ⟨[(4, .v (B false))], []⟩) (.cons (Q_call fun w hw => c_impl_NoSlot w ) (.cons (Eq_eq_Slot (t := 44) s (⟨-1, 0⟩ : TSlot) (by kernel_rfl)) .nil)) rfl (by kernel_rfl) (by kernel_rfl) (.cons h1 (.cons h2 .nil)) fun ac w S => ?_
   refine S.ex fun S => ?_
   exact S.gf 2 .nil [B false] (retB k0_impl_SlotOk)

theorem c_impl_TableOk (w0 : World) (t : List TSlot) (pt : LP TSlot) (ht : RD w0 t pt) (size : Int) (pages : Int) (pre0 : 0 ≤ pages) (pre1 : pages ≤ 1000) : Calls Tryz.prog 183 [slv t.length pt.1, I size, I pages].toArray w0 (fun e w' => e = .returned (B (f_tableOk t size pages)) ∧ Chg NoB w0 w') := by
 refine Calls.run NoB Tryz.func183 ?_
 intro ac β S
 have hlet : t.length ≤ 4194304 := LRd.le ht
 refine S.go 14 .nil fun ac w β S => ?_
 refine lp (fun mm ac w => ∃ (k : Nat)  (u : _) (N : _) (β : _), mm = t.length - k ∧ (k ≤ t.length) ∧ ((t.take k).all (fun s => f_slotOk s pages) = true) ∧ St Tryz.prog Tryz.f183.ntmps w0 NoB u N β ⟨[(0, .v (slv t.length pt.1)), (1, .v (I size)), (2, .v (I pages)), (9, .v (slv t.length pt.1)), (10, .v (I (t.length : Int))), (11, .v (I (k : Int)))], []⟩ ac w) _ ⟨0, _, _, _, rfl, o0, (by simp), S.z⟩ ?_
 clear S
 rintro f1 mm hf2 ac w ⟨k, u, N, β, rfl, hk, he, S⟩
 refine S.rs fun S => ?_
 refine S.gd 6 .nil (decide ((k : Int) < (t.length : Int))) (fun ac w β h3 g4 S => ?_) (fun ac w β h3 g4 S => ?_)
 ·refine S.gb 21 (.cons (qn (S.arg ht) k Tryz.underlying45) (.cons (qs (S.arg ht) 44 k) (.cons (Q_call fun w hw => c_impl_SlotOk w (el t k) pages (by omega) (by omega)) .nil))) (!(f_slotOk (el t k) pages)) (fun ac w β h5 S => ?_) (fun ac w β h5 S => ?_)
  ·have h6 := not_t h5
   exact S.gf 7 .nil [B false] (retB (by clear S; (first | (unfold f_tableOk; rw [all_bad (k := k) (by omega) (by first | assumption | simp_all)]; simp; done) | (unfold f_tableOk; rw [all_end (by omega) he]; simp; done) | (unfold f_tableOk; rw [all_end (by omega) he]; simp [*]; done) | (unfold f_tableOk; rw [all_end (by omega) he]; simp; omega))))
  have h7 := not_f h5
  refine S.ge 8 (.cons (qp (k : Int) 1) .nil) f1 fun ac w β S => hf2.of (t.length - (k + 1)) _ _ (by omega) ⟨k + 1, _, _, _, rfl, ?_, ?_, S.z⟩
  ·exact oz
  ·clear S; exact all_step (by omega) he (by first | assumption | (simp only [f_slotOk, f_within] at *; simp_all; done) | (simp_all; done) | (simp_all; omega))
 exact S.gf 16 .nil [B ((t.length : Int) == size)] (retB (by clear S; (first | (unfold f_tableOk; rw [all_end (by omega) he]; simp; done) | (unfold f_tableOk; rw [all_end (by omega) he]; simp [*]; done) | (unfold f_tableOk; rw [all_end (by omega) he]; simp; omega) | (unfold f_tableOk; rw [all_bad (k := k) (by omega) (by first | assumption | simp_all)]; simp; done))))

theorem c_impl_CtlFaults (w0 : World) (c : TCtl) : Calls Tryz.prog 180 [GT.val c ()].toArray w0 (Ret1 NoB w0 (f_ctlFaults c : List Int)) := by
 refine Calls.run NoB Tryz.func180 ?_
 intro ac β S
 refine S.go 8 .nil fun ac w β S => S.B0 (α := Int) (d := 4) fun ac w N q1 F2 S up o3 d4 => ?_
 clear up d4
 refine S.go 12 (.cons (Q_call fun w hw => c_impl_within w c.traps 0 3) .nil) fun ac w β S => ?_
 refine cutC S (fun ac w => ∃ (acc1 : List Int) (q5 : _) (F6 : _) (u : _) (N : _) (β : _), (acc1 = (if f_within c.traps 0 3 then [] else [1])) ∧ St Tryz.prog Tryz.f180.ntmps w0 NoB u N β ⟨[(1, .p 0 0), (3, .v (slv acc1.length q5.1))], [GT.cells c ()]⟩ ac w ∧ Ow w0 NoB u N F6 acc1 q5) ?_ ?_
 ·clear S; intro S
  refine S.gb 0 .nil (!(f_within c.traps 0 3)) (fun ac w β h8 S => ?_) (fun ac w β h8 S => ?_)
  ·have h9 := not_t h8
   have g10 := within_f h9
   refine S.go 3 .nil fun ac w β S => S.B1 (α := Int) (x := 1) (p := ()) (F := NoB) (show In64 1 from ⟨by decide, by decide⟩) (fun b h => False.elim h) (fun b h => False.elim h) (d := 10) fun ac w N q11 F12 S up o13 d14 => ?_
   replace o3 := o3.up up
   clear up d14
   refine S.AF0 (α := Int) o3 o13.rn (fun _ _ h => h) (by' := 8) (d := 11) (lx := 0) (ly := 1) rfl fun ac w N q16 F17 S up o18 d19 => ?_
   clear up d19
   exact S.gn 2 .nil fun ac w β S => ⟨rfl, ([1]), q16, F17, _, _, _, (by clear S; (first | (rw [if_pos (by assumption)]; simp [*]; done) | (rw [if_neg (by simp [*])]; simp [*]; done) | ((repeat' split) <;> first | rfl | (simp; done) | (exfalso; simp_all; done) | (simp_all; done)))), S.z, o18⟩
  have h21 := not_f h8
  have g22 := within_t h21
  exact S.gn 2 .nil fun ac w β S => ⟨rfl, ([] : List Int), q1, F2, _, _, _, (by clear S; (first | (rw [if_pos (by assumption)]; simp [*]; done) | (rw [if_neg (by simp [*])]; simp [*]; done) | ((repeat' split) <;> first | rfl | (simp; done) | (exfalso; simp_all; done) | (simp_all; done)))), S.z, o3⟩
 clear S o3
 rintro ac w ⟨acc1, q5, F6, u, N, β, ha1, S, o7⟩
 have hl1 : acc1.length ≤ 1 := by rw [ha1]; (repeat' split) <;> simp
 refine S.ex fun S => ?_
 refine S.go 10 (.cons (Q_call fun w hw => c_impl_within w c.post 0 255) .nil) fun ac w β S => ?_
 refine cutC S (fun ac w => ∃ (acc2 : List Int) (q23 : _) (F24 : _) (u : _) (N : _) (β : _), (acc2 = (if f_within c.traps 0 3 then [] else [1]) ++ (if f_within c.post 0 255 then [] else [2])) ∧ St Tryz.prog Tryz.f180.ntmps w0 NoB u N β ⟨[(1, .p 0 0), (3, .v (slv acc2.length q23.1))], [GT.cells c ()]⟩ ac w ∧ Ow w0 NoB u N F24 acc2 q23) ?_ ?_
 ·clear S; intro S
  refine S.gb 0 .nil (!(f_within c.post 0 255)) (fun ac w β h26 S => ?_) (fun ac w β h26 S => ?_)
  ·have h27 := not_t h26
   have g28 := within_f h27
   refine S.go 3 .nil fun ac w β S => S.B1 (α := Int) (x := 2) (p := ()) (F := NoB) (show In64 2 from ⟨by decide, by decide⟩) (fun b h => False.elim h) (fun b h => False.elim h) (d := 17) fun ac w N q29 F30 S up o31 d32 => ?_
   replace o7 := o7.up up
   clear up d32
   refine S.AF (α := Int) o7 o31.rn (fun _ _ h => h) (by' := 8) (d := 18) (lx := acc1.length) (ly := 1) rfl rfl (show _ ≤ 4194304 by simp only [List.length_append, List.length_cons, List.length_nil]; omega) fun ac w N q34 F35 S up o36 d37 => ?_
   clear up d37
   exact S.gn 2 .nil fun ac w β S => ⟨rfl, (acc1 ++ [2]), q34, F35, _, _, _, (by clear S; (first | (rw [if_pos (by assumption)]; simp [*]; done) | (rw [if_neg (by simp [*])]; simp [*]; done) | (rw [ha1]; (repeat' split) <;> first | rfl | (simp; done) | (exfalso; simp_all; done) | (simp_all; done)))), S.z, o36⟩
  have h39 := not_f h26
  have g40 := within_t h39
  exact S.gn 2 .nil fun ac w β S => ⟨rfl, acc1, q5, F6, _, _, _, (by clear S; (first | (rw [if_pos (by assumption)]; simp [*]; done) | (rw [if_neg (by simp [*])]; simp [*]; done) | (rw [ha1]; (repeat' split) <;> first | rfl | (simp; done) | (exfalso; simp_all; done) | (simp_all; done)))), S.z, o7⟩
 clear S o7
 rintro ac w ⟨acc2, q23, F24, u, N, β, ha2, S, o25⟩
 have hl2 : acc2.length ≤ 2 := by rw [ha2]; (repeat' split) <;> simp
 refine S.ex fun S => ?_
 refine S.gd 8 .nil (c.post != 0) (fun ac w β h41 g42 S => ?_) (fun ac w β h41 g42 S => ?_)
 ·refine S.go 6 .nil fun ac w β S => ?_
  refine cutC S (fun ac w => ∃ (acc3 : List Int) (q43 : _) (F44 : _) (u : _) (N : _) (β : _), (acc3 = (if f_within c.traps 0 3 then [] else [1]) ++ (if f_within c.post 0 255 then [] else [2]) ++ (if c.post ≠ 0 ∧ c.opn = false then [3] else [])) ∧ St Tryz.prog Tryz.f180.ntmps w0 NoB u N β ⟨[(1, .p 0 0), (3, .v (slv acc3.length q43.1))], [GT.cells c ()]⟩ ac w ∧ Ow w0 NoB u N F44 acc3 q43) ?_ ?_
  ·clear S; intro S
   refine S.gb 0 .nil (!c.opn) (fun ac w β h46 S => ?_) (fun ac w β h46 S => ?_)
   ·have h47 := not_t h46
    refine S.go 3 .nil fun ac w β S => S.B1 (α := Int) (x := 3) (p := ()) (F := NoB) (show In64 3 from ⟨by decide, by decide⟩) (fun b h => False.elim h) (fun b h => False.elim h) (d := 28) fun ac w N q48 F49 S up o50 d51 => ?_
    replace o25 := o25.up up
    clear up d51
    refine S.AF (α := Int) o25 o50.rn (fun _ _ h => h) (by' := 8) (d := 29) (lx := acc2.length) (ly := 1) rfl rfl (show _ ≤ 4194304 by simp only [List.length_append, List.length_cons, List.length_nil]; omega) fun ac w N q53 F54 S up o55 d56 => ?_
    clear up d56
    exact S.gn 2 .nil fun ac w β S => ⟨rfl, (acc2 ++ [3]), q53, F54, _, _, _, (by clear S; (first | (rw [if_pos (by assumption)]; simp [*]; done) | (rw [if_neg (by simp [*])]; simp [*]; done) | (rw [ha2]; (repeat' split) <;> first | rfl | (simp; done) | (exfalso; simp_all; done) | (simp_all; done)))), S.z, o55⟩
   have h58 := not_f h46
   exact S.gn 2 .nil fun ac w β S => ⟨rfl, acc2, q23, F24, _, _, _, (by clear S; (first | (rw [if_pos (by assumption)]; simp [*]; done) | (rw [if_neg (by simp [*])]; simp [*]; done) | (rw [ha2]; (repeat' split) <;> first | rfl | (simp; done) | (exfalso; simp_all; done) | (simp_all; done)))), S.z, o25⟩
  clear S o25
  rintro ac w ⟨acc3, q43, F44, u, N, β, ha3, S, o45⟩
  have hl3 : acc3.length ≤ 3 := by rw [ha3]; (repeat' split) <;> simp
  refine S.ex fun S => ?_
  refine S.gd 8 .nil (c.traps == 2) (fun ac w β h59 g60 S => ?_) (fun ac w β h59 g60 S => ?_)
  ·refine S.go 6 .nil fun ac w β S => ?_
   refine cutC S (fun ac w => ∃ (acc4 : List Int) (q61 : _) (F62 : _) (u : _) (N : _) (β : _), (acc4 = (if f_within c.traps 0 3 then [] else [1]) ++ (if f_within c.post 0 255 then [] else [2]) ++ (if c.post ≠ 0 ∧ c.opn = false then [3] else []) ++ (if c.traps = 2 ∧ c.post ≠ 0 then [4] else [])) ∧ St Tryz.prog Tryz.f180.ntmps w0 NoB u N β ⟨[(3, .v (slv acc4.length q61.1))], []⟩ ac w ∧ Ow w0 NoB u N F62 acc4 q61) ?_ ?_
   ·clear S; intro S
    refine S.lt 37 h41 fun S => ?_
    refine S.go 3 .nil fun ac w β S => S.B1 (α := Int) (x := 4) (p := ()) (F := NoB) (show In64 4 from ⟨by decide, by decide⟩) (fun b h => False.elim h) (fun b h => False.elim h) (d := 39) fun ac w N q64 F65 S up o66 d67 => ?_
    replace o45 := o45.up up
    clear up d67
    refine S.AF (α := Int) o45 o66.rn (fun _ _ h => h) (by' := 8) (d := 40) (lx := acc3.length) (ly := 1) rfl rfl (show _ ≤ 4194304 by simp only [List.length_append, List.length_cons, List.length_nil]; omega) fun ac w N q69 F70 S up o71 d72 => ?_
    clear up d72
    exact S.gn 2 .nil fun ac w β S => ⟨rfl, (acc3 ++ [4]), q69, F70, _, _, _, (by clear S; (first | (rw [if_pos (by assumption)]; simp [*]; done) | (rw [if_neg (by simp [*])]; simp [*]; done) | (rw [ha3]; (repeat' split) <;> first | rfl | (simp; done) | (exfalso; simp_all; done) | (simp_all; done)))), S.z, o71⟩
   clear S o45
   rintro ac w ⟨acc4, q61, F62, u, N, β, ha4, S, o63⟩
   have hl4 : acc4.length ≤ 4 := by rw [ha4]; (repeat' split) <;> simp
   refine S.ex fun S => ?_
   refine S.gr 8 .nil [slv acc4.length q61.1] fun ac w β S => ?_
   exact ret1_of S (show f_ctlFaults c = acc4 by clear S; (rw [ha4]; rfl)) rfl o63
  refine S.go 6 .nil fun ac w β S => ?_
  refine cutC S (fun ac w => ∃ (acc4 : List Int) (q74 : _) (F75 : _) (u : _) (N : _) (β : _), (acc4 = (if f_within c.traps 0 3 then [] else [1]) ++ (if f_within c.post 0 255 then [] else [2]) ++ (if c.post ≠ 0 ∧ c.opn = false then [3] else []) ++ (if c.traps = 2 ∧ c.post ≠ 0 then [4] else [])) ∧ St Tryz.prog Tryz.f180.ntmps w0 NoB u N β ⟨[(3, .v (slv acc4.length q74.1))], []⟩ ac w ∧ Ow w0 NoB u N F75 acc4 q74) ?_ ?_
  ·clear S; intro S
   exact S.gn 2 .nil fun ac w β S => ⟨rfl, acc3, q43, F44, _, _, _, (by clear S; (first | (rw [if_pos (by assumption)]; simp [*]; done) | (rw [if_neg (by simp [*])]; simp [*]; done) | (rw [ha3]; (repeat' split) <;> first | rfl | (simp; done) | (exfalso; simp_all; done) | (simp_all; done)))), S.z, o45⟩
  clear S o45
  rintro ac w ⟨acc4, q74, F75, u, N, β, ha4, S, o76⟩
  have hl4 : acc4.length ≤ 4 := by rw [ha4]; (repeat' split) <;> simp
  refine S.ex fun S => ?_
  refine S.gr 8 .nil [slv acc4.length q74.1] fun ac w β S => ?_
  exact ret1_of S (show f_ctlFaults c = acc4 by clear S; (rw [ha4]; rfl)) rfl o76
 refine S.go 6 .nil fun ac w β S => ?_
 refine cutC S (fun ac w => ∃ (acc3 : List Int) (q77 : _) (F78 : _) (u : _) (N : _) (β : _), (acc3 = (if f_within c.traps 0 3 then [] else [1]) ++ (if f_within c.post 0 255 then [] else [2]) ++ (if c.post ≠ 0 ∧ c.opn = false then [3] else [])) ∧ St Tryz.prog Tryz.f180.ntmps w0 NoB u N β ⟨[(1, .p 0 0), (3, .v (slv acc3.length q77.1))], [GT.cells c ()]⟩ ac w ∧ Ow w0 NoB u N F78 acc3 q77) ?_ ?_
 ·clear S; intro S
  exact S.gn 2 .nil fun ac w β S => ⟨rfl, acc2, q23, F24, _, _, _, (by clear S; (first | (rw [if_pos (by assumption)]; simp [*]; done) | (rw [if_neg (by simp [*])]; simp [*]; done) | (rw [ha2]; (repeat' split) <;> first | rfl | (simp; done) | (exfalso; simp_all; done) | (simp_all; done)))), S.z, o25⟩
 clear S o25
 rintro ac w ⟨acc3, q77, F78, u, N, β, ha3, S, o79⟩
 have hl3 : acc3.length ≤ 3 := by rw [ha3]; (repeat' split) <;> simp
 refine S.ex fun S => ?_
 refine S.gd 8 .nil (c.traps == 2) (fun ac w β h80 g81 S => ?_) (fun ac w β h80 g81 S => ?_)
 ·refine S.go 6 .nil fun ac w β S => ?_
  refine cutC S (fun ac w => ∃ (acc4 : List Int) (q82 : _) (F83 : _) (u : _) (N : _) (β : _), (acc4 = (if f_within c.traps 0 3 then [] else [1]) ++ (if f_within c.post 0 255 then [] else [2]) ++ (if c.post ≠ 0 ∧ c.opn = false then [3] else []) ++ (if c.traps = 2 ∧ c.post ≠ 0 then [4] else [])) ∧ St Tryz.prog Tryz.f180.ntmps w0 NoB u N β ⟨[(3, .v (slv acc4.length q82.1))], []⟩ ac w ∧ Ow w0 NoB u N F83 acc4 q82) ?_ ?_
  ·clear S; intro S
   refine S.lt 37 h41 fun S => ?_
   exact S.gn 2 .nil fun ac w β S => ⟨rfl, acc3, q77, F78, _, _, _, (by clear S; (first | (rw [if_pos (by assumption)]; simp [*]; done) | (rw [if_neg (by simp [*])]; simp [*]; done) | (rw [ha3]; (repeat' split) <;> first | rfl | (simp; done) | (exfalso; simp_all; done) | (simp_all; done)))), S.z, o79⟩
  clear S o79
  rintro ac w ⟨acc4, q82, F83, u, N, β, ha4, S, o84⟩
  have hl4 : acc4.length ≤ 4 := by rw [ha4]; (repeat' split) <;> simp
  refine S.ex fun S => ?_
  refine S.gr 8 .nil [slv acc4.length q82.1] fun ac w β S => ?_
  exact ret1_of S (show f_ctlFaults c = acc4 by clear S; (rw [ha4]; rfl)) rfl o84
 refine S.go 6 .nil fun ac w β S => ?_
 refine cutC S (fun ac w => ∃ (acc4 : List Int) (q85 : _) (F86 : _) (u : _) (N : _) (β : _), (acc4 = (if f_within c.traps 0 3 then [] else [1]) ++ (if f_within c.post 0 255 then [] else [2]) ++ (if c.post ≠ 0 ∧ c.opn = false then [3] else []) ++ (if c.traps = 2 ∧ c.post ≠ 0 then [4] else [])) ∧ St Tryz.prog Tryz.f180.ntmps w0 NoB u N β ⟨[(3, .v (slv acc4.length q85.1))], []⟩ ac w ∧ Ow w0 NoB u N F86 acc4 q85) ?_ ?_
 ·clear S; intro S
  exact S.gn 2 .nil fun ac w β S => ⟨rfl, acc3, q77, F78, _, _, _, (by clear S; (first | (rw [if_pos (by assumption)]; simp [*]; done) | (rw [if_neg (by simp [*])]; simp [*]; done) | (rw [ha3]; (repeat' split) <;> first | rfl | (simp; done) | (exfalso; simp_all; done) | (simp_all; done)))), S.z, o79⟩
 clear S o79
 rintro ac w ⟨acc4, q85, F86, u, N, β, ha4, S, o87⟩
 have hl4 : acc4.length ≤ 4 := by rw [ha4]; (repeat' split) <;> simp
 refine S.ex fun S => ?_
 refine S.gr 8 .nil [slv acc4.length q85.1] fun ac w β S => ?_
 exact ret1_of S (show f_ctlFaults c = acc4 by clear S; (rw [ha4]; rfl)) rfl o87

theorem c_impl_CtlOk (w0 : World) (c : TCtl) : Calls Tryz.prog 132 [GT.val c ()].toArray w0 (fun e w' => e = .returned (B (f_ctlOk c)) ∧ Chg NoB w0 w') := by
 refine Calls.run NoB Tryz.func132 ?_
 intro ac β S
 refine S.go 9 .nil fun ac w β S => S.K1 (r := f_ctlFaults c) (d := 4) (c_impl_CtlFaults w c) fun ac w N q1 F2 S up o3 d4 => ?_
 clear up d4
 exact S.gf 6 .nil [B (((f_ctlFaults c).length : Int) == 0)] (retB (by clear S; first | rfl | (simp [f_ctlOk, *]; done) | (simp [f_ctlOk, *]; omega) | (simp_all [f_ctlOk]; done) | (simp_all [f_ctlOk]; omega)))

theorem c_impl_PendOk (w0 : World) (p : Int) : Calls Tryz.prog 171 [I p].toArray w0 (fun e w' => e = .returned (B (f_within p 0 255)) ∧ Chg NoB w0 w') := by
 refine Calls.run NoB Tryz.func171 ?_
 intro ac β S
 exact S.gf 13 (.cons (Q_call fun w hw => c_impl_within w p 0 255) .nil) [B (f_within p 0 255)] (retB (by clear S; first | rfl | (simp [f_within, *]; done) | (simp [f_within, *]; omega) | (simp_all [f_within]; done) | (simp_all [f_within]; omega)))

theorem k0_impl_ExitOk {p : Prop} (h : p := by clear S; (unfold f_exitOk; (repeat' split) <;> first | rfl | (exfalso; simp_all; done) | (exfalso; omega) | (rw [Bool.eq_iff_iff]; simp [TExit.ext_iff, *]; done) | (rw [Bool.eq_iff_iff]; simp_all [TExit.ext_iff, and_assoc]; done) | (rw [Bool.eq_iff_iff]; simp_all [TExit.ext_iff, and_assoc]; omega))) : p := h
theorem c_impl_ExitOk (w0 : World) (x : TExit) : Calls Tryz.prog 202 [GT.val x ()].toArray w0 (fun e w' => e = .returned (B (f_exitOk x)) ∧ Chg NoB w0 w') := by
 refine Calls.run NoB Tryz.func202 ?_
 intro ac β S
 refine S.gd 21 .nil (x.kind == 0) (fun ac w β h1 g2 S => ?_) (fun ac w β h1 g2 S => ?_)
 ·refine S.gd 10 .nil (x.page == 0) (fun ac w β h3 g4 S => ?_) (fun ac w β h3 g4 S => ?_)
  ·refine S.gb 5 .nil (!x.wr) (fun ac w β h5 S => ?_) (fun ac w β h5 S => ?_)
   ·have h6 := not_t h5
    exact S.gf 8 .nil [B (x.n == 0)] (retB k0_impl_ExitOk)
   have h7 := not_f h5
   exact S.gf 8 .nil [B false] (retB k0_impl_ExitOk)
  exact S.gf 13 .nil [B false] (retB k0_impl_ExitOk)
 refine S.gd 6 .nil (x.kind == 4) (fun ac w β h8 g9 S => ?_) (fun ac w β h8 g9 S => ?_)
 ·refine S.gd 7 .nil (x.page == 0) (fun ac w β h10 g11 S => ?_) (fun ac w β h10 g11 S => ?_)
  ·refine S.gb 5 .nil (!x.wr) (fun ac w β h12 S => ?_) (fun ac w β h12 S => ?_)
   ·have h13 := not_t h12
    exact S.gf 8 .nil [B (x.n == 0)] (retB k0_impl_ExitOk)
   have h14 := not_f h12
   exact S.gf 8 .nil [B false] (retB k0_impl_ExitOk)
  exact S.gf 13 .nil [B false] (retB k0_impl_ExitOk)
 refine S.gd 7 .nil (x.kind == 1) (fun ac w β h15 g16 S => ?_) (fun ac w β h15 g16 S => ?_)
 ·refine S.gb 7 (.cons (Q_call fun w hw => c_impl_within w x.page 0 3) .nil) (f_within x.page 0 3) (fun ac w β h17 S => ?_) (fun ac w β h17 S => ?_)
  ·have g18 := within_t h17
   exact S.gf 8 .nil [B (x.n == 0)] (retB k0_impl_ExitOk)
  have g19 := within_f h17
  exact S.gf 8 .nil [B false] (retB k0_impl_ExitOk)
 refine S.gd 8 .nil (x.kind == 2) (fun ac w β h20 g21 S => ?_) (fun ac w β h20 g21 S => ?_)
 ·refine S.gb 10 (.cons (Q_call fun w hw => c_impl_within w x.n 0 99) .nil) (f_within x.n 0 99) (fun ac w β h22 S => ?_) (fun ac w β h22 S => ?_)
  ·have g23 := within_t h22
   refine S.gd 5 .nil (x.page == 0) (fun ac w β h24 g25 S => ?_) (fun ac w β h24 g25 S => ?_)
   ·exact S.gf 8 .nil [B (!x.wr)] (retB k0_impl_ExitOk)
   exact S.gf 8 .nil [B false] (retB k0_impl_ExitOk)
  have g26 := within_f h22
  exact S.gf 13 .nil [B false] (retB k0_impl_ExitOk)
 refine S.gd 6 .nil (x.kind == 3) (fun ac w β h27 g28 S => ?_) (fun ac w β h27 g28 S => ?_)
 ·refine S.gb 7 (.cons (Q_call fun w hw => c_impl_within w x.n 0 99) .nil) (f_within x.n 0 99) (fun ac w β h29 S => ?_) (fun ac w β h29 S => ?_)
  ·have g30 := within_t h29
   refine S.gd 5 .nil (x.page == 0) (fun ac w β h31 g32 S => ?_) (fun ac w β h31 g32 S => ?_)
   ·exact S.gf 8 .nil [B (!x.wr)] (retB k0_impl_ExitOk)
   exact S.gf 8 .nil [B false] (retB k0_impl_ExitOk)
  have g33 := within_f h29
  exact S.gf 13 .nil [B false] (retB k0_impl_ExitOk)
 exact S.gf 10 .nil [B false] (retB k0_impl_ExitOk)

theorem k0_impl_GuestOk {p : Prop} (h : p := by clear S; first | rfl | (simp [f_guestOk, *]; done) | (simp [f_guestOk, *]; omega) | (simp_all [f_guestOk]; done) | (simp_all [f_guestOk]; omega)) : p := h
theorem c_impl_GuestOk (w0 : World) (g : TGuest) (pg : PGuest) (hg : RD w0 g pg) : Calls Tryz.prog 170 [GT.val g pg].toArray w0 (fun e w' => e = .returned (B (f_guestOk g)) ∧ Chg NoB w0 w') := by
 refine Calls.run NoB Tryz.func170 ?_
 intro ac β S
 have hleg_prog : g.prog.length ≤ 4194304 := LRd.le (RGuest.prog (d := g) hg)
 have hleg_written : g.written.length ≤ 4194304 := LRd.le (RGuest.written (d := g) hg)
 have hleg_live : g.live.length ≤ 4194304 := LRd.le (RGuest.live (d := g) hg)
 have hleg_seen : g.seen.length ≤ 4194304 := LRd.le (RGuest.seen (d := g) hg)
 refine S.gb 12 (.cons (Q_call fun w hw => c_impl_ProgOk w g.prog pg.prog (rd_of (RGuest.prog (d := g) (S.arg hg)) hw)) .nil) (f_progOk g.prog) (fun ac w β h1 S => ?_) (fun ac w β h1 S => ?_)
 ·refine S.gb 5 (.cons (Q_call fun w hw => c_impl_within w g.acc 0 99) .nil) (f_within g.acc 0 99) (fun ac w β h2 S => ?_) (fun ac w β h2 S => ?_)
  ·have g3 := within_t h2
   refine S.gb 5 (.cons (Q_call fun w hw => c_impl_within w g.pc 0 12) .nil) (f_within g.pc 0 12) (fun ac w β h4 S => ?_) (fun ac w β h4 S => ?_)
   ·have g5 := within_t h4
    refine S.gb 5 (.cons (Q_call fun w hw => c_impl_TableOk w g.written pg.written (rd_of (RGuest.written (d := g) (S.arg hg)) hw) 4 8 (by omega) (by omega)) .nil) (f_tableOk g.written 4 8) (fun ac w β h6 S => ?_) (fun ac w β h6 S => ?_)
    ·have g7 := tableOk_t h6
     refine S.gb 5 (.cons (Q_call fun w hw => c_impl_TableOk w g.live pg.live (rd_of (RGuest.live (d := g) (S.arg hg)) hw) 4 8 (by omega) (by omega)) .nil) (f_tableOk g.live 4 8) (fun ac w β h8 S => ?_) (fun ac w β h8 S => ?_)
     ·have g9 := tableOk_t h8
      refine S.gb 5 (.cons (Q_call fun w hw => c_impl_CtlOk w g.ctl) .nil) (f_ctlOk g.ctl) (fun ac w β h10 S => ?_) (fun ac w β h10 S => ?_)
      ·refine S.gb 5 (.cons (Q_call fun w hw => c_impl_PendOk w g.pend) .nil) (f_within g.pend 0 255) (fun ac w β h11 S => ?_) (fun ac w β h11 S => ?_)
       ·have g12 := within_t h11
        refine S.gb 5 (.cons (Q_call fun w hw => c_impl_ExitOk w g.exit) .nil) (f_exitOk g.exit) (fun ac w β h13 S => ?_) (fun ac w β h13 S => ?_)
        ·exact S.gf 9 .nil [B (decide ((g.seen.length : Int) ≤ 40))] (retB k0_impl_GuestOk)
        exact S.gf 9 .nil [B false] (retB k0_impl_GuestOk)
       have g14 := within_f h11
       exact S.gf 14 .nil [B false] (retB k0_impl_GuestOk)
      exact S.gf 19 .nil [B false] (retB k0_impl_GuestOk)
     exact S.gf 24 .nil [B false] (retB k0_impl_GuestOk)
    exact S.gf 29 .nil [B false] (retB k0_impl_GuestOk)
   have g15 := within_f h4
   exact S.gf 34 .nil [B false] (retB k0_impl_GuestOk)
  have g16 := within_f h2
  exact S.gf 39 .nil [B false] (retB k0_impl_GuestOk)
 exact S.gf 44 .nil [B false] (retB k0_impl_GuestOk)

theorem c_impl_PageOk (w0 : World) (cells : List Int) (pcells : LP Int) (hcells : RD w0 cells pcells) : Calls Tryz.prog 182 [slv cells.length pcells.1].toArray w0 (fun e w' => e = .returned (B (f_pageOk cells)) ∧ Chg NoB w0 w') := by
 refine Calls.run NoB Tryz.func182 ?_
 intro ac β S
 have hlecells : cells.length ≤ 4194304 := LRd.le hcells
 refine S.go 14 .nil fun ac w β S => ?_
 refine lp (fun mm ac w => ∃ (k : Nat)  (u : _) (N : _) (β : _), mm = cells.length - k ∧ (k ≤ cells.length) ∧ ((cells.take k).all (fun v => f_within v 0 99) = true) ∧ St Tryz.prog Tryz.f182.ntmps w0 NoB u N β ⟨[(0, .v (slv cells.length pcells.1)), (5, .v (slv cells.length pcells.1)), (6, .v (I (cells.length : Int))), (7, .v (I (k : Int)))], []⟩ ac w) _ ⟨0, _, _, _, rfl, o0, (by simp), S.z⟩ ?_
 clear S
 rintro f1 mm hf2 ac w ⟨k, u, N, β, rfl, hk, he, S⟩
 refine S.rs fun S => ?_
 refine S.gd 6 .nil (decide ((k : Int) < (cells.length : Int))) (fun ac w β h3 g4 S => ?_) (fun ac w β h3 g4 S => ?_)
 ·refine S.gb 19 (.cons (qn (S.arg hcells) k Tryz.underlying26) (.cons (qx (S.arg hcells) 3 k) (.cons (Q_call fun w hw => c_impl_within w (el cells k) 0 99) .nil))) (!(f_within (el cells k) 0 99)) (fun ac w β h5 S => ?_) (fun ac w β h5 S => ?_)
  ·have h6 := not_t h5
   have g7 := within_f h6
   exact S.gf 7 .nil [B false] (retB (by clear S; (first | (unfold f_pageOk; rw [all_bad (k := k) (by omega) (by first | assumption | simp_all)]; simp; done) | (unfold f_pageOk; rw [all_end (by omega) he]; simp; done) | (unfold f_pageOk; rw [all_end (by omega) he]; simp [*]; done) | (unfold f_pageOk; rw [all_end (by omega) he]; simp; omega))))
  have h8 := not_f h5
  have g9 := within_t h8
  refine S.ge 8 (.cons (qp (k : Int) 1) .nil) f1 fun ac w β S => hf2.of (cells.length - (k + 1)) _ _ (by omega) ⟨k + 1, _, _, _, rfl, ?_, ?_, S.z⟩
  ·exact oz
  ·clear S; exact all_step (by omega) he (by first | assumption | (simp only [f_slotOk, f_within] at *; simp_all; done) | (simp_all; done) | (simp_all; omega))
 exact S.gf 15 .nil [B ((cells.length : Int) == 4)] (retB (by clear S; (first | (unfold f_pageOk; rw [all_end (by omega) he]; simp; done) | (unfold f_pageOk; rw [all_end (by omega) he]; simp [*]; done) | (unfold f_pageOk; rw [all_end (by omega) he]; simp; omega) | (unfold f_pageOk; rw [all_bad (k := k) (by omega) (by first | assumption | simp_all)]; simp; done))))

theorem c_impl_MemOk (w0 : World) (m : List (List Int)) (pm : LP (List Int)) (hm : RD w0 m pm) (pages : Int) : Calls Tryz.prog 136 [slv m.length pm.1, I pages].toArray w0 (fun e w' => e = .returned (B (f_memOk m pages)) ∧ Chg NoB w0 w') := by
 refine Calls.run NoB Tryz.func136 ?_
 intro ac β S
 have hlem : m.length ≤ 4194304 := LRd.le hm
 refine S.go 14 .nil fun ac w β S => ?_
 refine lp (fun mm ac w => ∃ (k : Nat)  (u : _) (N : _) (β : _), mm = m.length - k ∧ (k ≤ m.length) ∧ ((m.take k).all f_pageOk = true) ∧ St Tryz.prog Tryz.f136.ntmps w0 NoB u N β ⟨[(0, .v (slv m.length pm.1)), (1, .v (I pages)), (7, .v (slv m.length pm.1)), (8, .v (I (m.length : Int))), (9, .v (I (k : Int)))], []⟩ ac w) _ ⟨0, _, _, _, rfl, o0, (by simp), S.z⟩ ?_
 clear S
 rintro f1 mm hf2 ac w ⟨k, u, N, β, rfl, hk, he, S⟩
 refine S.rs fun S => ?_
 refine S.gd 6 .nil (decide ((k : Int) < (m.length : Int))) (fun ac w β h3 g4 S => ?_) (fun ac w β h3 g4 S => ?_)
 ·refine S.gb 19 (.cons (qn (S.arg hm) k Tryz.underlying24) (.cons (qx (S.arg hm) 26 k) (.cons (Q_call fun w hw => c_impl_PageOk w (el m k) (pm.2 k) (rd_of (LRd.el (S.arg hm) k (by omega)) hw)) .nil))) (!(f_pageOk (el m k))) (fun ac w β h5 S => ?_) (fun ac w β h5 S => ?_)
  ·have h6 := not_t h5
   exact S.gf 7 .nil [B false] (retB (by clear S; (first | (unfold f_memOk; rw [all_bad (k := k) (by omega) (by first | assumption | simp_all)]; simp; done) | (unfold f_memOk; rw [all_end (by omega) he]; simp; done) | (unfold f_memOk; rw [all_end (by omega) he]; simp [*]; done) | (unfold f_memOk; rw [all_end (by omega) he]; simp; omega))))
  have h7 := not_f h5
  refine S.ge 8 (.cons (qp (k : Int) 1) .nil) f1 fun ac w β S => hf2.of (m.length - (k + 1)) _ _ (by omega) ⟨k + 1, _, _, _, rfl, ?_, ?_, S.z⟩
  ·exact oz
  ·clear S; exact all_step (by omega) he (by first | assumption | (simp only [f_slotOk, f_within] at *; simp_all; done) | (simp_all; done) | (simp_all; omega))
 exact S.gf 16 .nil [B ((m.length : Int) == pages)] (retB (by clear S; (first | (unfold f_memOk; rw [all_end (by omega) he]; simp; done) | (unfold f_memOk; rw [all_end (by omega) he]; simp [*]; done) | (unfold f_memOk; rw [all_end (by omega) he]; simp; omega) | (unfold f_memOk; rw [all_bad (k := k) (by omega) (by first | assumption | simp_all)]; simp; done))))

theorem k1_impl_BareOk {p : Prop} (h : p := by clear S; (symm; rw [← Bool.not_eq_true]; intro hc; simp only [f_bareOk, Bool.and_eq_true, decide_eq_true_eq, beq_iff_eq] at hc; first | omega | (simp_all; done) | (simp_all; omega) | (have hx := all_el (k := k) hc.1.1.1.1 (by omega); simp_all; done))) : p := h
theorem c_impl_BareOk (w0 : World) (b : TBare) (pb : PBare) (hb : RD w0 b pb) : Calls Tryz.prog 104 [GT.val b pb].toArray w0 (fun e w' => e = .returned (B (f_bareOk b)) ∧ Chg NoB w0 w') := by
 refine Calls.run NoB Tryz.func104 ?_
 intro ac β S
 have hleb_mem : b.mem.length ≤ 4194304 := LRd.le (RBare.mem (d := b) hb)
 have hleb_guests : b.guests.length ≤ 4194304 := LRd.le (RBare.guests (d := b) hb)
 have hleb_outs : b.outs.length ≤ 4194304 := LRd.le (RBare.outs (d := b) hb)
 refine S.go 16 .nil fun ac w β S => ?_
 refine lp (fun mm ac w => ∃ (k : Nat)  (u : _) (N : _) (β : _), mm = b.guests.length - k ∧ (k ≤ b.guests.length) ∧ ((b.guests.take k).all f_guestOk = true) ∧ St Tryz.prog Tryz.f104.ntmps w0 NoB u N β ⟨[(1, .p 0 0), (6, .v (slv b.guests.length pb.guests.1)), (7, .v (I (b.guests.length : Int))), (8, .v (I (k : Int)))], [GT.cells b pb]⟩ ac w) _ ⟨0, _, _, _, rfl, o0, (by simp), S.z⟩ ?_
 clear S
 rintro f1 mm hf2 ac w ⟨k, u, N, β, rfl, hk, he, S⟩
 refine S.rs fun S => ?_
 refine S.gd 6 .nil (decide ((k : Int) < (b.guests.length : Int))) (fun ac w β h3 g4 S => ?_) (fun ac w β h3 g4 S => ?_)
 ·refine S.gb 20 (.cons (qn (RBare.guests (d := b) (S.arg hb)) k Tryz.underlying25) (.cons (qs (RBare.guests (d := b) (S.arg hb)) 51 k) (.cons (Q_call fun w hw => c_impl_GuestOk w (el b.guests k) (pb.guests.2 k) (rd_of (LRd.el (RBare.guests (d := b) (S.arg hb)) k (by omega)) hw)) .nil))) (!(f_guestOk (el b.guests k))) (fun ac w β h5 S => ?_) (fun ac w β h5 S => ?_)
  ·have h6 := not_t h5
   exact S.gf 7 .nil [B false] (retB k1_impl_BareOk)
  have h7 := not_f h5
  refine S.ge 8 (.cons (qp (k : Int) 1) .nil) f1 fun ac w β S => hf2.of (b.guests.length - (k + 1)) _ _ (by omega) ⟨k + 1, _, _, _, rfl, ?_, ?_, S.z⟩
  ·exact oz
  ·clear S; exact all_step (by omega) he (by first | assumption | simp_all)
 refine S.gb 12 (.cons (Q_call fun w hw => c_impl_MemOk w b.mem pb.mem (rd_of (RBare.mem (d := b) (S.arg hb)) hw) 8) .nil) (f_memOk b.mem 8) (fun ac w β h8 S => ?_) (fun ac w β h8 S => ?_)
 ·refine S.gb 6 (.cons (Q_call fun w hw => c_impl_within w (b.guests.length : Int) 1 2) .nil) (f_within (b.guests.length : Int) 1 2) (fun ac w β h9 S => ?_) (fun ac w β h9 S => ?_)
  ·have g10 := within_t h9
   refine S.gd 6 .nil (decide ((b.outs.length : Int) ≤ 40)) (fun ac w β h11 g12 S => ?_) (fun ac w β h11 g12 S => ?_)
   ·exact S.gf 8 (.cons (Q_call fun w hw => c_impl_PendOk w b.pend) .nil) [B (f_within b.pend 0 255)] (retB (by clear S; (first | rfl | (symm; rw [← Bool.not_eq_true]; intro hc; simp only [f_bareOk, Bool.and_eq_true, decide_eq_true_eq, beq_iff_eq] at hc; first | omega | (simp_all; done) | (simp_all; omega) | (have hx := all_el (k := k) hc.1.1.1.1 (by omega); simp_all; done)) | (symm; simp only [f_bareOk, Bool.and_eq_true, decide_eq_true_eq, beq_iff_eq]; (repeat' apply And.intro); all_goals first | assumption | omega | (simp_all; done) | (simp_all; omega) | (exact all_end (by omega) he)) | (rw [Bool.eq_iff_iff]; simp only [f_bareOk, Bool.and_eq_true, decide_eq_true_eq, beq_iff_eq]; refine ⟨fun hr => ?_, fun hc => ?_⟩ <;> ((repeat' apply And.intro); all_goals first | assumption | omega | (simp_all; done) | (simp_all; omega) | (exact all_end (by omega) he))))))
   exact S.gf 8 .nil [B false] (retB k1_impl_BareOk)
  have g13 := within_f h9
  exact S.gf 14 .nil [B false] (retB k1_impl_BareOk)
 exact S.gf 20 .nil [B false] (retB k1_impl_BareOk)

theorem k0_impl_AddrPage {p : Prop} (h : p := by clear S; (first | (unfold f_addrPage; rw [if_pos (by omega)]; done) | (unfold f_addrPage; rw [if_pos (by omega)]; first | rfl | (simp; done)) | (unfold f_addrPage; rw [if_neg (by omega)]; done) | (unfold f_addrPage; rw [if_neg (by omega)]; first | rfl | (simp; done)))) : p := h
theorem c_impl_AddrPage (w0 : World) (addr : Int) (haddr : In64 addr) : Calls Tryz.prog 80 [I addr].toArray w0 (fun e w' => e = .returned (I (f_addrPage addr)) ∧ Chg NoB w0 w') := by
 refine Calls.run NoB Tryz.func80 ?_
 intro ac β S
 have hloaddr := haddr.lo; have hhiaddr := haddr.hi
 refine S.gd 12 .nil (decide (addr < 0)) (fun ac w β h1 g2 S => ?_) (fun ac w β h1 g2 S => ?_)
 ·exact S.gf 7 .nil [I (-1)] (retI k0_impl_AddrPage)
 exact S.gf 11 (.cons (Q_quo (x := addr) (y := 4) (by decide) (tdiv4_in64 haddr (by omega))) .nil) [I (Int.tdiv addr 4)] (retI k0_impl_AddrPage)

theorem k0_impl_SlotAt {p : Prop} (h : p := by clear S; (first | (unfold f_slotAt; rw [if_pos (by omega)]) | (unfold f_slotAt; rw [if_neg (by omega)]))) : p := h
theorem c_impl_SlotAt (w0 : World) (t : List TSlot) (pt : LP TSlot) (ht : RD w0 t pt) (page : Int) : Calls Tryz.prog 122 [slv t.length pt.1, I page].toArray w0 (fun e w' => e = .returned (GT.val (f_slotAt t page) ()) ∧ Chg NoB w0 w') := by
 refine Calls.run NoB Tryz.func122 ?_
 intro ac β S
 have hlet : t.length ≤ 4194304 := LRd.le ht
 refine S.gb 15 (.cons (Q_call fun w hw => c_impl_has w page (t.length : Int) (by omega)) .nil) (!(f_within page 0 ((t.length : Int) - 1))) (fun ac w β h1 S => ?_) (fun ac w β h1 S => ?_)
 ·have h2 := not_t h1
  have g3 := within_f h2
  exact S.gf 8 (.cons (Q_call fun w hw => c_impl_NoSlot w ) .nil) [GT.val (⟨-1, 0⟩ : TSlot) ()] (retV (p := ()) k0_impl_SlotAt)
 have h4 := not_f h1
 have g5 := within_t h4
 exact S.gf 13 (.cons (qt (S.arg ht) page Tryz.underlying45) (.cons (qs (S.arg ht) 44 page.toNat) .nil)) [GT.val (el t page.toNat) ()] (retV (p := ()) k0_impl_SlotAt)

theorem c_impl_RightsOk (w0 : World) (r : Int) : Calls Tryz.prog 177 [I r].toArray w0 (fun e w' => e = .returned (B (f_within r 0 3)) ∧ Chg NoB w0 w') := by
 refine Calls.run NoB Tryz.func177 ?_
 intro ac β S
 exact S.gf 13 (.cons (Q_call fun w hw => c_impl_within w r 0 3) .nil) [B (f_within r 0 3)] (retB (by clear S; first | rfl | (simp [f_within, *]; done) | (simp [f_within, *]; omega) | (simp_all [f_within]; done) | (simp_all [f_within]; omega)))

theorem k0_impl_Enough {p : Prop} (h : p := by clear S; first | rfl | (simp [f_enough, *]; done) | (simp [f_enough, *]; omega) | (simp_all [f_enough]; done) | (simp_all [f_enough]; omega)) : p := h
theorem c_impl_Enough (w0 : World) (rights : Int) (need : Int) : Calls Tryz.prog 129 [I rights, I need].toArray w0 (fun e w' => e = .returned (B (f_enough rights need)) ∧ Chg NoB w0 w') := by
 refine Calls.run NoB Tryz.func129 ?_
 intro ac β S
 refine S.gb 10 (.cons (Q_call fun w hw => c_impl_RightsOk w rights) .nil) (f_within rights 0 3) (fun ac w β h1 S => ?_) (fun ac w β h1 S => ?_)
 ·have g2 := within_t h1
  refine S.gb 4 (.cons (Q_call fun w hw => c_impl_RightsOk w need) .nil) (f_within need 0 3) (fun ac w β h3 S => ?_) (fun ac w β h3 S => ?_)
  ·have g4 := within_t h3
   exact S.gf 10 (.cons (Q_land64 (x := rights) (y := need)) .nil) [B ((land64 rights need) == need)] (retB k0_impl_Enough)
  have g5 := within_f h3
  exact S.gf 10 .nil [B false] (retB k0_impl_Enough)
 have g6 := within_f h1
 exact S.gf 14 .nil [B false] (retB k0_impl_Enough)

theorem k0_impl_WalkInner {p : Prop} (h : p := by clear S; (unfold f_walkInner; (repeat' split) <;> first | rfl | (exfalso; omega) | (exfalso; simp_all; done) | (exfalso; simp_all; omega))) : p := h
theorem c_impl_WalkInner (w0 : World) (inner : List TSlot) (pinner : LP TSlot) (hinner : RD w0 inner pinner) (page : Int) (need : Int) : Calls Tryz.prog 105 [slv inner.length pinner.1, I page, I need].toArray w0 (fun e w' => e = .returned (.tuple #[I (f_walkInner inner page need).1, B (f_walkInner inner page need).2]) ∧ Chg NoB w0 w') := by
 refine Calls.run NoB Tryz.func105 ?_
 intro ac β S
 have hleinner : inner.length ≤ 4194304 := LRd.le hinner
 refine S.gd 22 (.cons (Q_call fun w hw => c_impl_SlotAt w inner pinner (rd_of (S.arg hinner) hw) page) .nil) ((f_slotAt inner page).page == (-1)) (fun ac w β h1 g2 S => ?_) (fun ac w β h1 g2 S => ?_)
 ·exact S.gf 21 .nil [I (-1), B false] (ret2v (eqI (show (-1) = (f_walkInner inner page need).1 from k0_impl_WalkInner)) (eqB (show false = (f_walkInner inner page need).2 from k0_impl_WalkInner)))
 refine S.gb 7 (.cons (Q_call fun w hw => c_impl_Enough w (f_slotAt inner page).rights need) .nil) (!(f_enough (f_slotAt inner page).rights need)) (fun ac w β h3 S => ?_) (fun ac w β h3 S => ?_)
 ·have h4 := not_t h3
  exact S.gf 14 .nil [I (-1), B false] (ret2v (eqI (show (-1) = (f_walkInner inner page need).1 from k0_impl_WalkInner)) (eqB (show false = (f_walkInner inner page need).2 from k0_impl_WalkInner)))
 have h5 := not_f h3
 have g6 := enough_t h5
 refine S.gb 6 (.cons (Q_call fun w hw => c_impl_within w need 1 3) .nil) (!(f_within need 1 3)) (fun ac w β h7 S => ?_) (fun ac w β h7 S => ?_)
 ·have h8 := not_t h7
  have g9 := within_f h8
  exact S.gf 8 .nil [I (-1), B false] (ret2v (eqI (show (-1) = (f_walkInner inner page need).1 from k0_impl_WalkInner)) (eqB (show false = (f_walkInner inner page need).2 from k0_impl_WalkInner)))
 have h10 := not_f h7
 have g11 := within_t h10
 exact S.gf 12 .nil [I (f_slotAt inner page).page, B true] (ret2v (eqI (show (f_slotAt inner page).page = (f_walkInner inner page need).1 from k0_impl_WalkInner)) (eqB (show true = (f_walkInner inner page need).2 from k0_impl_WalkInner)))

theorem k0_impl_AddrCell {p : Prop} (h : p := by clear S; (first | (unfold f_addrCell; rw [if_pos (by omega)]; done) | (unfold f_addrCell; rw [if_pos (by omega)]; first | rfl | (simp; done)) | (unfold f_addrCell; rw [if_neg (by omega)]; done) | (unfold f_addrCell; rw [if_neg (by omega)]; first | rfl | (simp; done)))) : p := h
theorem c_impl_AddrCell (w0 : World) (addr : Int) (haddr : In64 addr) : Calls Tryz.prog 84 [I addr].toArray w0 (fun e w' => e = .returned (I (f_addrCell addr)) ∧ Chg NoB w0 w') := by
 refine Calls.run NoB Tryz.func84 ?_
 intro ac β S
 have hloaddr := haddr.lo; have hhiaddr := haddr.hi
 refine S.gd 12 .nil (decide (addr < 0)) (fun ac w β h1 g2 S => ?_) (fun ac w β h1 g2 S => ?_)
 ·exact S.gf 7 .nil [I (-1)] (retI k0_impl_AddrCell)
 exact S.gf 11 (.cons (Q_rem (x := addr) (y := 4) (by decide)) .nil) [I (Int.tmod addr 4)] (retI k0_impl_AddrCell)

theorem k0_impl_reach {p : Prop} (h : p := by clear S; (first | (rw [reach_n1 (by assumption)]; done) | (rw [reach_n2 (by assumption)]; done) | (rw [reach_n3 (by assumption)]; done) | (rw [reach_pos (by assumption) (by assumption) (by assumption)]; done))) : p := h
theorem c_impl_reach (w0 : World) (b : TBare) (pb : PBare) (hb : RD w0 b pb) (g : Int) (addr : Int) (haddr : In64 addr) (need : Int) : Calls Tryz.prog 39 [GT.val b pb, I g, I addr, I need].toArray w0 (fun e w' => e = .returned (.tuple #[I (f_reach b g addr need).1, I (f_reach b g addr need).2.1, B (f_reach b g addr need).2.2]) ∧ Chg NoB w0 w') := by
 refine Calls.run NoB Tryz.func39 ?_
 intro ac β S
 have hleb_mem : b.mem.length ≤ 4194304 := LRd.le (RBare.mem (d := b) hb)
 have hleb_guests : b.guests.length ≤ 4194304 := LRd.le (RBare.guests (d := b) hb)
 have hleb_outs : b.outs.length ≤ 4194304 := LRd.le (RBare.outs (d := b) hb)
 have hloaddr := haddr.lo; have hhiaddr := haddr.hi
 refine S.go 12 .nil fun ac w β S => S.K2 (r := (f_guestAt b g).1) (r' := (f_guestAt b g).2) (d := 18) (c_impl_GuestAt w b pb (S.rd (S.arg hb)) g) fun ac w N q1 q2 F3 F4 S up o5 o6 d7 d8 d9 => ?_
 clear up d7
 clear d8
 refine S.gb 15 (.cons (Q_call fun w hw => c_impl_BareOk w b pb (rd_of (S.arg hb) hw)) .nil) (!(f_bareOk b)) (fun ac w β h10 S => ?_) (fun ac w β h10 S => ?_)
 ·have h11 := not_t h10
  exact S.gf 19 .nil [I 0, I 0, B false] (ret3v (eqI (show 0 = (f_reach b g addr need).1 from k0_impl_reach)) (eqI (show 0 = (f_reach b g addr need).2.1 from k0_impl_reach)) (eqB (show false = (f_reach b g addr need).2.2 from k0_impl_reach)))
 have h12 := not_f h10
 have g13 := bareOk_t h12
 refine S.gb 4 .nil (!(f_guestAt b g).2) (fun ac w β h14 S => ?_) (fun ac w β h14 S => ?_)
 ·have h15 := not_t h14
  have g16 := guestAt_f h15
  exact S.gf 15 .nil [I 0, I 0, B false] (ret3v (eqI (show 0 = (f_reach b g addr need).1 from k0_impl_reach)) (eqI (show 0 = (f_reach b g addr need).2.1 from k0_impl_reach)) (eqB (show false = (f_reach b g addr need).2.2 from k0_impl_reach)))
 have h17 := not_f h14
 have g18 := guestAt_t h17
 refine S.gb 6 (.cons (Q_call fun w hw => c_impl_within w addr 0 15) .nil) (!(f_within addr 0 15)) (fun ac w β h19 S => ?_) (fun ac w β h19 S => ?_)
 ·have h20 := not_t h19
  have g21 := within_f h20
  exact S.gf 9 .nil [I 0, I 0, B false] (ret3v (eqI (show 0 = (f_reach b g addr need).1 from k0_impl_reach)) (eqI (show 0 = (f_reach b g addr need).2.1 from k0_impl_reach)) (eqB (show false = (f_reach b g addr need).2.2 from k0_impl_reach)))
 have h22 := not_f h19
 have g23 := within_t h22
 exact S.gf 18 (.cons (Q_call fun w hw => c_impl_AddrPage w addr haddr) (.cons (Q_call fun w hw => c_impl_WalkInner w (f_guestAt b g).1.live q1.live (rd_of (RGuest.live (d := (f_guestAt b g).1) o5.rn) hw) (f_addrPage addr) need) (.cons (Q_call fun w hw => c_impl_AddrCell w addr haddr) .nil))) [I (f_walkInner (f_guestAt b g).1.live (f_addrPage addr) need).1, I (f_addrCell addr), B (f_walkInner (f_guestAt b g).1.live (f_addrPage addr) need).2] (ret3v (eqI (show (f_walkInner (f_guestAt b g).1.live (f_addrPage addr) need).1 = (f_reach b g addr need).1 from k0_impl_reach)) (eqI (show (f_addrCell addr) = (f_reach b g addr need).2.1 from k0_impl_reach)) (eqB (show (f_walkInner (f_guestAt b g).1.live (f_addrPage addr) need).2 = (f_reach b g addr need).2.2 from k0_impl_reach)))

theorem k0_impl_WithCell {p : Prop} (h : p := by clear S; (unfold f_withCell; (repeat' split) <;> first | rfl | (simp; done) | (exfalso; omega) | (exfalso; simp_all; done) | (exfalso; simp_all; omega))) : p := h
theorem c_impl_WithCell (w0 : World) (m : List (List Int)) (pm : LP (List Int)) (hm : RD w0 m pm) (page : Int) (cell : Int) (v : Int) (hv : In64 v) : Calls Tryz.prog 41 [slv m.length pm.1, I page, I cell, I v].toArray w0 (Ret1 NoB w0 (f_withCell m page cell v : List (List Int))) := by
 refine Calls.run NoB Tryz.func41 ?_
 intro ac β S
 have hlem : m.length ≤ 4194304 := LRd.le hm
 have hlov := hv.lo; have hhiv := hv.hi
 refine S.go 8 .nil fun ac w β S => S.K1 (r := m) (d := 11) (c_impl_copyMem w m pm (S.rd (S.arg hm))) fun ac w N q1 F2 S up o3 d4 => ?_
 clear up d4
 refine S.gb 11 (.cons (Q_call fun w hw => c_impl_has w page (m.length : Int) (by omega)) .nil) (f_within page 0 ((m.length : Int) - 1)) (fun ac w β h5 S => ?_) (fun ac w β h5 S => ?_)
 ·have g6 := within_t h5
  have b7 : (el m page.toNat).length ≤ 4194304 := LRd.le (LRd.el (S.arg hm) page.toNat (by omega))
  refine S.gb 9 (.cons (qt (S.arg hm) page Tryz.underlying24) (.cons (qx (S.arg hm) 26 page.toNat) (.cons (Q_call fun w hw => c_impl_has w cell ((el m page.toNat).length : Int) (by omega)) .nil))) (f_within cell 0 (((el m page.toNat).length : Int) - 1)) (fun ac w β h8 S => ?_) (fun ac w β h8 S => ?_)
  ·have g9 := within_t h8
   refine S.gb 5 (.cons (Q_call fun w hw => c_impl_within w v 0 99) .nil) (f_within v 0 99) (fun ac w β h10 S => ?_) (fun ac w β h10 S => ?_)
   ·have g11 := within_t h10
    obtain ⟨F12, o13, _, b15⟩ := foc2_id o3 (k := page.toNat) (show page.toNat < m.length by omega)
    have l16 := LRd.le o13.rn
    have n17 := o13.sub
    refine S.go 9 (.cons (qt o3.rn page Tryz.underlying24) (.cons (qx o3.rn 26 page.toNat) (.cons (qt (LRd.el o3.rn page.toNat (by omega)) cell Tryz.underlying26) .nil))) fun ac w β S => S.SF (α := Int) o13 (t := 3) (k := cell.toNat) (j := 0) (off := (q1.2 page.toNat).1.off + cell.toNat * 1) (v := I v) (y := v) (q := ()) (fun _ _ _ => ⟨NoB, hv, fun _ h => False.elim h⟩) fun w N F19 q20 S up o18 d21 s22 n23 => ?_
    clear d21 o13
    obtain ⟨p24, o25, c26⟩ := b15 _ _ _ _ _ NoB up o18 s22 (fun b _ h => False.elim h) (by show [slv _ _] = [slv _ _]; rw [List.length_set]) (fun b h => n23 b (n17 b h))
    clear up o18 n23
    have l27 : (m.set page.toNat ((el m page.toNat).set cell.toNat v)).length = m.length := List.length_set
    refine S.gr 9 .nil [slv m.length q1.1] fun ac w β S => ?_
    exact ret1_of S (show f_withCell m page cell v = (m.set page.toNat ((el m page.toNat).set cell.toNat v)) from k0_impl_WithCell) (by rw [show m.length = (m.set page.toNat ((el m page.toNat).set cell.toNat v)).length from (by omega)]; rfl) o25
   have g28 := within_f h10
   refine S.gr 10 .nil [slv m.length q1.1] fun ac w β S => ?_
   exact ret1_of S (show f_withCell m page cell v = m from k0_impl_WithCell) rfl o3
  have g29 := within_f h8
  refine S.gr 15 .nil [slv m.length q1.1] fun ac w β S => ?_
  exact ret1_of S (show f_withCell m page cell v = m from k0_impl_WithCell) rfl o3
 have g30 := within_f h5
 refine S.gr 24 .nil [slv m.length q1.1] fun ac w β S => ?_
 exact ret1_of S (show f_withCell m page cell v = m from k0_impl_WithCell) rfl o3

theorem k0_impl_BareDma {p : Prop} (h : p := by clear S; (first | (unfold f_bareDma; rw [if_neg (by (have hz := reach_f (by assumption)); simp [hz])]; done) | (unfold f_bareDma; rw [if_neg (by simp [*])]; done) | ((have hz := reach_t (by assumption)); unfold f_bareDma; rw [if_pos ⟨hz.1, by assumption⟩, ← hz.2.1, ← hz.2.2]; done))) : p := h
theorem c_impl_BareDma (w0 : World) (b : TBare) (pb : PBare) (hb : RD w0 b pb) (g : Int) (addr : Int) (haddr : In64 addr) (v : Int) (hv : In64 v) : Calls Tryz.prog 8 [GT.val b pb, I g, I addr, I v].toArray w0 (Ret2 NoB w0 ((f_bareDma b g addr v).1 : TBare) ((f_bareDma b g addr v).2 : Bool)) := by
 refine Calls.run NoB Tryz.func8 ?_
 intro ac β S
 have hleb_mem : b.mem.length ≤ 4194304 := LRd.le (RBare.mem (d := b) hb)
 have hleb_guests : b.guests.length ≤ 4194304 := LRd.le (RBare.guests (d := b) hb)
 have hleb_outs : b.outs.length ≤ 4194304 := LRd.le (RBare.outs (d := b) hb)
 have hloaddr := haddr.lo; have hhiaddr := haddr.hi
 have hlov := hv.lo; have hhiv := hv.hi
 refine S.go 10 .nil fun ac w β S => S.K1 (r := b) (d := 15) (c_impl_copyBare w b pb (S.rd (S.arg hb))) fun ac w N q1 F2 S up o3 d4 => ?_
 clear up d4
 have i14 : In64 b.pend := RBare.pend (d := b) o3.rn
 obtain ⟨F5, F8, F11, o6, o9, o12, _, _, _, d15, d16, d17⟩ := sp_Bare o3
 refine S.gb 25 (.cons (Q_call fun w hw => c_impl_reach w b pb (rd_of (S.arg hb) hw) g addr haddr 2) .nil) (!(f_reach b g addr 2).2.2) (fun ac w β h18 S => ?_) (fun ac w β h18 S => ?_)
 ·have h19 := not_t h18
  refine S.gr 15 .nil [GT.val b q1, B false] fun ac w β S => ?_
  have o20 := ow_Bare (x := b) (p := q1) o6 o9 o12 d15 d16 d17 i14
  exact ret2_of (p' := ()) S (show (f_bareDma b g addr v).1 = b from k0_impl_BareDma) (show (f_bareDma b g addr v).2 = false from k0_impl_BareDma) rfl rfl o20 trivial
 have h21 := not_f h18
 refine S.gb 6 (.cons (Q_call fun w hw => c_impl_within w v 0 99) .nil) (!(f_within v 0 99)) (fun ac w β h22 S => ?_) (fun ac w β h22 S => ?_)
 ·have h23 := not_t h22
  have g24 := within_f h23
  refine S.gr 9 .nil [GT.val b q1, B false] fun ac w β S => ?_
  have o25 := ow_Bare (x := b) (p := q1) o6 o9 o12 d15 d16 d17 i14
  exact ret2_of (p' := ()) S (show (f_bareDma b g addr v).1 = b from k0_impl_BareDma) (show (f_bareDma b g addr v).2 = false from k0_impl_BareDma) rfl rfl o25 trivial
 have h26 := not_f h22
 have g27 := within_t h26
 refine S.go 10 .nil fun ac w β S => S.K1 (r := f_withCell b.mem (f_reach b g addr 2).1 (f_reach b g addr 2).2.1 v) (d := 37) (c_impl_WithCell w b.mem pb.mem (S.rd (RBare.mem (d := b) (S.arg hb))) (f_reach b g addr 2).1 (f_reach b g addr 2).2.1 v hv) fun ac w N q28 F29 S up o30 d31 => ?_
 have d33 := Disj.w d31 o9.sub
 have d34 := Disj.w d31 o12.sub
 replace o9 := o9.up up
 replace o12 := o12.up up
 clear up d31
 refine S.gr 12 .nil [GT.val (⟨(f_withCell b.mem (f_reach b g addr 2).1 (f_reach b g addr 2).2.1 v), b.guests, b.outs, b.pend⟩ : TBare) (⟨q28, q1.guests, q1.outs⟩ : PBare), B true] fun ac w β S => ?_
 have o35 := ow_Bare (x := (⟨(f_withCell b.mem (f_reach b g addr 2).1 (f_reach b g addr 2).2.1 v), b.guests, b.outs, b.pend⟩ : TBare)) (p := (⟨q28, q1.guests, q1.outs⟩ : PBare)) o30 o9 o12 (Disj.symm d33) (Disj.symm d34) d17 i14
 exact ret2_of (p' := ()) S (show (f_bareDma b g addr v).1 = (⟨(f_withCell b.mem (f_reach b g addr 2).1 (f_reach b g addr 2).2.1 v), b.guests, b.outs, b.pend⟩ : TBare) from k0_impl_BareDma) (show (f_bareDma b g addr v).2 = true from k0_impl_BareDma) rfl rfl o35 trivial

theorem c_spec_l04Copy (w0 : World) (l : List (List Int)) (pl : LP (List Int)) (hl : RD w0 l pl) : Calls Tryz.prog 106 [slv l.length pl.1].toArray w0 (Ret1 NoB w0 (l : List (List Int))) := by
 refine Calls.run NoB Tryz.func106 ?_
 intro ac β S
 have hlel : l.length ≤ 4194304 := LRd.le hl
 refine S.go 7 .nil fun ac w β S => S.B0 (α := List Int) (d := 5) fun ac w N q1 F2 S up o3 d4 => ?_
 clear up d4
 refine S.go 10 .nil fun ac w β S => ?_
 refine lp (fun mm ac w => ∃ (k : Nat) (acc : List (List Int)) (q5 : _) (F6 : _) (u : _) (N : _) (β : _), mm = l.length - k ∧ (k ≤ l.length) ∧ (acc = l.take k) ∧ St Tryz.prog Tryz.f106.ntmps w0 NoB u N β ⟨[(0, .v (slv l.length pl.1)), (3, .v (slv acc.length q5.1)), (4, .v (I (k : Int)))], []⟩ ac w ∧ Ow w0 NoB u N F6 acc q5) _ ⟨0, ([] : List (List Int)), q1, F2, _, _, _, rfl, o0, (by simp), S.z, o3⟩ ?_
 clear S o3
 rintro f8 mm hf9 ac w ⟨k, acc, q5, F6, u, N, β, rfl, hk, hacc, S, o7⟩
 refine S.rs fun S => ?_
 have hlacc : acc.length = k := by rw [hacc]; simp; omega
 refine S.gd 9 .nil (decide ((k : Int) < (l.length : Int))) (fun ac w β h10 g11 S => ?_) (fun ac w β h10 g11 S => ?_)
 ·refine S.go 7 .nil fun ac w β S => S.B0 (α := Int) (d := 13) fun ac w N q12 F13 S up o14 d15 => ?_
  have d16 := Disj.w d15 o7.sub
  replace o7 := o7.up up
  clear up d15
  have b21 : (el l k).length ≤ 4194304 := LRd.le (LRd.el (S.arg hl) k (by omega))
  refine S.go 4 (.cons (qn (S.arg hl) k Tryz.underlying24) (.cons (qx (S.arg hl) 26 k) .nil)) fun ac w β S => S.AF0 (α := Int) o14 (LRd.el (S.arg hl) k (by omega)) (fun _ _ h => h) (by' := 8) (d := 18) (lx := 0) (ly := (el l k).length) rfl fun ac w N q17 F18 S up o19 d20 => ?_
  have d22 := d20 _ d16 o7.sub
  replace o7 := o7.upF d16 up
  clear up d20
  refine S.B1 (α := List Int) (x := (el l k)) (p := q17) o19.own o19.sub o19.young (d := 19) fun ac w N q23 F24 S up o25 d26 => ?_
  have d27 := d26 _ d22 o7.sub
  replace o7 := o7.up up
  clear up d26
  refine S.AO (α := List Int) o7 o25 d27 (by' := 24) (d := 20) (lx := acc.length) (ly := 1) rfl rfl (show _ ≤ 4194304 by simp only [List.length_append, List.length_cons, List.length_nil]; omega) fun ac w N q28 F29 S up o30 d31 => ?_
  clear up d31
  refine S.ge 9 (.cons (qp (k : Int) 1) .nil) f8 fun ac w β S => hf9.of (l.length - (k + 1)) _ _ (by omega) ⟨k + 1, (acc ++ [(el l k)]), q28, F29, _, _, _, rfl, ?_, ?_, S.z, o30⟩
  ·exact oz
  ·clear S; (first | (rw [take_el (by omega), hacc]; done) | (rw [take_el (by omega), hacc]; simp; done))
 refine S.gr 13 .nil [slv acc.length q5.1] fun ac w β S => ?_
 exact ret1_of S (show l = acc by clear S; (rw [hacc, take_all (by omega)])) rfl o7

theorem c_spec_l15Copy (w0 : World) (g : TGuest) (pg : PGuest) (hg : RD w0 g pg) : Calls Tryz.prog 158 [GT.val g pg].toArray w0 (Ret1 NoB w0 (g : TGuest)) := by
 refine Calls.run NoB Tryz.func158 ?_
 intro ac β S
 have hleg_prog : g.prog.length ≤ 4194304 := LRd.le (RGuest.prog (d := g) hg)
 have hleg_written : g.written.length ≤ 4194304 := LRd.le (RGuest.written (d := g) hg)
 have hleg_live : g.live.length ≤ 4194304 := LRd.le (RGuest.live (d := g) hg)
 have hleg_seen : g.seen.length ≤ 4194304 := LRd.le (RGuest.seen (d := g) hg)
 refine S.go 8 .nil fun ac w β S => S.B0 (α := TIns) (d := 3) fun ac w N q1 F2 S up o3 d4 => ?_
 clear up d4
 have b9 : g.prog.length ≤ 4194304 := LRd.le (RGuest.prog (d := g) (S.arg hg))
 refine S.go 2 .nil fun ac w β S => S.AF0 (α := TIns) o3 (RGuest.prog (d := g) (S.arg hg)) (fun _ _ h => h) (by' := 16) (d := 6) (lx := 0) (ly := g.prog.length) rfl fun ac w N q5 F6 S up o7 d8 => ?_
 clear up d8
 refine S.go 6 .nil fun ac w β S => S.B0 (α := TSlot) (d := 8) fun ac w N q10 F11 S up o12 d13 => ?_
 have d14 := Disj.w d13 o7.sub
 replace o7 := o7.up up
 clear up d13
 have b19 : g.written.length ≤ 4194304 := LRd.le (RGuest.written (d := g) (S.arg hg))
 refine S.go 2 .nil fun ac w β S => S.AF0 (α := TSlot) o12 (RGuest.written (d := g) (S.arg hg)) (fun _ _ h => h) (by' := 16) (d := 11) (lx := 0) (ly := g.written.length) rfl fun ac w N q15 F16 S up o17 d18 => ?_
 have d20 := d18 _ d14 o7.sub
 replace o7 := o7.upF d14 up
 clear up d18
 refine S.go 6 .nil fun ac w β S => S.B0 (α := TSlot) (d := 13) fun ac w N q21 F22 S up o23 d24 => ?_
 have d25 := Disj.w d24 o7.sub
 have d26 := Disj.w d24 o17.sub
 replace o7 := o7.up up
 replace o17 := o17.up up
 clear up d24
 have b31 : g.live.length ≤ 4194304 := LRd.le (RGuest.live (d := g) (S.arg hg))
 refine S.go 2 .nil fun ac w β S => S.AF0 (α := TSlot) o23 (RGuest.live (d := g) (S.arg hg)) (fun _ _ h => h) (by' := 16) (d := 16) (lx := 0) (ly := g.live.length) rfl fun ac w N q27 F28 S up o29 d30 => ?_
 have d32 := d30 _ d25 o7.sub
 have d33 := d30 _ d26 o17.sub
 replace o7 := o7.upF d25 up
 replace o17 := o17.upF d26 up
 clear up d30
 refine S.go 6 .nil fun ac w β S => S.B0 (α := Int) (d := 18) fun ac w N q34 F35 S up o36 d37 => ?_
 have d38 := Disj.w d37 o7.sub
 have d39 := Disj.w d37 o17.sub
 have d40 := Disj.w d37 o29.sub
 replace o7 := o7.up up
 replace o17 := o17.up up
 replace o29 := o29.up up
 clear up d37
 have b45 : g.seen.length ≤ 4194304 := LRd.le (RGuest.seen (d := g) (S.arg hg))
 refine S.go 2 .nil fun ac w β S => S.AF0 (α := Int) o36 (RGuest.seen (d := g) (S.arg hg)) (fun _ _ h => h) (by' := 8) (d := 21) (lx := 0) (ly := g.seen.length) rfl fun ac w N q41 F42 S up o43 d44 => ?_
 have d46 := d44 _ d38 o7.sub
 have d47 := d44 _ d39 o17.sub
 have d48 := d44 _ d40 o29.sub
 replace o7 := o7.upF d38 up
 replace o17 := o17.upF d39 up
 replace o29 := o29.upF d40 up
 clear up d44
 refine S.gr 11 .nil [GT.val (⟨g.prog, g.acc, g.pc, g.written, g.live, g.ctl, g.pend, g.exit, g.halted, g.seen⟩ : TGuest) (⟨q5, q15, q27, q41⟩ : PGuest)] fun ac w β S => ?_
 have o49 := ow_Guest (x := (⟨g.prog, g.acc, g.pc, g.written, g.live, g.ctl, g.pend, g.exit, g.halted, g.seen⟩ : TGuest)) (p := (⟨q5, q15, q27, q41⟩ : PGuest)) o7 o17 o29 o43 d20 d32 d46 d33 d47 d48 (RGuest.acc (d := g) (S.arg hg)) (RGuest.pc (d := g) (S.arg hg)) (RGuest.ctl (d := g) (S.arg hg)) (RGuest.pend (d := g) (S.arg hg)) (RGuest.exit (d := g) (S.arg hg))
 exact ret1_of S (show g = (⟨g.prog, g.acc, g.pc, g.written, g.live, g.ctl, g.pend, g.exit, g.halted, g.seen⟩ : TGuest) by clear S; (first | rfl | simp)) rfl o49

theorem c_spec_l17Guests (w0 : World) (l : List TGuest) (pl : LP TGuest) (hl : RD w0 l pl) : Calls Tryz.prog 107 [slv l.length pl.1].toArray w0 (Ret1 NoB w0 (l : List TGuest)) := by
 refine Calls.run NoB Tryz.func107 ?_
 intro ac β S
 have hlel : l.length ≤ 4194304 := LRd.le hl
 refine S.go 7 .nil fun ac w β S => S.B0 (α := TGuest) (d := 5) fun ac w N q1 F2 S up o3 d4 => ?_
 clear up d4
 refine S.go 10 .nil fun ac w β S => ?_
 refine lp (fun mm ac w => ∃ (k : Nat) (acc : List TGuest) (q5 : _) (F6 : _) (u : _) (N : _) (β : _), mm = l.length - k ∧ (k ≤ l.length) ∧ (acc = l.take k) ∧ St Tryz.prog Tryz.f107.ntmps w0 NoB u N β ⟨[(0, .v (slv l.length pl.1)), (3, .v (slv acc.length q5.1)), (4, .v (I (k : Int)))], []⟩ ac w ∧ Ow w0 NoB u N F6 acc q5) _ ⟨0, ([] : List TGuest), q1, F2, _, _, _, rfl, o0, (by simp), S.z, o3⟩ ?_
 clear S o3
 rintro f8 mm hf9 ac w ⟨k, acc, q5, F6, u, N, β, rfl, hk, hacc, S, o7⟩
 refine S.rs fun S => ?_
 have hlacc : acc.length = k := by rw [hacc]; simp; omega
 refine S.gd 9 .nil (decide ((k : Int) < (l.length : Int))) (fun ac w β h10 g11 S => ?_) (fun ac w β h10 g11 S => ?_)
 ·refine S.go 11 (.cons (qn (S.arg hl) k Tryz.underlying25) (.cons (qs (S.arg hl) 51 k) .nil)) fun ac w β S => S.K1 (r := (el l k)) (d := 17) (c_spec_l15Copy w (el l k) (pl.2 k) (S.rd (LRd.el (S.arg hl) k (by omega)))) fun ac w N q12 F13 S up o14 d15 => ?_
  have d16 := Disj.w d15 o7.sub
  replace o7 := o7.up up
  clear up d15
  refine S.B1 (α := TGuest) (x := (el l k)) (p := q12) o14.own o14.sub o14.young (d := 18) fun ac w N q17 F18 S up o19 d20 => ?_
  have d21 := d20 _ d16 o7.sub
  replace o7 := o7.up up
  clear up d20
  refine S.AO (α := TGuest) o7 o19 d21 (by' := 184) (d := 19) (lx := acc.length) (ly := 1) rfl rfl (show _ ≤ 4194304 by simp only [List.length_append, List.length_cons, List.length_nil]; omega) fun ac w N q22 F23 S up o24 d25 => ?_
  clear up d25
  refine S.ge 9 (.cons (qp (k : Int) 1) .nil) f8 fun ac w β S => hf9.of (l.length - (k + 1)) _ _ (by omega) ⟨k + 1, (acc ++ [(el l k)]), q22, F23, _, _, _, rfl, ?_, ?_, S.z, o24⟩
  ·exact oz
  ·clear S; (first | (rw [take_el (by omega), hacc]; done) | (rw [take_el (by omega), hacc]; simp; done))
 refine S.gr 13 .nil [slv acc.length q5.1] fun ac w β S => ?_
 exact ret1_of S (show l = acc by clear S; (rw [hacc, take_all (by omega)])) rfl o7

theorem c_spec_l17Copy (w0 : World) (b : TBare) (pb : PBare) (hb : RD w0 b pb) : Calls Tryz.prog 42 [GT.val b pb].toArray w0 (Ret1 NoB w0 (b : TBare)) := by
 refine Calls.run NoB Tryz.func42 ?_
 intro ac β S
 have hleb_mem : b.mem.length ≤ 4194304 := LRd.le (RBare.mem (d := b) hb)
 have hleb_guests : b.guests.length ≤ 4194304 := LRd.le (RBare.guests (d := b) hb)
 have hleb_outs : b.outs.length ≤ 4194304 := LRd.le (RBare.outs (d := b) hb)
 refine S.go 7 .nil fun ac w β S => ?_
 refine drw ?_
 let σ1 : Sy := ⟨[(1, .p 0 0), (2, .p 1 0)], [GT.cells b pb, Zc TBare]⟩
 obtain ⟨u0, N0, β0, S⟩ : ∃ u0 N0 β0, St Tryz.prog Tryz.f42.ntmps w0 NoB u0 N0 β0 σ1 ac w := ⟨_, _, _, S.z⟩
 refine wp_region_cut (fun ac w => ∃ q77 F78 q74 F75 q80 F81 u N β, St Tryz.prog Tryz.f42.ntmps w0 NoB u N β (σ1.dl [1] [] 2 [(1, [slv b.mem.length q74.1, slv b.guests.length q77.1, slv b.outs.length q80.1, I b.pend])]) ac w ∧ Ow w0 NoB u N F78 b.guests q77 ∧ Ow w0 NoB u N F75 b.mem q74 ∧ Ow w0 NoB u N F81 b.outs q80 ∧ Disj F78 F75 ∧ Disj F78 F81 ∧ Disj F75 F81) ?_ ?_
 ·refine S.draw0 (f := 14) 13 (by kernel_rfl) (by kernel_rfl) fun w S => ?_
  refine S.hq 0 [0] [] [(3, .p 0 0)] .nil fun ac S => ?_
  refine S.hq 1 [1] [] [(4, .v (slv b.mem.length pb.mem.1))] .nil fun ac S => ?_
  refine S.hq 3 [3] [] [(6, .p 0 1)] .nil fun ac S => ?_
  refine S.hq 4 [4] [] [(7, .v (slv b.guests.length pb.guests.1))] .nil fun ac S => ?_
  refine S.hq 7 [7] [] [(10, .p 0 2)] .nil fun ac S => ?_
  refine S.hq 8 [8] [] [(11, .v (slv b.outs.length pb.outs.1))] .nil fun ac S => ?_
  refine S.hq 10 [10] [] [(13, .p 0 3)] .nil fun ac S => ?_
  refine S.hq 11 [11] [] [(14, .v (I b.pend))] .nil fun ac S => ?_
  refine WD.nameW fun W hW => ?_
  refine WD.castW (l' := mkL 14 [0, 1, 3, 4, 7, 8, 10, 11]) (by kernel_rfl) ?_
  have hK82 ac w q77 F78 q74 F75 q80 F81 u N β (S : St Tryz.prog Tryz.f42.ntmps w0 NoB u N β (σ1.dl [1] [] 2 [(1, [slv b.mem.length q74.1, slv b.guests.length q77.1, slv b.outs.length q80.1, I b.pend])]) ac w) (o76 : Ow w0 NoB u N F78 b.guests q77) (o73 : Ow w0 NoB u N F75 b.mem q74) (o79 : Ow w0 NoB u N F81 b.outs q80) (d83 : Disj F78 F75) (d84 : Disj F78 F81) (d85 : Disj F75 F81) : W 0 (mkL 14 [0, 1, 2, 3, 4, 5, 6, 7, 8, 9, 10, 11, 12, 13]) ac w := by
   exact od hW ⟨rfl, q77, F78, q74, F75, q80, F81, _, _, _, S.z, o76, o73, o79, d83, d84, d85⟩
  have hK86 ac w q68 F69 q65 F66 q71 F72 u N β (S : St Tryz.prog Tryz.f42.ntmps w0 NoB u N β (σ1.dl [1] [(15, .v (GT.val (⟨b.mem, b.guests, b.outs, b.pend⟩ : TBare) (⟨q65, q68, q71⟩ : PBare)))] 2 []) ac w) (o67 : Ow w0 NoB u N F69 b.guests q68) (o64 : Ow w0 NoB u N F66 b.mem q65) (o70 : Ow w0 NoB u N F72 b.outs q71) (d87 : Disj F69 F66) (d88 : Disj F69 F72) (d89 : Disj F66 F72) (hNN : NN N0 u0 N u) (hBB : BB σ1.bx.length β0 β) : W 1 (mkL 14 [0, 1, 2, 3, 4, 5, 6, 7, 8, 9, 10, 11, 12]) ac w := by
   exact ox1 hW 13 (S.wl hW [] .nil fun _ _ _ S => hK82 _ _ q68 F69 q65 F66 q71 F72 _ _ _ S o67 o64 o70 d87 d88 d89)
  have hK90 ac w q62 F63 q8 F9 q25 F26 u N β (S : St Tryz.prog Tryz.f42.ntmps w0 NoB u N β (σ1.dl [1] [(5, .v (slv b.mem.length q8.1)), (8, .v (slv b.guests.length q25.1)), (12, .v (slv b.outs.length q62.1)), (14, .v (I b.pend))] 2 []) ac w) (o61 : Ow w0 NoB u N F63 b.outs q62) (o7 : Ow w0 NoB u N F9 b.mem q8) (o24 : Ow w0 NoB u N F26 b.guests q25) (d91 : Disj F63 F9) (d92 : Disj F63 F26) (d93 : Disj F9 F26) (hNN : NN N0 u0 N u) (hBB : BB σ1.bx.length β0 β) : W 2 (mkL 14 [0, 1, 2, 3, 4, 5, 6, 7, 8, 9, 10, 11]) ac w := by
   exact ox1 hW 12 (S.wq hW hNN hBB [] (.cons (Q_sem (s := Instr.build 28 [(0, slv b.mem.length q8.1), (1, slv b.guests.length q25.1), (2, slv b.outs.length q62.1), (3, I b.pend)].toArray) (v := .agg [slv b.mem.length q8.1, slv b.guests.length q25.1, slv b.outs.length q62.1, I b.pend].toArray) (fun w => by kernel_rfl)) .nil) fun _ _ _ S hB => hK86 _ _ q25 F26 q8 F9 q62 F63 _ _ _ S o24 o7 o61 (Disj.symm d93) (Disj.symm d92) (Disj.symm d91) hNN hB)
  have hK94 ac w q8 F9 q25 F26 q16 F17 u N β (S : St Tryz.prog Tryz.f42.ntmps w0 NoB u N β (σ1.dl [1] [(5, .v (slv b.mem.length q8.1)), (8, .v (slv b.guests.length q25.1)), (9, .v (slv 0 q16.1)), (11, .v (slv b.outs.length pb.outs.1)), (14, .v (I b.pend))] 2 []) ac w) (o7 : Ow w0 NoB u N F9 b.mem q8) (o24 : Ow w0 NoB u N F26 b.guests q25) (o15 : Ow w0 NoB u N F17 ([] : List Int) q16) (d95 : Disj F9 F26) (d96 : Disj F9 F17) (d97 : Disj F26 F17) (hNN : ∀ b, N0 b → N b ∧ u.heap[b]? = u0.heap[b]? ∧ ¬ F17 b) (hBB : BB σ1.bx.length β0 β) : W 3 (mkL 14 [0, 1, 2, 3, 4, 5, 6, 7, 8, 10, 11]) ac w := by
   refine ox1 hW 9 ?_
   have b102 : b.outs.length ≤ 4194304 := LRd.le (RBare.outs (d := b) (S.arg hb))
   refine id (S.appFlat0 (α := Int) o15 (RBare.outs (d := b) (S.arg hb)) (fun _ _ h => h) (by' := 8) (d := 12) (lx := 0) (ly := b.outs.length) rfl fun ac w N q98 F99 S up o100 d101 => ?_)
   have hb103 := fun b h => (⟨(up b (hNN b h).1 (hNN b h).2.2).1, (up b (hNN b h).1 (hNN b h).2.2).2.trans (hNN b h).2.1⟩ : _ ∧ _)
   refine WD.sc S hb103 hBB fun hC => ?_
   have d104 := d101 _ d96 o7.sub
   have d105 := d101 _ d97 o24.sub
   replace o7 := o7.upF d96 up
   replace o24 := o24.upF d97 up
   clear up d101
   exact S.wh hW [] hC fun _ S => hK90 _ _ q98 F99 q8 F9 q25 F26 _ _ _ S o100 o7 o24 (Disj.symm d104) (Disj.symm d105) d95 hb103 hBB
  have hK106 ac w q8 F9 q25 F26 u N β (S : St Tryz.prog Tryz.f42.ntmps w0 NoB u N β (σ1.dl [1] [(5, .v (slv b.mem.length q8.1)), (8, .v (slv b.guests.length q25.1)), (11, .v (slv b.outs.length pb.outs.1)), (14, .v (I b.pend))] 2 []) ac w) (o7 : Ow w0 NoB u N F9 b.mem q8) (o24 : Ow w0 NoB u N F26 b.guests q25) (d107 : Disj F9 F26) (hNN : NN N0 u0 N u) (hBB : BB σ1.bx.length β0 β) : W 4 (mkL 14 [0, 1, 2, 3, 4, 5, 7, 8, 10, 11]) ac w := by
   refine ox1 hW 6 ?_
   refine id (S.bs0 (α := Int) (d := 9) (by kernel_rfl) fun ac w N q108 F109 S up o110 d111 => ?_)
   have hb112 := fun b h => (⟨(up b (hNN b h).1).1, (up b (hNN b h).1).2.trans (hNN b h).2, d111 b (hNN b h).1⟩ : _ ∧ _ ∧ _)
   refine WD.sc S (fun b h => ⟨(hb112 b h).1, (hb112 b h).2.1⟩) hBB fun hC => ?_
   have d113 := Disj.w d111 o7.sub
   have d114 := Disj.w d111 o24.sub
   replace o7 := o7.up up
   replace o24 := o24.up up
   clear up d111
   exact S.wh hW [] hC fun _ S => hK94 _ _ q8 F9 q25 F26 q108 F109 _ _ _ S o7 o24 o110 d107 d113 d114 hb112 hBB
  have hK115 ac w q8 F9 q16 F17 u N β (S : St Tryz.prog Tryz.f42.ntmps w0 NoB u N β (σ1.dl [1] [(5, .v (slv b.mem.length q8.1)), (7, .v (slv b.guests.length pb.guests.1)), (9, .v (slv 0 q16.1)), (11, .v (slv b.outs.length pb.outs.1)), (14, .v (I b.pend))] 2 []) ac w) (o7 : Ow w0 NoB u N F9 b.mem q8) (o15 : Ow w0 NoB u N F17 ([] : List Int) q16) (d116 : Disj F9 F17) (hNN : ∀ b, N0 b → N b ∧ u.heap[b]? = u0.heap[b]? ∧ ¬ F17 b) (hBB : BB σ1.bx.length β0 β) : W 4 (mkL 14 [0, 1, 2, 3, 4, 6, 7, 8, 10, 11]) ac w := by
   refine ox1 hW 5 ?_
   refine id (S.k1 8 (c_spec_l17Guests w b.guests pb.guests (S.rd (RBare.guests (d := b) (S.arg hb)))) fun ac w N q117 F118 S up o119 d120 => ?_)
   have hb121 := fun b h => (⟨(up b (hNN b h).1).1, (up b (hNN b h).1).2.trans (hNN b h).2.1, (hNN b h).2.2⟩ : _ ∧ _ ∧ _)
   refine WD.sc S (fun b h => ⟨(hb121 b h).1, (hb121 b h).2.1⟩) hBB fun hC => ?_
   have d122 := Disj.w d120 o7.sub
   have d123 := Disj.w d120 o15.sub
   replace o7 := o7.up up
   replace o15 := o15.up up
   clear up d120
   exact S.wh hW [] hC fun _ S => hK94 _ _ q8 F9 q117 F118 q16 F17 _ _ _ S o7 o119 o15 d122 d116 (Disj.symm d123) hb121 hBB
  have hK124 ac w q8 F9 u N β (S : St Tryz.prog Tryz.f42.ntmps w0 NoB u N β (σ1.dl [1] [(5, .v (slv b.mem.length q8.1)), (7, .v (slv b.guests.length pb.guests.1)), (11, .v (slv b.outs.length pb.outs.1)), (14, .v (I b.pend))] 2 []) ac w) (o7 : Ow w0 NoB u N F9 b.mem q8) (hNN : NN N0 u0 N u) (hBB : BB σ1.bx.length β0 β) : W 5 (mkL 14 [0, 1, 2, 3, 4, 7, 8, 10, 11]) ac w := by
   refine ox2 hW 5 6 ?_ ?_
   ·refine id (S.k1 8 (c_spec_l17Guests w b.guests pb.guests (S.rd (RBare.guests (d := b) (S.arg hb)))) fun ac w N q125 F126 S up o127 d128 => ?_)
    have hb129 := fun b h => (⟨(up b (hNN b h).1).1, (up b (hNN b h).1).2.trans (hNN b h).2⟩ : _ ∧ _)
    refine WD.sc S hb129 hBB fun hC => ?_
    have d130 := Disj.w d128 o7.sub
    replace o7 := o7.up up
    clear up d128
    exact S.wh hW [] hC fun _ S => hK106 _ _ q8 F9 q125 F126 _ _ _ S o7 o127 d130 hb129 hBB
   ·refine id (S.bs0 (α := Int) (d := 9) (by kernel_rfl) fun ac w N q131 F132 S up o133 d134 => ?_)
    have hb135 := fun b h => (⟨(up b (hNN b h).1).1, (up b (hNN b h).1).2.trans (hNN b h).2, d134 b (hNN b h).1⟩ : _ ∧ _ ∧ _)
    refine WD.sc S (fun b h => ⟨(hb135 b h).1, (hb135 b h).2.1⟩) hBB fun hC => ?_
    have d136 := Disj.w d134 o7.sub
    replace o7 := o7.up up
    clear up d134
    exact S.wh hW [] hC fun _ S => hK115 _ _ q8 F9 q131 F132 _ _ _ S o7 o133 d136 hb135 hBB
  have hK137 ac w q16 F17 u N β (S : St Tryz.prog Tryz.f42.ntmps w0 NoB u N β (σ1.dl [1] [(4, .v (slv b.mem.length pb.mem.1)), (7, .v (slv b.guests.length pb.guests.1)), (9, .v (slv 0 q16.1)), (11, .v (slv b.outs.length pb.outs.1)), (14, .v (I b.pend))] 2 []) ac w) (o15 : Ow w0 NoB u N F17 ([] : List Int) q16) (hNN : ∀ b, N0 b → N b ∧ u.heap[b]? = u0.heap[b]? ∧ ¬ F17 b) (hBB : BB σ1.bx.length β0 β) : W 5 (mkL 14 [0, 1, 3, 4, 6, 7, 8, 10, 11]) ac w := by
   refine ox1 hW 2 ?_
   refine id (S.k1 5 (c_spec_l04Copy w b.mem pb.mem (S.rd (RBare.mem (d := b) (S.arg hb)))) fun ac w N q138 F139 S up o140 d141 => ?_)
   have hb142 := fun b h => (⟨(up b (hNN b h).1).1, (up b (hNN b h).1).2.trans (hNN b h).2.1, (hNN b h).2.2⟩ : _ ∧ _ ∧ _)
   refine WD.sc S (fun b h => ⟨(hb142 b h).1, (hb142 b h).2.1⟩) hBB fun hC => ?_
   have d143 := Disj.w d141 o15.sub
   replace o15 := o15.up up
   clear up d141
   exact S.wh hW [] hC fun _ S => hK115 _ _ q138 F139 q16 F17 _ _ _ S o140 o15 (Disj.symm d143) hb142 hBB
  have hNN : NN N0 u0 N0 u0 := fun b h => ⟨h, rfl⟩
  have hBB : BB σ1.bx.length β0 β0 := fun _ _ => rfl
  refine ox2 hW 2 6 ?_ ?_
  ·refine id (S.k1 5 (c_spec_l04Copy w b.mem pb.mem (S.rd (RBare.mem (d := b) (S.arg hb)))) fun ac w N q144 F145 S up o146 d147 => ?_)
   have hb148 := fun b h => (⟨(up b (hNN b h).1).1, (up b (hNN b h).1).2.trans (hNN b h).2⟩ : _ ∧ _)
   refine WD.sc S hb148 hBB fun hC => ?_
   clear up d147
   exact S.wh hW [] hC fun _ S => hK124 _ _ q144 F145 _ _ _ S o146 hb148 hBB
  ·refine id (S.bs0 (α := Int) (d := 9) (by kernel_rfl) fun ac w N q149 F150 S up o151 d152 => ?_)
   have hb153 := fun b h => (⟨(up b (hNN b h).1).1, (up b (hNN b h).1).2.trans (hNN b h).2, d152 b (hNN b h).1⟩ : _ ∧ _ ∧ _)
   refine WD.sc S (fun b h => ⟨(hb153 b h).1, (hb153 b h).2.1⟩) hBB fun hC => ?_
   clear up d152
   exact S.wh hW [] hC fun _ S => hK137 _ _ q149 F150 _ _ _ S o151 hb153 hBB
 clear S
 rintro ac w ⟨q77, F78, q74, F75, q80, F81, u, N, β, S, o76, o73, o79, d154, d155, d156⟩
 refine S.ex fun S => ?_
 refine S.gr 2 .nil [GT.val (⟨b.mem, b.guests, b.outs, b.pend⟩ : TBare) (⟨q74, q77, q80⟩ : PBare)] fun ac w β S => ?_
 have o157 := ow_Bare (x := (⟨b.mem, b.guests, b.outs, b.pend⟩ : TBare)) (p := (⟨q74, q77, q80⟩ : PBare)) o73 o76 o79 (Disj.symm d154) d156 d155 (RBare.pend (d := b) (S.arg hb))
 exact ret1_of S (show b = (⟨b.mem, b.guests, b.outs, b.pend⟩ : TBare) by clear S; (first | rfl | simp)) rfl o157

theorem k0_spec_l01In {p : Prop} (h : p := by clear S; first | rfl | (simp [f_within, *]; done) | (simp [f_within, *]; omega) | (simp_all [f_within]; done) | (simp_all [f_within]; omega)) : p := h
theorem c_spec_l01In (w0 : World) (x : Int) (a : Int) (b : Int) : Calls Tryz.prog 44 [I x, I a, I b].toArray w0 (fun e w' => e = .returned (B (f_within x a b)) ∧ Chg NoB w0 w') := by
 refine Calls.run NoB Tryz.func44 ?_
 intro ac β S
 refine S.gd 11 .nil (decide (x ≥ a)) (fun ac w β h1 g2 S => ?_) (fun ac w β h1 g2 S => ?_)
 ·exact S.gf 8 .nil [B (decide (x ≤ b))] (retB k0_spec_l01In)
 exact S.gf 8 .nil [B false] (retB k0_spec_l01In)

theorem k0_spec_InsOk {p : Prop} (h : p := by clear S; first | rfl | (simp [f_insOk, *]; done) | (simp [f_insOk, *]; omega) | (simp_all [f_insOk]; done) | (simp_all [f_insOk]; omega)) : p := h
theorem c_spec_InsOk (w0 : World) (i : TIns) : Calls Tryz.prog 222 [GT.val i ()].toArray w0 (fun e w' => e = .returned (B (f_insOk i)) ∧ Chg NoB w0 w') := by
 refine Calls.run NoB Tryz.func222 ?_
 intro ac β S
 refine S.gd 21 .nil (i.opc == 1) (fun ac w β h1 g2 S => ?_) (fun ac w β h1 g2 S => ?_)
 ·exact S.gf 13 (.cons (Q_call fun w hw => c_spec_l01In w i.x 0 99) .nil) [B (f_within i.x 0 99)] (retB k0_spec_InsOk)
 refine S.gd 7 .nil (i.opc == 2) (fun ac w β h3 g4 S => ?_) (fun ac w β h3 g4 S => ?_)
 ·exact S.gf 13 (.cons (Q_call fun w hw => c_spec_l01In w i.x 0 99) .nil) [B (f_within i.x 0 99)] (retB k0_spec_InsOk)
 refine S.gd 7 .nil (i.opc == 5) (fun ac w β h5 g6 S => ?_) (fun ac w β h5 g6 S => ?_)
 ·exact S.gf 13 (.cons (Q_call fun w hw => c_spec_l01In w i.x 0 99) .nil) [B (f_within i.x 0 99)] (retB k0_spec_InsOk)
 refine S.gd 6 .nil (i.opc == 6) (fun ac w β h7 g8 S => ?_) (fun ac w β h7 g8 S => ?_)
 ·exact S.gf 10 (.cons (Q_call fun w hw => c_spec_l01In w i.x 0 99) .nil) [B (f_within i.x 0 99)] (retB k0_spec_InsOk)
 refine S.gd 8 .nil (i.opc == 3) (fun ac w β h9 g10 S => ?_) (fun ac w β h9 g10 S => ?_)
 ·exact S.gf 13 (.cons (Q_call fun w hw => c_spec_l01In w i.x 0 15) .nil) [B (f_within i.x 0 15)] (retB k0_spec_InsOk)
 refine S.gd 6 .nil (i.opc == 4) (fun ac w β h11 g12 S => ?_) (fun ac w β h11 g12 S => ?_)
 ·exact S.gf 10 (.cons (Q_call fun w hw => c_spec_l01In w i.x 0 15) .nil) [B (f_within i.x 0 15)] (retB k0_spec_InsOk)
 refine S.gd 7 .nil (i.opc == 7) (fun ac w β h13 g14 S => ?_) (fun ac w β h13 g14 S => ?_)
 ·exact S.gf 10 .nil [B (i.x == 0)] (retB k0_spec_InsOk)
 refine S.gd 7 .nil (i.opc == 8) (fun ac w β h15 g16 S => ?_) (fun ac w β h15 g16 S => ?_)
 ·exact S.gf 10 (.cons (Q_call fun w hw => c_spec_l01In w i.x 0 11) .nil) [B (f_within i.x 0 11)] (retB k0_spec_InsOk)
 exact S.gf 10 .nil [B false] (retB k0_spec_InsOk)

theorem c_spec_ProgOk (w0 : World) (p : List TIns) (pp : LP TIns) (hp : RD w0 p pp) : Calls Tryz.prog 214 [slv p.length pp.1].toArray w0 (fun e w' => e = .returned (B (f_progOk p)) ∧ Chg NoB w0 w') := by
 refine Calls.run NoB Tryz.func214 ?_
 intro ac β S
 have hlep : p.length ≤ 4194304 := LRd.le hp
 refine S.go 12 .nil fun ac w β S => ?_
 refine lp (fun mm ac w => ∃ (k : Nat)  (u : _) (N : _) (β : _), mm = p.length - k ∧ (k ≤ p.length) ∧ ((p.take k).all f_insOk = true) ∧ St Tryz.prog Tryz.f214.ntmps w0 NoB u N β ⟨[(0, .v (slv p.length pp.1)), (3, .v (I (k : Int)))], []⟩ ac w) _ ⟨0, _, _, _, rfl, o0, (by simp), S.z⟩ ?_
 clear S
 rintro f1 mm hf2 ac w ⟨k, u, N, β, rfl, hk, he, S⟩
 refine S.rs fun S => ?_
 refine S.gd 9 .nil (decide ((k : Int) < (p.length : Int))) (fun ac w β h3 g4 S => ?_) (fun ac w β h3 g4 S => ?_)
 ·refine S.gb 15 (.cons (qn (S.arg hp) k Tryz.underlying41) (.cons (qs (S.arg hp) 40 k) (.cons (Q_call fun w hw => c_spec_InsOk w (el p k)) .nil))) (!(f_insOk (el p k))) (fun ac w β h5 S => ?_) (fun ac w β h5 S => ?_)
  ·have h6 := not_t h5
   exact S.gf 7 .nil [B false] (retB (by clear S; (first | (unfold f_progOk; rw [all_bad (k := k) (by omega) (by first | assumption | simp_all)]; simp; done) | (unfold f_progOk; rw [all_end (by omega) he]; simp; done) | (unfold f_progOk; rw [all_end (by omega) he]; simp [*]; done) | (unfold f_progOk; rw [all_end (by omega) he]; simp; omega))))
  have h7 := not_f h5
  refine S.ge 9 (.cons (qp (k : Int) 1) .nil) f1 fun ac w β S => hf2.of (p.length - (k + 1)) _ _ (by omega) ⟨k + 1, _, _, _, rfl, ?_, ?_, S.z⟩
  ·exact oz
  ·clear S; exact all_step (by omega) he (by first | assumption | (simp only [f_slotOk, f_within] at *; simp_all; done) | (simp_all; done) | (simp_all; omega))
 exact S.gf 15 (.cons (Q_call fun w hw => c_spec_l01In w (p.length : Int) 1 12) .nil) [B (f_within (p.length : Int) 1 12)] (retB (by clear S; (first | (unfold f_progOk; rw [all_end (by omega) he]; simp; done) | (unfold f_progOk; rw [all_end (by omega) he]; simp [*]; done) | (unfold f_progOk; rw [all_end (by omega) he]; simp; omega) | (unfold f_progOk; rw [all_bad (k := k) (by omega) (by first | assumption | simp_all)]; simp; done))))

theorem k0_spec_SlotOk {p : Prop} (h : p := by clear S; first | rfl | (simp [f_slotOk, *]; done) | (simp [f_slotOk, *]; omega) | (simp_all [f_slotOk]; done) | (simp_all [f_slotOk]; omega)) : p := h
theorem c_spec_SlotOk (w0 : World) (s : TSlot) (pages : Int) (pre0 : 0 ≤ pages) (pre1 : pages ≤ 1000) : Calls Tryz.prog 223 [GT.val s (), I pages].toArray w0 (fun e w' => e = .returned (B (f_slotOk s pages)) ∧ Chg NoB w0 w') := by
 refine Calls.run NoB Tryz.func223 ?_
 intro ac β S
 refine S.go 7 .nil fun ac w β S => ?_
 refine drw ?_
 rcases Bool.eq_false_or_eq_true (decide (s = (⟨-1, 0⟩ : TSlot))) with h1 | h1
 ·refine S.drawnO [(3, true)] (keep := [4]) (m := 0) (σ' := ⟨[(4, .v (B true))], []⟩) (.cons (Q_call fun w hw => c_spec_NoSlot w ) (.cons (Eq_eq_Slot (t := 44) s (⟨-1, 0⟩ : TSlot) (by kernel_rfl)) .nil)) rfl (by kernel_rfl) (by kernel_rfl) (.cons h1 .nil) fun ac w S => ?_
  refine S.ex fun S => ?_
  exact S.gf 2 .nil [B true] (retB k0_spec_SlotOk)
 ·rcases Bool.eq_false_or_eq_true (f_within s.page 0 (pages - 1)) with h2 | h2
  ·have g3 := within_t h2
   rcases Bool.eq_false_or_eq_true (decide (pages > 0)) with h4 | h4
   ·have g5 := of_decide_eq_true h4
    refine S.drawnO [(3, false), (9, true), (13, true)] (keep := [4]) (m := 0) (σ' := ⟨[(4, .v (B (f_within s.rights 1 3)))], []⟩) (.cons (Q_call fun w hw => c_spec_NoSlot w ) (.cons (Eq_eq_Slot (t := 44) s (⟨-1, 0⟩ : TSlot) (by kernel_rfl)) (.cons (qm pages 1) (.cons (Q_call fun w hw => c_spec_l01In w s.page 0 (pages - 1)) (.cons (Q_call fun w hw => c_spec_l01In w s.rights 1 3) .nil))))) rfl (by kernel_rfl) (by kernel_rfl) (.cons h1 (.cons h2 (.cons h4 .nil))) fun ac w S => ?_
    refine S.ex fun S => ?_
    exact S.gf 2 .nil [B (f_within s.rights 1 3)] (retB k0_spec_SlotOk)
   ·have g6 := of_decide_eq_false h4
    refine S.drawnO [(3, false), (9, true), (13, false)] (keep := [4]) (m := 0) (σ' := ⟨[(4, .v (B false))], []⟩) (.cons (Q_call fun w hw => c_spec_NoSlot w ) (.cons (Eq_eq_Slot (t := 44) s (⟨-1, 0⟩ : TSlot) (by kernel_rfl)) (.cons (qm pages 1) (.cons (Q_call fun w hw => c_spec_l01In w s.page 0 (pages - 1)) .nil)))) rfl (by kernel_rfl) (by kernel_rfl) (.cons h1 (.cons h2 (.cons h4 .nil))) fun ac w S => ?_
    refine S.ex fun S => ?_
    exact S.gf 2 .nil [B false] (retB k0_spec_SlotOk)
  ·have g7 := within_f h2
   refine S.drawnO [(3, false), (9, false)] (keep := [4]) (m := 0) (σ' := ⟨[(4, .v (B false))], []⟩) (.cons (Q_call fun w hw => c_spec_NoSlot w ) (.cons (Eq_eq_Slot (t := 44) s (⟨-1, 0⟩ : TSlot) (by kernel_rfl)) (.cons (qm pages 1) (.cons (Q_call fun w hw => c_spec_l01In w s.page 0 (pages - 1)) .nil)))) rfl (by kernel_rfl) (by kernel_rfl) (.cons h1 (.cons h2 .nil)) fun ac w S => ?_
   refine S.ex fun S => ?_
   exact S.gf 2 .nil [B false] (retB k0_spec_SlotOk)

theorem c_spec_TableOk (w0 : World) (t : List TSlot) (pt : LP TSlot) (ht : RD w0 t pt) (size : Int) (pages : Int) (pre0 : 0 ≤ pages) (pre1 : pages ≤ 1000) : Calls Tryz.prog 215 [slv t.length pt.1, I size, I pages].toArray w0 (fun e w' => e = .returned (B (f_tableOk t size pages)) ∧ Chg NoB w0 w') := by
 refine Calls.run NoB Tryz.func215 ?_
 intro ac β S
 have hlet : t.length ≤ 4194304 := LRd.le ht
 refine S.go 12 .nil fun ac w β S => ?_
 refine lp (fun mm ac w => ∃ (k : Nat)  (u : _) (N : _) (β : _), mm = t.length - k ∧ (k ≤ t.length) ∧ ((t.take k).all (fun s => f_slotOk s pages) = true) ∧ St Tryz.prog Tryz.f215.ntmps w0 NoB u N β ⟨[(0, .v (slv t.length pt.1)), (1, .v (I size)), (2, .v (I pages)), (7, .v (I (k : Int)))], []⟩ ac w) _ ⟨0, _, _, _, rfl, o0, (by simp), S.z⟩ ?_
 clear S
 rintro f1 mm hf2 ac w ⟨k, u, N, β, rfl, hk, he, S⟩
 refine S.rs fun S => ?_
 refine S.gd 9 .nil (decide ((k : Int) < (t.length : Int))) (fun ac w β h3 g4 S => ?_) (fun ac w β h3 g4 S => ?_)
 ·refine S.gb 16 (.cons (qn (S.arg ht) k Tryz.underlying45) (.cons (qs (S.arg ht) 44 k) (.cons (Q_call fun w hw => c_spec_SlotOk w (el t k) pages (by omega) (by omega)) .nil))) (!(f_slotOk (el t k) pages)) (fun ac w β h5 S => ?_) (fun ac w β h5 S => ?_)
  ·have h6 := not_t h5
   exact S.gf 7 .nil [B false] (retB (by clear S; (first | (unfold f_tableOk; rw [all_bad (k := k) (by omega) (by first | assumption | simp_all)]; simp; done) | (unfold f_tableOk; rw [all_end (by omega) he]; simp; done) | (unfold f_tableOk; rw [all_end (by omega) he]; simp [*]; done) | (unfold f_tableOk; rw [all_end (by omega) he]; simp; omega))))
  have h7 := not_f h5
  refine S.ge 9 (.cons (qp (k : Int) 1) .nil) f1 fun ac w β S => hf2.of (t.length - (k + 1)) _ _ (by omega) ⟨k + 1, _, _, _, rfl, ?_, ?_, S.z⟩
  ·exact oz
  ·clear S; exact all_step (by omega) he (by first | assumption | (simp only [f_slotOk, f_within] at *; simp_all; done) | (simp_all; done) | (simp_all; omega))
 exact S.gf 16 .nil [B ((t.length : Int) == size)] (retB (by clear S; (first | (unfold f_tableOk; rw [all_end (by omega) he]; simp; done) | (unfold f_tableOk; rw [all_end (by omega) he]; simp [*]; done) | (unfold f_tableOk; rw [all_end (by omega) he]; simp; omega) | (unfold f_tableOk; rw [all_bad (k := k) (by omega) (by first | assumption | simp_all)]; simp; done))))

theorem c_spec_CtlFaults (w0 : World) (c : TCtl) : Calls Tryz.prog 224 [GT.val c ()].toArray w0 (Ret1 NoB w0 (f_ctlFaults c : List Int)) := by
 refine Calls.run NoB Tryz.func224 ?_
 intro ac β S
 refine S.go 8 .nil fun ac w β S => S.B0 (α := Int) (d := 4) fun ac w N q1 F2 S up o3 d4 => ?_
 clear up d4
 refine S.go 12 (.cons (Q_call fun w hw => c_spec_l01In w c.traps 0 3) .nil) fun ac w β S => ?_
 refine cutC S (fun ac w => ∃ (acc1 : List Int) (q5 : _) (F6 : _) (u : _) (N : _) (β : _), (acc1 = (if f_within c.traps 0 3 then [] else [1])) ∧ St Tryz.prog Tryz.f224.ntmps w0 NoB u N β ⟨[(1, .p 0 0), (3, .v (slv acc1.length q5.1))], [GT.cells c ()]⟩ ac w ∧ Ow w0 NoB u N F6 acc1 q5) ?_ ?_
 ·clear S; intro S
  refine S.gb 0 .nil (!(f_within c.traps 0 3)) (fun ac w β h8 S => ?_) (fun ac w β h8 S => ?_)
  ·have h9 := not_t h8
   have g10 := within_f h9
   refine S.go 3 .nil fun ac w β S => S.B1 (α := Int) (x := 1) (p := ()) (F := NoB) (show In64 1 from ⟨by decide, by decide⟩) (fun b h => False.elim h) (fun b h => False.elim h) (d := 10) fun ac w N q11 F12 S up o13 d14 => ?_
   replace o3 := o3.up up
   clear up d14
   refine S.AF0 (α := Int) o3 o13.rn (fun _ _ h => h) (by' := 8) (d := 11) (lx := 0) (ly := 1) rfl fun ac w N q16 F17 S up o18 d19 => ?_
   clear up d19
   exact S.gn 2 .nil fun ac w β S => ⟨rfl, ([1]), q16, F17, _, _, _, (by clear S; (first | (rw [if_pos (by assumption)]; simp [*]; done) | (rw [if_neg (by simp [*])]; simp [*]; done) | ((repeat' split) <;> first | rfl | (simp; done) | (exfalso; simp_all; done) | (simp_all; done)))), S.z, o18⟩
  have h21 := not_f h8
  have g22 := within_t h21
  exact S.gn 2 .nil fun ac w β S => ⟨rfl, ([] : List Int), q1, F2, _, _, _, (by clear S; (first | (rw [if_pos (by assumption)]; simp [*]; done) | (rw [if_neg (by simp [*])]; simp [*]; done) | ((repeat' split) <;> first | rfl | (simp; done) | (exfalso; simp_all; done) | (simp_all; done)))), S.z, o3⟩
 clear S o3
 rintro ac w ⟨acc1, q5, F6, u, N, β, ha1, S, o7⟩
 have hl1 : acc1.length ≤ 1 := by rw [ha1]; (repeat' split) <;> simp
 refine S.ex fun S => ?_
 refine S.go 10 (.cons (Q_call fun w hw => c_spec_l01In w c.post 0 255) .nil) fun ac w β S => ?_
 refine cutC S (fun ac w => ∃ (acc2 : List Int) (q23 : _) (F24 : _) (u : _) (N : _) (β : _), (acc2 = (if f_within c.traps 0 3 then [] else [1]) ++ (if f_within c.post 0 255 then [] else [2])) ∧ St Tryz.prog Tryz.f224.ntmps w0 NoB u N β ⟨[(1, .p 0 0), (3, .v (slv acc2.length q23.1))], [GT.cells c ()]⟩ ac w ∧ Ow w0 NoB u N F24 acc2 q23) ?_ ?_
 ·clear S; intro S
  refine S.gb 0 .nil (!(f_within c.post 0 255)) (fun ac w β h26 S => ?_) (fun ac w β h26 S => ?_)
  ·have h27 := not_t h26
   have g28 := within_f h27
   refine S.go 3 .nil fun ac w β S => S.B1 (α := Int) (x := 2) (p := ()) (F := NoB) (show In64 2 from ⟨by decide, by decide⟩) (fun b h => False.elim h) (fun b h => False.elim h) (d := 17) fun ac w N q29 F30 S up o31 d32 => ?_
   replace o7 := o7.up up
   clear up d32
   refine S.AF (α := Int) o7 o31.rn (fun _ _ h => h) (by' := 8) (d := 18) (lx := acc1.length) (ly := 1) rfl rfl (show _ ≤ 4194304 by simp only [List.length_append, List.length_cons, List.length_nil]; omega) fun ac w N q34 F35 S up o36 d37 => ?_
   clear up d37
   exact S.gn 2 .nil fun ac w β S => ⟨rfl, (acc1 ++ [2]), q34, F35, _, _, _, (by clear S; (first | (rw [if_pos (by assumption)]; simp [*]; done) | (rw [if_neg (by simp [*])]; simp [*]; done) | (rw [ha1]; (repeat' split) <;> first | rfl | (simp; done) | (exfalso; simp_all; done) | (simp_all; done)))), S.z, o36⟩
  have h39 := not_f h26
  have g40 := within_t h39
  exact S.gn 2 .nil fun ac w β S => ⟨rfl, acc1, q5, F6, _, _, _, (by clear S; (first | (rw [if_pos (by assumption)]; simp [*]; done) | (rw [if_neg (by simp [*])]; simp [*]; done) | (rw [ha1]; (repeat' split) <;> first | rfl | (simp; done) | (exfalso; simp_all; done) | (simp_all; done)))), S.z, o7⟩
 clear S o7
 rintro ac w ⟨acc2, q23, F24, u, N, β, ha2, S, o25⟩
 have hl2 : acc2.length ≤ 2 := by rw [ha2]; (repeat' split) <;> simp
 refine S.ex fun S => ?_
 refine S.gd 8 .nil (c.post != 0) (fun ac w β h41 g42 S => ?_) (fun ac w β h41 g42 S => ?_)
 ·refine S.go 6 .nil fun ac w β S => ?_
  refine cutC S (fun ac w => ∃ (acc3 : List Int) (q43 : _) (F44 : _) (u : _) (N : _) (β : _), (acc3 = (if f_within c.traps 0 3 then [] else [1]) ++ (if f_within c.post 0 255 then [] else [2]) ++ (if c.post ≠ 0 ∧ c.opn = false then [3] else [])) ∧ St Tryz.prog Tryz.f224.ntmps w0 NoB u N β ⟨[(1, .p 0 0), (3, .v (slv acc3.length q43.1))], [GT.cells c ()]⟩ ac w ∧ Ow w0 NoB u N F44 acc3 q43) ?_ ?_
  ·clear S; intro S
   refine S.gb 0 .nil (!c.opn) (fun ac w β h46 S => ?_) (fun ac w β h46 S => ?_)
   ·have h47 := not_t h46
    refine S.go 3 .nil fun ac w β S => S.B1 (α := Int) (x := 3) (p := ()) (F := NoB) (show In64 3 from ⟨by decide, by decide⟩) (fun b h => False.elim h) (fun b h => False.elim h) (d := 28) fun ac w N q48 F49 S up o50 d51 => ?_
    replace o25 := o25.up up
    clear up d51
    refine S.AF (α := Int) o25 o50.rn (fun _ _ h => h) (by' := 8) (d := 29) (lx := acc2.length) (ly := 1) rfl rfl (show _ ≤ 4194304 by simp only [List.length_append, List.length_cons, List.length_nil]; omega) fun ac w N q53 F54 S up o55 d56 => ?_
    clear up d56
    exact S.gn 2 .nil fun ac w β S => ⟨rfl, (acc2 ++ [3]), q53, F54, _, _, _, (by clear S; (first | (rw [if_pos (by assumption)]; simp [*]; done) | (rw [if_neg (by simp [*])]; simp [*]; done) | (rw [ha2]; (repeat' split) <;> first | rfl | (simp; done) | (exfalso; simp_all; done) | (simp_all; done)))), S.z, o55⟩
   have h58 := not_f h46
   exact S.gn 2 .nil fun ac w β S => ⟨rfl, acc2, q23, F24, _, _, _, (by clear S; (first | (rw [if_pos (by assumption)]; simp [*]; done) | (rw [if_neg (by simp [*])]; simp [*]; done) | (rw [ha2]; (repeat' split) <;> first | rfl | (simp; done) | (exfalso; simp_all; done) | (simp_all; done)))), S.z, o25⟩
  clear S o25
  rintro ac w ⟨acc3, q43, F44, u, N, β, ha3, S, o45⟩
  have hl3 : acc3.length ≤ 3 := by rw [ha3]; (repeat' split) <;> simp
  refine S.ex fun S => ?_
  refine S.gd 8 .nil (c.traps == 2) (fun ac w β h59 g60 S => ?_) (fun ac w β h59 g60 S => ?_)
  ·refine S.go 6 .nil fun ac w β S => ?_
   refine cutC S (fun ac w => ∃ (acc4 : List Int) (q61 : _) (F62 : _) (u : _) (N : _) (β : _), (acc4 = (if f_within c.traps 0 3 then [] else [1]) ++ (if f_within c.post 0 255 then [] else [2]) ++ (if c.post ≠ 0 ∧ c.opn = false then [3] else []) ++ (if c.traps = 2 ∧ c.post ≠ 0 then [4] else [])) ∧ St Tryz.prog Tryz.f224.ntmps w0 NoB u N β ⟨[(3, .v (slv acc4.length q61.1))], []⟩ ac w ∧ Ow w0 NoB u N F62 acc4 q61) ?_ ?_
   ·clear S; intro S
    refine S.lt 37 h41 fun S => ?_
    refine S.go 3 .nil fun ac w β S => S.B1 (α := Int) (x := 4) (p := ()) (F := NoB) (show In64 4 from ⟨by decide, by decide⟩) (fun b h => False.elim h) (fun b h => False.elim h) (d := 39) fun ac w N q64 F65 S up o66 d67 => ?_
    replace o45 := o45.up up
    clear up d67
    refine S.AF (α := Int) o45 o66.rn (fun _ _ h => h) (by' := 8) (d := 40) (lx := acc3.length) (ly := 1) rfl rfl (show _ ≤ 4194304 by simp only [List.length_append, List.length_cons, List.length_nil]; omega) fun ac w N q69 F70 S up o71 d72 => ?_
    clear up d72
    exact S.gn 2 .nil fun ac w β S => ⟨rfl, (acc3 ++ [4]), q69, F70, _, _, _, (by clear S; (first | (rw [if_pos (by assumption)]; simp [*]; done) | (rw [if_neg (by simp [*])]; simp [*]; done) | (rw [ha3]; (repeat' split) <;> first | rfl | (simp; done) | (exfalso; simp_all; done) | (simp_all; done)))), S.z, o71⟩
   clear S o45
   rintro ac w ⟨acc4, q61, F62, u, N, β, ha4, S, o63⟩
   have hl4 : acc4.length ≤ 4 := by rw [ha4]; (repeat' split) <;> simp
   refine S.ex fun S => ?_
   refine S.gr 8 .nil [slv acc4.length q61.1] fun ac w β S => ?_
   exact ret1_of S (show f_ctlFaults c = acc4 by clear S; (rw [ha4]; rfl)) rfl o63
  refine S.go 6 .nil fun ac w β S => ?_
  refine cutC S (fun ac w => ∃ (acc4 : List Int) (q74 : _) (F75 : _) (u : _) (N : _) (β : _), (acc4 = (if f_within c.traps 0 3 then [] else [1]) ++ (if f_within c.post 0 255 then [] else [2]) ++ (if c.post ≠ 0 ∧ c.opn = false then [3] else []) ++ (if c.traps = 2 ∧ c.post ≠ 0 then [4] else [])) ∧ St Tryz.prog Tryz.f224.ntmps w0 NoB u N β ⟨[(3, .v (slv acc4.length q74.1))], []⟩ ac w ∧ Ow w0 NoB u N F75 acc4 q74) ?_ ?_
  ·clear S; intro S
   exact S.gn 2 .nil fun ac w β S => ⟨rfl, acc3, q43, F44, _, _, _, (by clear S; (first | (rw [if_pos (by assumption)]; simp [*]; done) | (rw [if_neg (by simp [*])]; simp [*]; done) | (rw [ha3]; (repeat' split) <;> first | rfl | (simp; done) | (exfalso; simp_all; done) | (simp_all; done)))), S.z, o45⟩
  clear S o45
  rintro ac w ⟨acc4, q74, F75, u, N, β, ha4, S, o76⟩
  have hl4 : acc4.length ≤ 4 := by rw [ha4]; (repeat' split) <;> simp
  refine S.ex fun S => ?_
  refine S.gr 8 .nil [slv acc4.length q74.1] fun ac w β S => ?_
  exact ret1_of S (show f_ctlFaults c = acc4 by clear S; (rw [ha4]; rfl)) rfl o76
 refine S.go 6 .nil fun ac w β S => ?_
 refine cutC S (fun ac w => ∃ (acc3 : List Int) (q77 : _) (F78 : _) (u : _) (N : _) (β : _), (acc3 = (if f_within c.traps 0 3 then [] else [1]) ++ (if f_within c.post 0 255 then [] else [2]) ++ (if c.post ≠ 0 ∧ c.opn = false then [3] else [])) ∧ St Tryz.prog Tryz.f224.ntmps w0 NoB u N β ⟨[(1, .p 0 0), (3, .v (slv acc3.length q77.1))], [GT.cells c ()]⟩ ac w ∧ Ow w0 NoB u N F78 acc3 q77) ?_ ?_
 ·clear S; intro S
  exact S.gn 2 .nil fun ac w β S => ⟨rfl, acc2, q23, F24, _, _, _, (by clear S; (first | (rw [if_pos (by assumption)]; simp [*]; done) | (rw [if_neg (by simp [*])]; simp [*]; done) | (rw [ha2]; (repeat' split) <;> first | rfl | (simp; done) | (exfalso; simp_all; done) | (simp_all; done)))), S.z, o25⟩
 clear S o25
 rintro ac w ⟨acc3, q77, F78, u, N, β, ha3, S, o79⟩
 have hl3 : acc3.length ≤ 3 := by rw [ha3]; (repeat' split) <;> simp
 refine S.ex fun S => ?_
 refine S.gd 8 .nil (c.traps == 2) (fun ac w β h80 g81 S => ?_) (fun ac w β h80 g81 S => ?_)
 ·refine S.go 6 .nil fun ac w β S => ?_
  refine cutC S (fun ac w => ∃ (acc4 : List Int) (q82 : _) (F83 : _) (u : _) (N : _) (β : _), (acc4 = (if f_within c.traps 0 3 then [] else [1]) ++ (if f_within c.post 0 255 then [] else [2]) ++ (if c.post ≠ 0 ∧ c.opn = false then [3] else []) ++ (if c.traps = 2 ∧ c.post ≠ 0 then [4] else [])) ∧ St Tryz.prog Tryz.f224.ntmps w0 NoB u N β ⟨[(3, .v (slv acc4.length q82.1))], []⟩ ac w ∧ Ow w0 NoB u N F83 acc4 q82) ?_ ?_
  ·clear S; intro S
   refine S.lt 37 h41 fun S => ?_
   exact S.gn 2 .nil fun ac w β S => ⟨rfl, acc3, q77, F78, _, _, _, (by clear S; (first | (rw [if_pos (by assumption)]; simp [*]; done) | (rw [if_neg (by simp [*])]; simp [*]; done) | (rw [ha3]; (repeat' split) <;> first | rfl | (simp; done) | (exfalso; simp_all; done) | (simp_all; done)))), S.z, o79⟩
  clear S o79
  rintro ac w ⟨acc4, q82, F83, u, N, β, ha4, S, o84⟩
  have hl4 : acc4.length ≤ 4 := by rw [ha4]; (repeat' split) <;> simp
  refine S.ex fun S => ?_
  refine S.gr 8 .nil [slv acc4.length q82.1] fun ac w β S => ?_
  exact ret1_of S (show f_ctlFaults c = acc4 by clear S; (rw [ha4]; rfl)) rfl o84
 refine S.go 6 .nil fun ac w β S => ?_
 refine cutC S (fun ac w => ∃ (acc4 : List Int) (q85 : _) (F86 : _) (u : _) (N : _) (β : _), (acc4 = (if f_within c.traps 0 3 then [] else [1]) ++ (if f_within c.post 0 255 then [] else [2]) ++ (if c.post ≠ 0 ∧ c.opn = false then [3] else []) ++ (if c.traps = 2 ∧ c.post ≠ 0 then [4] else [])) ∧ St Tryz.prog Tryz.f224.ntmps w0 NoB u N β ⟨[(3, .v (slv acc4.length q85.1))], []⟩ ac w ∧ Ow w0 NoB u N F86 acc4 q85) ?_ ?_
 ·clear S; intro S
  exact S.gn 2 .nil fun ac w β S => ⟨rfl, acc3, q77, F78, _, _, _, (by clear S; (first | (rw [if_pos (by assumption)]; simp [*]; done) | (rw [if_neg (by simp [*])]; simp [*]; done) | (rw [ha3]; (repeat' split) <;> first | rfl | (simp; done) | (exfalso; simp_all; done) | (simp_all; done)))), S.z, o79⟩
 clear S o79
 rintro ac w ⟨acc4, q85, F86, u, N, β, ha4, S, o87⟩
 have hl4 : acc4.length ≤ 4 := by rw [ha4]; (repeat' split) <;> simp
 refine S.ex fun S => ?_
 refine S.gr 8 .nil [slv acc4.length q85.1] fun ac w β S => ?_
 exact ret1_of S (show f_ctlFaults c = acc4 by clear S; (rw [ha4]; rfl)) rfl o87

theorem c_spec_CtlOk (w0 : World) (c : TCtl) : Calls Tryz.prog 216 [GT.val c ()].toArray w0 (fun e w' => e = .returned (B (f_ctlOk c)) ∧ Chg NoB w0 w') := by
 refine Calls.run NoB Tryz.func216 ?_
 intro ac β S
 refine S.go 9 .nil fun ac w β S => S.K1 (r := f_ctlFaults c) (d := 4) (c_spec_CtlFaults w c) fun ac w N q1 F2 S up o3 d4 => ?_
 clear up d4
 exact S.gf 6 .nil [B (((f_ctlFaults c).length : Int) == 0)] (retB (by clear S; first | rfl | (simp [f_ctlOk, *]; done) | (simp [f_ctlOk, *]; omega) | (simp_all [f_ctlOk]; done) | (simp_all [f_ctlOk]; omega)))

theorem c_spec_PendOk (w0 : World) (p : Int) : Calls Tryz.prog 205 [I p].toArray w0 (fun e w' => e = .returned (B (f_within p 0 255)) ∧ Chg NoB w0 w') := by
 refine Calls.run NoB Tryz.func205 ?_
 intro ac β S
 exact S.gf 13 (.cons (Q_call fun w hw => c_spec_l01In w p 0 255) .nil) [B (f_within p 0 255)] (retB (by clear S; first | rfl | (simp [f_within, *]; done) | (simp [f_within, *]; omega) | (simp_all [f_within]; done) | (simp_all [f_within]; omega)))

theorem k0_spec_ExitOk {p : Prop} (h : p := by clear S; (unfold f_exitOk; (repeat' split) <;> first | rfl | (exfalso; simp_all; done) | (exfalso; omega) | (rw [Bool.eq_iff_iff]; simp [TExit.ext_iff, *]; done) | (rw [Bool.eq_iff_iff]; simp_all [TExit.ext_iff, and_assoc]; done) | (rw [Bool.eq_iff_iff]; simp_all [TExit.ext_iff, and_assoc]; omega))) : p := h
theorem c_spec_ExitOk (w0 : World) (x : TExit) : Calls Tryz.prog 217 [GT.val x ()].toArray w0 (fun e w' => e = .returned (B (f_exitOk x)) ∧ Chg NoB w0 w') := by
 refine Calls.run NoB Tryz.func217 ?_
 intro ac β S
 refine S.gd 21 .nil (x.kind == 0) (fun ac w β h1 g2 S => ?_) (fun ac w β h1 g2 S => ?_)
 ·exact S.gf 15 (.cons (Q_sem (s := Instr.build 49 [(0, I x.kind)].toArray) (v := .agg [I x.kind, I 0, B false, I 0].toArray) (fun w => by kernel_rfl)) (.cons (Eq_eq_Exit (t := 49) x (⟨x.kind, 0, false, 0⟩ : TExit) (by kernel_rfl)) .nil)) [B (decide (x = (⟨x.kind, 0, false, 0⟩ : TExit)))] (retB k0_spec_ExitOk)
 refine S.gd 6 .nil (x.kind == 4) (fun ac w β h3 g4 S => ?_) (fun ac w β h3 g4 S => ?_)
 ·exact S.gf 12 (.cons (Q_sem (s := Instr.build 49 [(0, I x.kind)].toArray) (v := .agg [I x.kind, I 0, B false, I 0].toArray) (fun w => by kernel_rfl)) (.cons (Eq_eq_Exit (t := 49) x (⟨x.kind, 0, false, 0⟩ : TExit) (by kernel_rfl)) .nil)) [B (decide (x = (⟨x.kind, 0, false, 0⟩ : TExit)))] (retB k0_spec_ExitOk)
 refine S.gd 7 .nil (x.kind == 1) (fun ac w β h5 g6 S => ?_) (fun ac w β h5 g6 S => ?_)
 ·refine S.gb 7 (.cons (Q_call fun w hw => c_spec_l01In w x.page 0 3) .nil) (f_within x.page 0 3) (fun ac w β h7 S => ?_) (fun ac w β h7 S => ?_)
  ·have g8 := within_t h7
   exact S.gf 8 .nil [B (x.n == 0)] (retB k0_spec_ExitOk)
  have g9 := within_f h7
  exact S.gf 8 .nil [B false] (retB k0_spec_ExitOk)
 refine S.gd 8 .nil (x.kind == 2) (fun ac w β h10 g11 S => ?_) (fun ac w β h10 g11 S => ?_)
 ·refine S.gb 10 (.cons (Q_call fun w hw => c_spec_l01In w x.n 0 99) .nil) (f_within x.n 0 99) (fun ac w β h12 S => ?_) (fun ac w β h12 S => ?_)
  ·have g13 := within_t h12
   refine S.gd 5 .nil (x.page == 0) (fun ac w β h14 g15 S => ?_) (fun ac w β h14 g15 S => ?_)
   ·exact S.gf 8 .nil [B (!x.wr)] (retB k0_spec_ExitOk)
   exact S.gf 8 .nil [B false] (retB k0_spec_ExitOk)
  have g16 := within_f h12
  exact S.gf 13 .nil [B false] (retB k0_spec_ExitOk)
 refine S.gd 6 .nil (x.kind == 3) (fun ac w β h17 g18 S => ?_) (fun ac w β h17 g18 S => ?_)
 ·refine S.gb 7 (.cons (Q_call fun w hw => c_spec_l01In w x.n 0 99) .nil) (f_within x.n 0 99) (fun ac w β h19 S => ?_) (fun ac w β h19 S => ?_)
  ·have g20 := within_t h19
   refine S.gd 5 .nil (x.page == 0) (fun ac w β h21 g22 S => ?_) (fun ac w β h21 g22 S => ?_)
   ·exact S.gf 8 .nil [B (!x.wr)] (retB k0_spec_ExitOk)
   exact S.gf 8 .nil [B false] (retB k0_spec_ExitOk)
  have g23 := within_f h19
  exact S.gf 13 .nil [B false] (retB k0_spec_ExitOk)
 exact S.gf 10 .nil [B false] (retB k0_spec_ExitOk)

theorem k0_spec_GuestOk {p : Prop} (h : p := by clear S; first | rfl | (simp [f_guestOk, *]; done) | (simp [f_guestOk, *]; omega) | (simp_all [f_guestOk]; done) | (simp_all [f_guestOk]; omega)) : p := h
theorem c_spec_GuestOk (w0 : World) (g : TGuest) (pg : PGuest) (hg : RD w0 g pg) : Calls Tryz.prog 203 [GT.val g pg].toArray w0 (fun e w' => e = .returned (B (f_guestOk g)) ∧ Chg NoB w0 w') := by
 refine Calls.run NoB Tryz.func203 ?_
 intro ac β S
 have hleg_prog : g.prog.length ≤ 4194304 := LRd.le (RGuest.prog (d := g) hg)
 have hleg_written : g.written.length ≤ 4194304 := LRd.le (RGuest.written (d := g) hg)
 have hleg_live : g.live.length ≤ 4194304 := LRd.le (RGuest.live (d := g) hg)
 have hleg_seen : g.seen.length ≤ 4194304 := LRd.le (RGuest.seen (d := g) hg)
 refine S.gb 12 (.cons (Q_call fun w hw => c_spec_ProgOk w g.prog pg.prog (rd_of (RGuest.prog (d := g) (S.arg hg)) hw)) .nil) (f_progOk g.prog) (fun ac w β h1 S => ?_) (fun ac w β h1 S => ?_)
 ·refine S.gb 5 (.cons (Q_call fun w hw => c_spec_l01In w g.acc 0 99) .nil) (f_within g.acc 0 99) (fun ac w β h2 S => ?_) (fun ac w β h2 S => ?_)
  ·have g3 := within_t h2
   refine S.gb 5 (.cons (Q_call fun w hw => c_spec_l01In w g.pc 0 12) .nil) (f_within g.pc 0 12) (fun ac w β h4 S => ?_) (fun ac w β h4 S => ?_)
   ·have g5 := within_t h4
    refine S.gb 5 (.cons (Q_call fun w hw => c_spec_TableOk w g.written pg.written (rd_of (RGuest.written (d := g) (S.arg hg)) hw) 4 8 (by omega) (by omega)) .nil) (f_tableOk g.written 4 8) (fun ac w β h6 S => ?_) (fun ac w β h6 S => ?_)
    ·have g7 := tableOk_t h6
     refine S.gb 5 (.cons (Q_call fun w hw => c_spec_TableOk w g.live pg.live (rd_of (RGuest.live (d := g) (S.arg hg)) hw) 4 8 (by omega) (by omega)) .nil) (f_tableOk g.live 4 8) (fun ac w β h8 S => ?_) (fun ac w β h8 S => ?_)
     ·have g9 := tableOk_t h8
      refine S.gb 5 (.cons (Q_call fun w hw => c_spec_CtlOk w g.ctl) .nil) (f_ctlOk g.ctl) (fun ac w β h10 S => ?_) (fun ac w β h10 S => ?_)
      ·refine S.gb 5 (.cons (Q_call fun w hw => c_spec_PendOk w g.pend) .nil) (f_within g.pend 0 255) (fun ac w β h11 S => ?_) (fun ac w β h11 S => ?_)
       ·have g12 := within_t h11
        refine S.gb 5 (.cons (Q_call fun w hw => c_spec_ExitOk w g.exit) .nil) (f_exitOk g.exit) (fun ac w β h13 S => ?_) (fun ac w β h13 S => ?_)
        ·exact S.gf 9 .nil [B (decide ((g.seen.length : Int) ≤ 40))] (retB k0_spec_GuestOk)
        exact S.gf 9 .nil [B false] (retB k0_spec_GuestOk)
       have g14 := within_f h11
       exact S.gf 14 .nil [B false] (retB k0_spec_GuestOk)
      exact S.gf 19 .nil [B false] (retB k0_spec_GuestOk)
     exact S.gf 24 .nil [B false] (retB k0_spec_GuestOk)
    exact S.gf 29 .nil [B false] (retB k0_spec_GuestOk)
   have g15 := within_f h4
   exact S.gf 34 .nil [B false] (retB k0_spec_GuestOk)
  have g16 := within_f h2
  exact S.gf 39 .nil [B false] (retB k0_spec_GuestOk)
 exact S.gf 44 .nil [B false] (retB k0_spec_GuestOk)

theorem c_spec_PageOk (w0 : World) (cells : List Int) (pcells : LP Int) (hcells : RD w0 cells pcells) : Calls Tryz.prog 218 [slv cells.length pcells.1].toArray w0 (fun e w' => e = .returned (B (f_pageOk cells)) ∧ Chg NoB w0 w') := by
 refine Calls.run NoB Tryz.func218 ?_
 intro ac β S
 have hlecells : cells.length ≤ 4194304 := LRd.le hcells
 refine S.go 12 .nil fun ac w β S => ?_
 refine lp (fun mm ac w => ∃ (k : Nat)  (u : _) (N : _) (β : _), mm = cells.length - k ∧ (k ≤ cells.length) ∧ ((cells.take k).all (fun v => f_within v 0 99) = true) ∧ St Tryz.prog Tryz.f218.ntmps w0 NoB u N β ⟨[(0, .v (slv cells.length pcells.1)), (3, .v (I (k : Int)))], []⟩ ac w) _ ⟨0, _, _, _, rfl, o0, (by simp), S.z⟩ ?_
 clear S
 rintro f1 mm hf2 ac w ⟨k, u, N, β, rfl, hk, he, S⟩
 refine S.rs fun S => ?_
 refine S.gd 9 .nil (decide ((k : Int) < (cells.length : Int))) (fun ac w β h3 g4 S => ?_) (fun ac w β h3 g4 S => ?_)
 ·refine S.gb 15 (.cons (qn (S.arg hcells) k Tryz.underlying26) (.cons (qx (S.arg hcells) 3 k) (.cons (Q_call fun w hw => c_spec_l01In w (el cells k) 0 99) .nil))) (!(f_within (el cells k) 0 99)) (fun ac w β h5 S => ?_) (fun ac w β h5 S => ?_)
  ·have h6 := not_t h5
   have g7 := within_f h6
   exact S.gf 7 .nil [B false] (retB (by clear S; (first | (unfold f_pageOk; rw [all_bad (k := k) (by omega) (by first | assumption | simp_all)]; simp; done) | (unfold f_pageOk; rw [all_end (by omega) he]; simp; done) | (unfold f_pageOk; rw [all_end (by omega) he]; simp [*]; done) | (unfold f_pageOk; rw [all_end (by omega) he]; simp; omega))))
  have h8 := not_f h5
  have g9 := within_t h8
  refine S.ge 9 (.cons (qp (k : Int) 1) .nil) f1 fun ac w β S => hf2.of (cells.length - (k + 1)) _ _ (by omega) ⟨k + 1, _, _, _, rfl, ?_, ?_, S.z⟩
  ·exact oz
  ·clear S; exact all_step (by omega) he (by first | assumption | (simp only [f_slotOk, f_within] at *; simp_all; done) | (simp_all; done) | (simp_all; omega))
 exact S.gf 15 .nil [B ((cells.length : Int) == 4)] (retB (by clear S; (first | (unfold f_pageOk; rw [all_end (by omega) he]; simp; done) | (unfold f_pageOk; rw [all_end (by omega) he]; simp [*]; done) | (unfold f_pageOk; rw [all_end (by omega) he]; simp; omega) | (unfold f_pageOk; rw [all_bad (k := k) (by omega) (by first | assumption | simp_all)]; simp; done))))

theorem c_spec_MemOk (w0 : World) (m : List (List Int)) (pm : LP (List Int)) (hm : RD w0 m pm) (pages : Int) : Calls Tryz.prog 204 [slv m.length pm.1, I pages].toArray w0 (fun e w' => e = .returned (B (f_memOk m pages)) ∧ Chg NoB w0 w') := by
 refine Calls.run NoB Tryz.func204 ?_
 intro ac β S
 have hlem : m.length ≤ 4194304 := LRd.le hm
 refine S.go 12 .nil fun ac w β S => ?_
 refine lp (fun mm ac w => ∃ (k : Nat)  (u : _) (N : _) (β : _), mm = m.length - k ∧ (k ≤ m.length) ∧ ((m.take k).all f_pageOk = true) ∧ St Tryz.prog Tryz.f204.ntmps w0 NoB u N β ⟨[(0, .v (slv m.length pm.1)), (1, .v (I pages)), (5, .v (I (k : Int)))], []⟩ ac w) _ ⟨0, _, _, _, rfl, o0, (by simp), S.z⟩ ?_
 clear S
 rintro f1 mm hf2 ac w ⟨k, u, N, β, rfl, hk, he, S⟩
 refine S.rs fun S => ?_
 refine S.gd 9 .nil (decide ((k : Int) < (m.length : Int))) (fun ac w β h3 g4 S => ?_) (fun ac w β h3 g4 S => ?_)
 ·refine S.gb 15 (.cons (qn (S.arg hm) k Tryz.underlying24) (.cons (qx (S.arg hm) 26 k) (.cons (Q_call fun w hw => c_spec_PageOk w (el m k) (pm.2 k) (rd_of (LRd.el (S.arg hm) k (by omega)) hw)) .nil))) (!(f_pageOk (el m k))) (fun ac w β h5 S => ?_) (fun ac w β h5 S => ?_)
  ·have h6 := not_t h5
   exact S.gf 7 .nil [B false] (retB (by clear S; (first | (unfold f_memOk; rw [all_bad (k := k) (by omega) (by first | assumption | simp_all)]; simp; done) | (unfold f_memOk; rw [all_end (by omega) he]; simp; done) | (unfold f_memOk; rw [all_end (by omega) he]; simp [*]; done) | (unfold f_memOk; rw [all_end (by omega) he]; simp; omega))))
  have h7 := not_f h5
  refine S.ge 9 (.cons (qp (k : Int) 1) .nil) f1 fun ac w β S => hf2.of (m.length - (k + 1)) _ _ (by omega) ⟨k + 1, _, _, _, rfl, ?_, ?_, S.z⟩
  ·exact oz
  ·clear S; exact all_step (by omega) he (by first | assumption | (simp only [f_slotOk, f_within] at *; simp_all; done) | (simp_all; done) | (simp_all; omega))
 exact S.gf 16 .nil [B ((m.length : Int) == pages)] (retB (by clear S; (first | (unfold f_memOk; rw [all_end (by omega) he]; simp; done) | (unfold f_memOk; rw [all_end (by omega) he]; simp [*]; done) | (unfold f_memOk; rw [all_end (by omega) he]; simp; omega) | (unfold f_memOk; rw [all_bad (k := k) (by omega) (by first | assumption | simp_all)]; simp; done))))

theorem k1_spec_BareOk {p : Prop} (h : p := by clear S; (symm; rw [← Bool.not_eq_true]; intro hc; simp only [f_bareOk, Bool.and_eq_true, decide_eq_true_eq, beq_iff_eq] at hc; first | omega | (simp_all; done) | (simp_all; omega) | (have hx := all_el (k := k) hc.1.1.1.1 (by omega); simp_all; done))) : p := h
theorem c_spec_BareOk (w0 : World) (b : TBare) (pb : PBare) (hb : RD w0 b pb) : Calls Tryz.prog 172 [GT.val b pb].toArray w0 (fun e w' => e = .returned (B (f_bareOk b)) ∧ Chg NoB w0 w') := by
 refine Calls.run NoB Tryz.func172 ?_
 intro ac β S
 have hleb_mem : b.mem.length ≤ 4194304 := LRd.le (RBare.mem (d := b) hb)
 have hleb_guests : b.guests.length ≤ 4194304 := LRd.le (RBare.guests (d := b) hb)
 have hleb_outs : b.outs.length ≤ 4194304 := LRd.le (RBare.outs (d := b) hb)
 refine S.go 13 .nil fun ac w β S => ?_
 refine lp (fun mm ac w => ∃ (k : Nat)  (u : _) (N : _) (β : _), mm = b.guests.length - k ∧ (k ≤ b.guests.length) ∧ ((b.guests.take k).all f_guestOk = true) ∧ St Tryz.prog Tryz.f172.ntmps w0 NoB u N β ⟨[(1, .p 0 0), (3, .v (I (k : Int)))], [GT.cells b pb]⟩ ac w) _ ⟨0, _, _, _, rfl, o0, (by simp), S.z⟩ ?_
 clear S
 rintro f1 mm hf2 ac w ⟨k, u, N, β, rfl, hk, he, S⟩
 refine S.rs fun S => ?_
 refine S.gd 10 .nil (decide ((k : Int) < (b.guests.length : Int))) (fun ac w β h3 g4 S => ?_) (fun ac w β h3 g4 S => ?_)
 ·refine S.gb 16 (.cons (qn (RBare.guests (d := b) (S.arg hb)) k Tryz.underlying25) (.cons (qs (RBare.guests (d := b) (S.arg hb)) 51 k) (.cons (Q_call fun w hw => c_spec_GuestOk w (el b.guests k) (pb.guests.2 k) (rd_of (LRd.el (RBare.guests (d := b) (S.arg hb)) k (by omega)) hw)) .nil))) (!(f_guestOk (el b.guests k))) (fun ac w β h5 S => ?_) (fun ac w β h5 S => ?_)
  ·have h6 := not_t h5
   exact S.gf 7 .nil [B false] (retB k1_spec_BareOk)
  have h7 := not_f h5
  refine S.ge 9 (.cons (qp (k : Int) 1) .nil) f1 fun ac w β S => hf2.of (b.guests.length - (k + 1)) _ _ (by omega) ⟨k + 1, _, _, _, rfl, ?_, ?_, S.z⟩
  ·exact oz
  ·clear S; exact all_step (by omega) he (by first | assumption | simp_all)
 refine S.gb 12 (.cons (Q_call fun w hw => c_spec_MemOk w b.mem pb.mem (rd_of (RBare.mem (d := b) (S.arg hb)) hw) 8) .nil) (f_memOk b.mem 8) (fun ac w β h8 S => ?_) (fun ac w β h8 S => ?_)
 ·refine S.gb 6 (.cons (Q_call fun w hw => c_spec_l01In w (b.guests.length : Int) 1 2) .nil) (f_within (b.guests.length : Int) 1 2) (fun ac w β h9 S => ?_) (fun ac w β h9 S => ?_)
  ·have g10 := within_t h9
   refine S.gd 6 .nil (decide ((b.outs.length : Int) ≤ 40)) (fun ac w β h11 g12 S => ?_) (fun ac w β h11 g12 S => ?_)
   ·exact S.gf 8 (.cons (Q_call fun w hw => c_spec_PendOk w b.pend) .nil) [B (f_within b.pend 0 255)] (retB (by clear S; (first | rfl | (symm; rw [← Bool.not_eq_true]; intro hc; simp only [f_bareOk, Bool.and_eq_true, decide_eq_true_eq, beq_iff_eq] at hc; first | omega | (simp_all; done) | (simp_all; omega) | (have hx := all_el (k := k) hc.1.1.1.1 (by omega); simp_all; done)) | (symm; simp only [f_bareOk, Bool.and_eq_true, decide_eq_true_eq, beq_iff_eq]; (repeat' apply And.intro); all_goals first | assumption | omega | (simp_all; done) | (simp_all; omega) | (exact all_end (by omega) he)) | (rw [Bool.eq_iff_iff]; simp only [f_bareOk, Bool.and_eq_true, decide_eq_true_eq, beq_iff_eq]; refine ⟨fun hr => ?_, fun hc => ?_⟩ <;> ((repeat' apply And.intro); all_goals first | assumption | omega | (simp_all; done) | (simp_all; omega) | (exact all_end (by omega) he))))))
   exact S.gf 8 .nil [B false] (retB k1_spec_BareOk)
  have g13 := within_f h9
  exact S.gf 14 .nil [B false] (retB k1_spec_BareOk)
 exact S.gf 20 .nil [B false] (retB k1_spec_BareOk)

theorem k0_spec_l19Is {p : Prop} (h : p := by clear S; first | rfl | (simp [f_l19Is, *]; done) | (simp [f_l19Is, *]; omega) | (simp_all [f_l19Is]; done) | (simp_all [f_l19Is]; omega)) : p := h
theorem c_spec_l19Is (w0 : World) (b : TBare) (pb : PBare) (hb : RD w0 b pb) (g : Int) : Calls Tryz.prog 108 [GT.val b pb, I g].toArray w0 (fun e w' => e = .returned (B (f_l19Is b g)) ∧ Chg NoB w0 w') := by
 refine Calls.run NoB Tryz.func108 ?_
 intro ac β S
 have hleb_mem : b.mem.length ≤ 4194304 := LRd.le (RBare.mem (d := b) hb)
 have hleb_guests : b.guests.length ≤ 4194304 := LRd.le (RBare.guests (d := b) hb)
 have hleb_outs : b.outs.length ≤ 4194304 := LRd.le (RBare.outs (d := b) hb)
 refine S.gb 11 (.cons (Q_call fun w hw => c_spec_BareOk w b pb (rd_of (S.arg hb) hw)) .nil) (f_bareOk b) (fun ac w β h1 S => ?_) (fun ac w β h1 S => ?_)
 ·have g2 := bareOk_t h1
  exact S.gf 11 (.cons (qm (b.guests.length : Int) 1) (.cons (Q_call fun w hw => c_spec_l01In w g 0 ((b.guests.length : Int) - 1)) .nil)) [B (f_within g 0 ((b.guests.length : Int) - 1))] (retB k0_spec_l19Is)
 exact S.gf 11 .nil [B false] (retB k0_spec_l19Is)

theorem k0_spec_AddrPage {p : Prop} (h : p := by clear S; (first | (unfold f_addrPage; rw [if_pos (by omega)]; done) | (unfold f_addrPage; rw [if_pos (by omega)]; first | rfl | (simp; done)) | (unfold f_addrPage; rw [if_neg (by omega)]; done) | (unfold f_addrPage; rw [if_neg (by omega)]; first | rfl | (simp; done)))) : p := h
theorem c_spec_AddrPage (w0 : World) (addr : Int) (haddr : In64 addr) : Calls Tryz.prog 16 [I addr].toArray w0 (fun e w' => e = .returned (I (f_addrPage addr)) ∧ Chg NoB w0 w') := by
 refine Calls.run NoB Tryz.func16 ?_
 intro ac β S
 have hloaddr := haddr.lo; have hhiaddr := haddr.hi
 refine S.gd 12 .nil (decide (addr < 0)) (fun ac w β h1 g2 S => ?_) (fun ac w β h1 g2 S => ?_)
 ·exact S.gf 7 .nil [I (-1)] (retI k0_spec_AddrPage)
 exact S.gf 11 (.cons (Q_quo (x := addr) (y := 4) (by decide) (tdiv4_in64 haddr (by omega))) .nil) [I (Int.tdiv addr 4)] (retI k0_spec_AddrPage)

theorem k0_spec_SlotAt {p : Prop} (h : p := by clear S; (first | (unfold f_slotAt; rw [if_pos (by omega)]) | (unfold f_slotAt; rw [if_neg (by omega)]))) : p := h
theorem c_spec_SlotAt (w0 : World) (t : List TSlot) (pt : LP TSlot) (ht : RD w0 t pt) (page : Int) : Calls Tryz.prog 51 [slv t.length pt.1, I page].toArray w0 (fun e w' => e = .returned (GT.val (f_slotAt t page) ()) ∧ Chg NoB w0 w') := by
 refine Calls.run NoB Tryz.func51 ?_
 intro ac β S
 have hlet : t.length ≤ 4194304 := LRd.le ht
 refine S.gb 16 (.cons (qm (t.length : Int) 1) (.cons (Q_call fun w hw => c_spec_l01In w page 0 ((t.length : Int) - 1)) .nil)) (!(f_within page 0 ((t.length : Int) - 1))) (fun ac w β h1 S => ?_) (fun ac w β h1 S => ?_)
 ·have h2 := not_t h1
  have g3 := within_f h2
  exact S.gf 8 (.cons (Q_call fun w hw => c_spec_NoSlot w ) .nil) [GT.val (⟨-1, 0⟩ : TSlot) ()] (retV (p := ()) k0_spec_SlotAt)
 have h4 := not_f h1
 have g5 := within_t h4
 exact S.gf 13 (.cons (qt (S.arg ht) page Tryz.underlying45) (.cons (qs (S.arg ht) 44 page.toNat) .nil)) [GT.val (el t page.toNat) ()] (retV (p := ()) k0_spec_SlotAt)

theorem c_spec_RightsOk (w0 : World) (r : Int) : Calls Tryz.prog 112 [I r].toArray w0 (fun e w' => e = .returned (B (f_within r 0 3)) ∧ Chg NoB w0 w') := by
 refine Calls.run NoB Tryz.func112 ?_
 intro ac β S
 exact S.gf 13 (.cons (Q_call fun w hw => c_spec_l01In w r 0 3) .nil) [B (f_within r 0 3)] (retB (by clear S; first | rfl | (simp [f_within, *]; done) | (simp [f_within, *]; omega) | (simp_all [f_within]; done) | (simp_all [f_within]; omega)))

theorem k0_spec_Enough {p : Prop} (h : p := by clear S; first | rfl | (simp [f_enough, *]; done) | (simp [f_enough, *]; omega) | (simp_all [f_enough]; done) | (simp_all [f_enough]; omega)) : p := h
theorem c_spec_Enough (w0 : World) (rights : Int) (need : Int) : Calls Tryz.prog 52 [I rights, I need].toArray w0 (fun e w' => e = .returned (B (f_enough rights need)) ∧ Chg NoB w0 w') := by
 refine Calls.run NoB Tryz.func52 ?_
 intro ac β S
 refine S.gb 10 (.cons (Q_call fun w hw => c_spec_RightsOk w rights) .nil) (f_within rights 0 3) (fun ac w β h1 S => ?_) (fun ac w β h1 S => ?_)
 ·have g2 := within_t h1
  refine S.gb 4 (.cons (Q_call fun w hw => c_spec_RightsOk w need) .nil) (f_within need 0 3) (fun ac w β h3 S => ?_) (fun ac w β h3 S => ?_)
  ·have g4 := within_t h3
   exact S.gf 10 (.cons (Q_land64 (x := rights) (y := need)) .nil) [B ((land64 rights need) == need)] (retB k0_spec_Enough)
  have g5 := within_f h3
  exact S.gf 10 .nil [B false] (retB k0_spec_Enough)
 have g6 := within_f h1
 exact S.gf 14 .nil [B false] (retB k0_spec_Enough)

theorem k0_spec_WalkInner {p : Prop} (h : p := by clear S; (unfold f_walkInner; (repeat' split) <;> first | rfl | (exfalso; omega) | (exfalso; simp_all; done) | (exfalso; simp_all; omega))) : p := h
theorem c_spec_WalkInner (w0 : World) (inner : List TSlot) (pinner : LP TSlot) (hinner : RD w0 inner pinner) (page : Int) (need : Int) : Calls Tryz.prog 15 [slv inner.length pinner.1, I page, I need].toArray w0 (fun e w' => e = .returned (.tuple #[I (f_walkInner inner page need).1, B (f_walkInner inner page need).2]) ∧ Chg NoB w0 w') := by
 refine Calls.run NoB Tryz.func15 ?_
 intro ac β S
 have hleinner : inner.length ≤ 4194304 := LRd.le hinner
 refine S.gd 22 (.cons (Q_call fun w hw => c_spec_SlotAt w inner pinner (rd_of (S.arg hinner) hw) page) .nil) ((f_slotAt inner page).page == (-1)) (fun ac w β h1 g2 S => ?_) (fun ac w β h1 g2 S => ?_)
 ·exact S.gf 20 .nil [I (-1), B false] (ret2v (eqI (show (-1) = (f_walkInner inner page need).1 from k0_spec_WalkInner)) (eqB (show false = (f_walkInner inner page need).2 from k0_spec_WalkInner)))
 refine S.gb 7 (.cons (Q_call fun w hw => c_spec_Enough w (f_slotAt inner page).rights need) .nil) (!(f_enough (f_slotAt inner page).rights need)) (fun ac w β h3 S => ?_) (fun ac w β h3 S => ?_)
 ·have h4 := not_t h3
  exact S.gf 13 .nil [I (-1), B false] (ret2v (eqI (show (-1) = (f_walkInner inner page need).1 from k0_spec_WalkInner)) (eqB (show false = (f_walkInner inner page need).2 from k0_spec_WalkInner)))
 have h5 := not_f h3
 have g6 := enough_t h5
 refine S.gd 5 .nil (need == 0) (fun ac w β h7 g8 S => ?_) (fun ac w β h7 g8 S => ?_)
 ·exact S.gf 8 .nil [I (-1), B false] (ret2v (eqI (show (-1) = (f_walkInner inner page need).1 from k0_spec_WalkInner)) (eqB (show false = (f_walkInner inner page need).2 from k0_spec_WalkInner)))
 exact S.gf 12 .nil [I (f_slotAt inner page).page, B true] (ret2v (eqI (show (f_slotAt inner page).page = (f_walkInner inner page need).1 from k0_spec_WalkInner)) (eqB (show true = (f_walkInner inner page need).2 from k0_spec_WalkInner)))

theorem k0_spec_l20At {p : Prop} (h : p := by clear S; (unfold f_at; (repeat' split) <;> first | rfl | (exfalso; omega) | (exfalso; simp_all; done) | (exfalso; simp_all; omega) | (simp_all; done))) : p := h
theorem c_spec_l20At (w0 : World) (b : TBare) (pb : PBare) (hb : RD w0 b pb) (g : Int) (addr : Int) (haddr : In64 addr) (need : Int) : Calls Tryz.prog 43 [GT.val b pb, I g, I addr, I need].toArray w0 (fun e w' => e = .returned (.tuple #[I (f_at b g addr need).1, B (f_at b g addr need).2]) ∧ Chg NoB w0 w') := by
 refine Calls.run NoB Tryz.func43 ?_
 intro ac β S
 have hleb_mem : b.mem.length ≤ 4194304 := LRd.le (RBare.mem (d := b) hb)
 have hleb_guests : b.guests.length ≤ 4194304 := LRd.le (RBare.guests (d := b) hb)
 have hleb_outs : b.outs.length ≤ 4194304 := LRd.le (RBare.outs (d := b) hb)
 have hloaddr := haddr.lo; have hhiaddr := haddr.hi
 refine S.gb 15 (.cons (Q_call fun w hw => c_spec_l19Is w b pb (rd_of (S.arg hb) hw) g) .nil) (!(f_l19Is b g)) (fun ac w β h1 S => ?_) (fun ac w β h1 S => ?_)
 ·have h2 := not_t h1
  exact S.gf 14 .nil [I (-1), B false] (ret2v (eqI (show (-1) = (f_at b g addr need).1 from k0_spec_l20At)) (eqB (show false = (f_at b g addr need).2 from k0_spec_l20At)))
 have h3 := not_f h1
 have g4 := l19Is_t h3
 refine S.gb 6 (.cons (Q_call fun w hw => c_spec_l01In w addr 0 15) .nil) (!(f_within addr 0 15)) (fun ac w β h5 S => ?_) (fun ac w β h5 S => ?_)
 ·have h6 := not_t h5
  have g7 := within_f h6
  exact S.gf 8 .nil [I (-1), B false] (ret2v (eqI (show (-1) = (f_at b g addr need).1 from k0_spec_l20At)) (eqB (show false = (f_at b g addr need).2 from k0_spec_l20At)))
 have h8 := not_f h5
 have g9 := within_t h8
 exact S.gf 7 (.cons (qt (RBare.guests (d := b) (S.arg hb)) g Tryz.underlying25) (.cons (qc (RBare.guests (d := b) (S.arg hb)) 45 g.toNat 4 (slv (el b.guests g.toNat).live.length (pb.guests.2 g.toNat).live.1)) (.cons (Q_call fun w hw => c_spec_AddrPage w addr haddr) (.cons (Q_call fun w hw => c_spec_WalkInner w (el b.guests g.toNat).live (pb.guests.2 g.toNat).live (rd_of (RGuest.live (d := (el b.guests g.toNat)) (LRd.el (RBare.guests (d := b) (S.arg hb)) g.toNat (by omega))) hw) (f_addrPage addr) need) .nil)))) [I (f_walkInner (el b.guests g.toNat).live (f_addrPage addr) need).1, B (f_walkInner (el b.guests g.toNat).live (f_addrPage addr) need).2] (ret2v (eqI (show (f_walkInner (el b.guests g.toNat).live (f_addrPage addr) need).1 = (f_at b g addr need).1 from k0_spec_l20At)) (eqB (show (f_walkInner (el b.guests g.toNat).live (f_addrPage addr) need).2 = (f_at b g addr need).2 from k0_spec_l20At)))

theorem k0_spec_AddrCell {p : Prop} (h : p := by clear S; (first | (unfold f_addrCell; rw [if_pos (by omega)]; done) | (unfold f_addrCell; rw [if_pos (by omega)]; first | rfl | (simp; done)) | (unfold f_addrCell; rw [if_neg (by omega)]; done) | (unfold f_addrCell; rw [if_neg (by omega)]; first | rfl | (simp; done)))) : p := h
theorem c_spec_AddrCell (w0 : World) (addr : Int) (haddr : In64 addr) : Calls Tryz.prog 46 [I addr].toArray w0 (fun e w' => e = .returned (I (f_addrCell addr)) ∧ Chg NoB w0 w') := by
 refine Calls.run NoB Tryz.func46 ?_
 intro ac β S
 have hloaddr := haddr.lo; have hhiaddr := haddr.hi
 refine S.gd 12 .nil (decide (addr < 0)) (fun ac w β h1 g2 S => ?_) (fun ac w β h1 g2 S => ?_)
 ·exact S.gf 7 .nil [I (-1)] (retI k0_spec_AddrCell)
 exact S.gf 11 (.cons (Q_rem (x := addr) (y := 4) (by decide)) .nil) [I (Int.tmod addr 4)] (retI k0_spec_AddrCell)

theorem k0_spec_l04Has {p : Prop} (h : p := by clear S; (unfold f_hasCell; (repeat' split) <;> first | rfl | (rw [Bool.eq_iff_iff]; simp [f_within]; omega) | (rw [Bool.eq_iff_iff]; simp_all; omega))) : p := h
theorem c_spec_l04Has (w0 : World) (m : List (List Int)) (pm : LP (List Int)) (hm : RD w0 m pm) (page : Int) (cell : Int) : Calls Tryz.prog 54 [slv m.length pm.1, I page, I cell].toArray w0 (fun e w' => e = .returned (B (f_hasCell m page cell)) ∧ Chg NoB w0 w') := by
 refine Calls.run NoB Tryz.func54 ?_
 intro ac β S
 have hlem : m.length ≤ 4194304 := LRd.le hm
 refine S.gb 13 (.cons (qm (m.length : Int) 1) (.cons (Q_call fun w hw => c_spec_l01In w page 0 ((m.length : Int) - 1)) .nil)) (f_within page 0 ((m.length : Int) - 1)) (fun ac w β h1 S => ?_) (fun ac w β h1 S => ?_)
 ·have g2 := within_t h1
  have b3 : (el m page.toNat).length ≤ 4194304 := LRd.le (LRd.el (S.arg hm) page.toNat (by omega))
  exact S.gf 13 (.cons (qt (S.arg hm) page Tryz.underlying24) (.cons (qx (S.arg hm) 26 page.toNat) (.cons (qm ((el m page.toNat).length : Int) 1) (.cons (Q_call fun w hw => c_spec_l01In w cell 0 (((el m page.toNat).length : Int) - 1)) .nil)))) [B (f_within cell 0 (((el m page.toNat).length : Int) - 1))] (retB k0_spec_l04Has)
 have g4 := within_f h1
 exact S.gf 13 .nil [B false] (retB k0_spec_l04Has)

theorem k0_spec_WithCell {p : Prop} (h : p := by clear S; (unfold f_withCell; (repeat' split) <;> first | rfl | (simp; done) | (exfalso; omega) | (exfalso; simp_all; done) | (exfalso; simp_all; omega))) : p := h
theorem c_spec_WithCell (w0 : World) (m : List (List Int)) (pm : LP (List Int)) (hm : RD w0 m pm) (page : Int) (cell : Int) (v : Int) (hv : In64 v) : Calls Tryz.prog 45 [slv m.length pm.1, I page, I cell, I v].toArray w0 (Ret1 NoB w0 (f_withCell m page cell v : List (List Int))) := by
 refine Calls.run NoB Tryz.func45 ?_
 intro ac β S
 have hlem : m.length ≤ 4194304 := LRd.le hm
 have hlov := hv.lo; have hhiv := hv.hi
 refine S.go 8 .nil fun ac w β S => S.K1 (r := m) (d := 11) (c_spec_l04Copy w m pm (S.rd (S.arg hm))) fun ac w N q1 F2 S up o3 d4 => ?_
 clear up d4
 refine S.gb 11 (.cons (Q_call fun w hw => c_spec_l04Has w m pm (rd_of (S.arg hm) hw) page cell) .nil) (f_hasCell m page cell) (fun ac w β h5 S => ?_) (fun ac w β h5 S => ?_)
 ·have g6 := hasCell_t h5
  refine S.gb 5 (.cons (Q_call fun w hw => c_spec_l01In w v 0 99) .nil) (f_within v 0 99) (fun ac w β h7 S => ?_) (fun ac w β h7 S => ?_)
  ·have g8 := within_t h7
   obtain ⟨F9, o10, _, b12⟩ := foc2_id o3 (k := page.toNat) (show page.toNat < m.length by omega)
   have l13 := LRd.le o10.rn
   have n14 := o10.sub
   refine S.go 9 (.cons (qt o3.rn page Tryz.underlying24) (.cons (qx o3.rn 26 page.toNat) (.cons (qt (LRd.el o3.rn page.toNat (by omega)) cell Tryz.underlying26) .nil))) fun ac w β S => S.SF (α := Int) o10 (t := 3) (k := cell.toNat) (j := 0) (off := (q1.2 page.toNat).1.off + cell.toNat * 1) (v := I v) (y := v) (q := ()) (fun _ _ _ => ⟨NoB, hv, fun _ h => False.elim h⟩) fun w N F16 q17 S up o15 d18 s19 n20 => ?_
   clear d18 o10
   obtain ⟨p21, o22, c23⟩ := b12 _ _ _ _ _ NoB up o15 s19 (fun b _ h => False.elim h) (by show [slv _ _] = [slv _ _]; rw [List.length_set]) (fun b h => n20 b (n14 b h))
   clear up o15 n20
   have l24 : (m.set page.toNat ((el m page.toNat).set cell.toNat v)).length = m.length := List.length_set
   refine S.gr 9 .nil [slv m.length q1.1] fun ac w β S => ?_
   exact ret1_of S (show f_withCell m page cell v = (m.set page.toNat ((el m page.toNat).set cell.toNat v)) from k0_spec_WithCell) (by rw [show m.length = (m.set page.toNat ((el m page.toNat).set cell.toNat v)).length from (by omega)]; rfl) o22
  have g25 := within_f h7
  refine S.gr 10 .nil [slv m.length q1.1] fun ac w β S => ?_
  exact ret1_of S (show f_withCell m page cell v = m from k0_spec_WithCell) rfl o3
 have g26 := hasCell_f h5
 refine S.gr 15 .nil [slv m.length q1.1] fun ac w β S => ?_
 exact ret1_of S (show f_withCell m page cell v = m from k0_spec_WithCell) rfl o3

theorem k0_spec_BareDma {p : Prop} (h : p := by clear S; (unfold f_bareDma; (repeat' split) <;> first | rfl | (exfalso; omega) | (exfalso; simp_all; done) | (exfalso; simp_all; omega) | (simp_all; done))) : p := h
theorem c_spec_BareDma (w0 : World) (b : TBare) (pb : PBare) (hb : RD w0 b pb) (g : Int) (addr : Int) (haddr : In64 addr) (v : Int) (hv : In64 v) : Calls Tryz.prog 9 [GT.val b pb, I g, I addr, I v].toArray w0 (Ret2 NoB w0 ((f_bareDma b g addr v).1 : TBare) ((f_bareDma b g addr v).2 : Bool)) := by
 refine Calls.run NoB Tryz.func9 ?_
 intro ac β S
 have hleb_mem : b.mem.length ≤ 4194304 := LRd.le (RBare.mem (d := b) hb)
 have hleb_guests : b.guests.length ≤ 4194304 := LRd.le (RBare.guests (d := b) hb)
 have hleb_outs : b.outs.length ≤ 4194304 := LRd.le (RBare.outs (d := b) hb)
 have hloaddr := haddr.lo; have hhiaddr := haddr.hi
 have hlov := hv.lo; have hhiv := hv.hi
 refine S.go 10 .nil fun ac w β S => S.K1 (r := b) (d := 13) (c_spec_l17Copy w b pb (S.rd (S.arg hb))) fun ac w N q1 F2 S up o3 d4 => ?_
 clear up d4
 have i14 : In64 b.pend := RBare.pend (d := b) o3.rn
 obtain ⟨F5, F8, F11, o6, o9, o12, _, _, _, d15, d16, d17⟩ := sp_Bare o3
 refine S.gb 22 (.cons (Q_call fun w hw => c_spec_l20At w b q1 (rd_of (show GT.rd KK _ _ b q1 from ⟨o6.rn, o9.rn, o12.rn, i14⟩) hw) g addr haddr 2) .nil) (!(f_at b g addr 2).2) (fun ac w β h18 S => ?_) (fun ac w β h18 S => ?_)
 ·have h19 := not_t h18
  refine S.gr 15 .nil [GT.val b q1, B false] fun ac w β S => ?_
  have o20 := ow_Bare (x := b) (p := q1) o6 o9 o12 d15 d16 d17 i14
  exact ret2_of (p' := ()) S (show (f_bareDma b g addr v).1 = b from k0_spec_BareDma) (show (f_bareDma b g addr v).2 = false from k0_spec_BareDma) rfl rfl o20 trivial
 have h21 := not_f h18
 refine S.gb 6 (.cons (Q_call fun w hw => c_spec_l01In w v 0 99) .nil) (!(f_within v 0 99)) (fun ac w β h22 S => ?_) (fun ac w β h22 S => ?_)
 ·have h23 := not_t h22
  have g24 := within_f h23
  refine S.gr 9 .nil [GT.val b q1, B false] fun ac w β S => ?_
  have o25 := ow_Bare (x := b) (p := q1) o6 o9 o12 d15 d16 d17 i14
  exact ret2_of (p' := ()) S (show (f_bareDma b g addr v).1 = b from k0_spec_BareDma) (show (f_bareDma b g addr v).2 = false from k0_spec_BareDma) rfl rfl o25 trivial
 have h26 := not_f h22
 have g27 := within_t h26
 refine S.go 4 .nil fun ac w β S => ?_
 refine drw ?_
 refine S.draw0 (f := 9) 8 (by kernel_rfl) (by kernel_rfl) fun w S => ?_
 refine S.hq 0 [0] [] [(29, .p 0 0)] .nil fun ac S => ?_
 refine S.hq 1 [1] [] [(30, .v (slv b.mem.length q1.mem.1))] .nil fun ac S => ?_
 refine S.hq 2 [2] [] [(31, .v (I (f_at b g addr 2).1))] .nil fun ac S => ?_
 refine S.hq 3 [3] [] [(32, .v (I addr))] .nil fun ac S => ?_
 refine S.hq 5 [5] [] [(34, .v (I v))] .nil fun ac S => ?_
 refine S.sq 4 [] [(33, .v (I (f_addrCell addr)))] 2 [] (.cons (Q_call fun w hw => c_spec_AddrCell w addr haddr) .nil) fun ac w β S => ?_
 refine WD.one (i := 6) (by kernel_rfl) ?_
 refine id (S.k1 35 (c_spec_WithCell w b.mem q1.mem (S.rd o6.rn) (f_at b g addr 2).1 (f_addrCell addr) v hv) fun ac w N q28 F29 S up o30 d31 => ?_)
 refine WD.next S up (by kernel_rfl) ?_
 have d33 := Disj.w d31 o9.sub
 have d34 := Disj.w d31 o12.sub
 replace o9 := o9.up up
 replace o12 := o12.up up
 clear up d31
 refine S.hq 7 [7] [] [(36, .p 0 0)] .nil fun ac S => ?_
 refine S.sl 8 [] [] 2 [(0, [slv (f_withCell b.mem (f_at b g addr 2).1 (f_addrCell addr) v).length q28.1, slv b.guests.length q1.guests.1, slv b.outs.length q1.outs.1, I b.pend])] .nil fun ac w β S => ?_
 refine WD.done (by kernel_rfl) ?_ _
 refine S.ex fun S => ?_
 refine S.gr 9 .nil [GT.val (⟨(f_withCell b.mem (f_at b g addr 2).1 (f_addrCell addr) v), b.guests, b.outs, b.pend⟩ : TBare) (⟨q28, q1.guests, q1.outs⟩ : PBare), B true] fun ac w β S => ?_
 have o35 := ow_Bare (x := (⟨(f_withCell b.mem (f_at b g addr 2).1 (f_addrCell addr) v), b.guests, b.outs, b.pend⟩ : TBare)) (p := (⟨q28, q1.guests, q1.outs⟩ : PBare)) o30 o9 o12 (Disj.symm d33) (Disj.symm d34) d17 i14
 exact ret2_of (p' := ()) S (show (f_bareDma b g addr v).1 = (⟨(f_withCell b.mem (f_at b g addr 2).1 (f_addrCell addr) v), b.guests, b.outs, b.pend⟩ : TBare) from k0_spec_BareDma) (show (f_bareDma b g addr v).2 = true from k0_spec_BareDma) rfl rfl o35 trivial

theorem c_spec_DrawBareRead (w0 : World) (code : List TByte) (pcode : LP TByte) (hcode : RD w0 code pcode) (pre0 : code.length ≤ 1048576) : Calls Tryz.prog 10 [slv code.length pcode.1].toArray w0 (RetR3 w0 (fun (r1 : TBare) (r2 : Int) (r3 : Int) => True)) := by
 refine Calls.run NoB Tryz.func10 ?_
 intro ac β S
 have hlecode : code.length ≤ 4194304 := LRd.le hcode
 refine S.go 10 .nil fun ac w β S => S.KNw (d := 7) hcode (fun _ h => h) (c_spec_l01New w code pcode (S.rd (S.arg hcode)) (by omega)) fun ac w N b1 F2 S up oc3 d4 => ?_
 clear up d4
 refine S.go 6 .nil fun ac w β S => S.KQ1 (d := 9) oc3 (c_spec_l17Any w code pcode (Lt w0.heap.size) F2 (cap1 b1 () : LP TCur) (S.cu oc3)) fun ac w N x5 q6 F7 S h10 up o8 d9 oc3n => ?_
 have d11 := Disj.w d9 oc3.sub
 replace oc3 := oc3n
 clear up d9
 refine S.go 1 .nil fun ac w β S => S.KD1 (d := 11) oc3 (c_spec_l17At w code pcode (Lt w0.heap.size) F2 (cap1 b1 () : LP TCur) (S.cu oc3)) fun ac w N x12 q13 F14 S h17 up o15 d16 oc3n => ?_
 replace o8 := o8.upF (Disj.symm d11) up
 replace oc3 := oc3n
 clear up d16
 have i18 : In64 x12 := o15.own
 have l19 := i18.lo; have l20 := i18.hi
 refine S.go 1 .nil fun ac w β S => S.KD1 (d := 13) oc3 (c_spec_l20Addr w code pcode (Lt w0.heap.size) F2 (cap1 b1 () : LP TCur) (S.cu oc3)) fun ac w N x21 q22 F23 S h26 up o24 d25 oc3n => ?_
 replace o8 := o8.upF (Disj.symm d11) up
 replace oc3 := oc3n
 clear up d25
 have i27 : In64 x21 := o24.own
 have l28 := i27.lo; have l29 := i27.hi
 refine S.gr 6 .nil [GT.val x5 q6, I x12, I x21] fun ac w β S => ?_
 exact retR3_of (F2 := NoB) (p2 := ()) (F3 := NoB) (p3 := ()) S (show True by clear S; trivial) rfl rfl rfl o8 ⟨i18, fun _ h => False.elim h, fun _ h => False.elim h⟩ ⟨i27, fun _ h => False.elim h, fun _ h => False.elim h⟩ (fun b _ h => False.elim h) (fun b _ h => False.elim h) (fun b h _ => False.elim h)

theorem k0_impl_CellAt {p : Prop} (h : p := by clear S; (first | (unfold f_cellAt; rw [if_pos (by omega)]; done) | (unfold f_cellAt; rw [if_pos (by omega)]; first | rfl | (simp; done)) | (unfold f_cellAt; rw [if_neg (by omega)]; done) | (unfold f_cellAt; rw [if_neg (by omega)]; first | rfl | (simp; done)))) : p := h
theorem c_impl_CellAt (w0 : World) (m : List (List Int)) (pm : LP (List Int)) (hm : RD w0 m pm) (page : Int) (cell : Int) : Calls Tryz.prog 47 [slv m.length pm.1, I page, I cell].toArray w0 (fun e w' => e = .returned (I (f_cellAt m page cell)) ∧ Chg NoB w0 w') := by
 refine Calls.run NoB Tryz.func47 ?_
 intro ac β S
 have hlem : m.length ≤ 4194304 := LRd.le hm
 refine S.gb 14 (.cons (Q_call fun w hw => c_impl_has w page (m.length : Int) (by omega)) .nil) (!(f_within page 0 ((m.length : Int) - 1))) (fun ac w β h1 S => ?_) (fun ac w β h1 S => ?_)
 ·have h2 := not_t h1
  have g3 := within_f h2
  exact S.gf 18 .nil [I 0] (retI k0_impl_CellAt)
 have h4 := not_f h1
 have g5 := within_t h4
 have b6 : (el m page.toNat).length ≤ 4194304 := LRd.le (LRd.el (S.arg hm) page.toNat (by omega))
 refine S.gb 11 (.cons (qt (S.arg hm) page Tryz.underlying24) (.cons (qx (S.arg hm) 26 page.toNat) (.cons (Q_call fun w hw => c_impl_has w cell ((el m page.toNat).length : Int) (by omega)) .nil))) (!(f_within cell 0 (((el m page.toNat).length : Int) - 1))) (fun ac w β h7 S => ?_) (fun ac w β h7 S => ?_)
 ·have h8 := not_t h7
  have g9 := within_f h8
  exact S.gf 7 .nil [I 0] (retI k0_impl_CellAt)
 have h10 := not_f h7
 have g11 := within_t h10
 exact S.gf 16 (.cons (qt (S.arg hm) page Tryz.underlying24) (.cons (qx (S.arg hm) 26 page.toNat) (.cons (qt (LRd.el (S.arg hm) page.toNat (by omega)) cell Tryz.underlying26) (.cons (qx (LRd.el (S.arg hm) page.toNat (by omega)) 3 cell.toNat) .nil)))) [I (el (el m page.toNat) cell.toNat)] (retI k0_impl_CellAt)

theorem k0_impl_BareRead {p : Prop} (h : p := by clear S; (first | (rw [bread_noR (by assumption)]; done) | (rw [bread_yesR (by assumption)]; done))) : p := h
theorem c_impl_BareRead (w0 : World) (b : TBare) (pb : PBare) (hb : RD w0 b pb) (g : Int) (addr : Int) (haddr : In64 addr) : Calls Tryz.prog 11 [GT.val b pb, I g, I addr].toArray w0 (fun e w' => e = .returned (.tuple #[I (f_bareRead b g addr).1, B (f_bareRead b g addr).2]) ∧ Chg NoB w0 w') := by
 refine Calls.run NoB Tryz.func11 ?_
 intro ac β S
 have hleb_mem : b.mem.length ≤ 4194304 := LRd.le (RBare.mem (d := b) hb)
 have hleb_guests : b.guests.length ≤ 4194304 := LRd.le (RBare.guests (d := b) hb)
 have hleb_outs : b.outs.length ≤ 4194304 := LRd.le (RBare.outs (d := b) hb)
 have hloaddr := haddr.lo; have hhiaddr := haddr.hi
 refine S.gb 29 (.cons (Q_call fun w hw => c_impl_reach w b pb (rd_of (S.arg hb) hw) g addr haddr 1) .nil) (!(f_reach b g addr 1).2.2) (fun ac w β h1 S => ?_) (fun ac w β h1 S => ?_)
 ·have h2 := not_t h1
  exact S.gf 8 .nil [I 0, B false] (ret2v (eqI (show 0 = (f_bareRead b g addr).1 from k0_impl_BareRead)) (eqB (show false = (f_bareRead b g addr).2 from k0_impl_BareRead)))
 have h3 := not_f h1
 exact S.gf 15 (.cons (Q_call fun w hw => c_impl_CellAt w b.mem pb.mem (rd_of (RBare.mem (d := b) (S.arg hb)) hw) (f_reach b g addr 1).1 (f_reach b g addr 1).2.1) .nil) [I (f_cellAt b.mem (f_reach b g addr 1).1 (f_reach b g addr 1).2.1), B true] (ret2v (eqI (show (f_cellAt b.mem (f_reach b g addr 1).1 (f_reach b g addr 1).2.1) = (f_bareRead b g addr).1 from k0_impl_BareRead)) (eqB (show true = (f_bareRead b g addr).2 from k0_impl_BareRead)))

theorem k0_spec_CellAt {p : Prop} (h : p := by clear S; (first | (unfold f_cellAt; rw [if_pos (by omega)]; done) | (unfold f_cellAt; rw [if_pos (by omega)]; first | rfl | (simp; done)) | (unfold f_cellAt; rw [if_neg (by omega)]; done) | (unfold f_cellAt; rw [if_neg (by omega)]; first | rfl | (simp; done)))) : p := h
theorem c_spec_CellAt (w0 : World) (m : List (List Int)) (pm : LP (List Int)) (hm : RD w0 m pm) (page : Int) (cell : Int) : Calls Tryz.prog 18 [slv m.length pm.1, I page, I cell].toArray w0 (fun e w' => e = .returned (I (f_cellAt m page cell)) ∧ Chg NoB w0 w') := by
 refine Calls.run NoB Tryz.func18 ?_
 intro ac β S
 have hlem : m.length ≤ 4194304 := LRd.le hm
 refine S.gb 15 (.cons (Q_call fun w hw => c_spec_l04Has w m pm (rd_of (S.arg hm) hw) page cell) .nil) (!(f_hasCell m page cell)) (fun ac w β h1 S => ?_) (fun ac w β h1 S => ?_)
 ·have h2 := not_t h1
  have g3 := hasCell_f h2
  exact S.gf 7 .nil [I 0] (retI k0_spec_CellAt)
 have h4 := not_f h1
 have g5 := hasCell_t h4
 exact S.gf 16 (.cons (qt (S.arg hm) page Tryz.underlying24) (.cons (qx (S.arg hm) 26 page.toNat) (.cons (qt (LRd.el (S.arg hm) page.toNat (by omega)) cell Tryz.underlying26) (.cons (qx (LRd.el (S.arg hm) page.toNat (by omega)) 3 cell.toNat) .nil)))) [I (el (el m page.toNat) cell.toNat)] (retI k0_spec_CellAt)

theorem k0_spec_BareRead {p : Prop} (h : p := by clear S; (first | (rw [bread_no (by assumption)]; done) | (rw [bread_yes (by assumption)]; done))) : p := h
theorem c_spec_BareRead (w0 : World) (b : TBare) (pb : PBare) (hb : RD w0 b pb) (g : Int) (addr : Int) (haddr : In64 addr) : Calls Tryz.prog 12 [GT.val b pb, I g, I addr].toArray w0 (fun e w' => e = .returned (.tuple #[I (f_bareRead b g addr).1, B (f_bareRead b g addr).2]) ∧ Chg NoB w0 w') := by
 refine Calls.run NoB Tryz.func12 ?_
 intro ac β S
 have hleb_mem : b.mem.length ≤ 4194304 := LRd.le (RBare.mem (d := b) hb)
 have hleb_guests : b.guests.length ≤ 4194304 := LRd.le (RBare.guests (d := b) hb)
 have hleb_outs : b.outs.length ≤ 4194304 := LRd.le (RBare.outs (d := b) hb)
 have hloaddr := haddr.lo; have hhiaddr := haddr.hi
 refine S.gb 27 (.cons (Q_call fun w hw => c_spec_l20At w b pb (rd_of (S.arg hb) hw) g addr haddr 1) .nil) (!(f_at b g addr 1).2) (fun ac w β h1 S => ?_) (fun ac w β h1 S => ?_)
 ·have h2 := not_t h1
  exact S.gf 8 .nil [I 0, B false] (ret2v (eqI (show 0 = (f_bareRead b g addr).1 from k0_spec_BareRead)) (eqB (show false = (f_bareRead b g addr).2 from k0_spec_BareRead)))
 have h3 := not_f h1
 exact S.gf 7 (.cons (Q_call fun w hw => c_spec_AddrCell w addr haddr) (.cons (Q_call fun w hw => c_spec_CellAt w b.mem pb.mem (rd_of (RBare.mem (d := b) (S.arg hb)) hw) (f_at b g addr 1).1 (f_addrCell addr)) .nil)) [I (f_cellAt b.mem (f_at b g addr 1).1 (f_addrCell addr)), B true] (ret2v (eqI (show (f_cellAt b.mem (f_at b g addr 1).1 (f_addrCell addr)) = (f_bareRead b g addr).1 from k0_spec_BareRead)) (eqB (show true = (f_bareRead b g addr).2 from k0_spec_BareRead)))

theorem c_laws_sameInts (w0 : World) (a : List Int) (pa : LP Int) (ha : RD w0 a pa) (b : List Int) (pb : LP Int) (hb : RD w0 b pb) (pre0 : a = b) : Calls Tryz.prog 30 [slv a.length pa.1, slv b.length pb.1].toArray w0 (fun e w' => e = .returned (B true) ∧ Chg NoB w0 w') := by
 refine Calls.run NoB Tryz.func30 ?_
 intro ac β S
 have hln := congrArg List.length pre0
 have hlea : a.length ≤ 4194304 := LRd.le ha
 have hleb : b.length ≤ 4194304 := LRd.le hb
 refine S.gd 15 .nil ((a.length : Int) != (b.length : Int)) (fun ac w β h1 g2 S => ?_) (fun ac w β h1 g2 S => ?_)
 ·exfalso; clear S; (subst pre0; simp at h1)
 refine S.go 10 .nil fun ac w β S => ?_
 refine lp (fun mm ac w => ∃ (k : Nat)  (u : _) (N : _) (β : _), mm = a.length - k ∧ (k ≤ a.length) ∧ St Tryz.prog Tryz.f30.ntmps w0 NoB u N β ⟨[(0, .v (slv a.length pa.1)), (1, .v (slv b.length pb.1)), (5, .v (I (k : Int)))], []⟩ ac w) _ ⟨0, _, _, _, rfl, o0, S.z⟩ ?_
 clear S
 rintro f3 mm hf4 ac w ⟨k, u, N, β, rfl, hk, S⟩
 refine S.rs fun S => ?_
 refine S.gd 9 .nil (decide ((k : Int) < (a.length : Int))) (fun ac w β h5 g6 S => ?_) (fun ac w β h5 g6 S => ?_)
 ·refine S.gd 8 (.cons (qn (S.arg ha) k Tryz.underlying26) (.cons (qx (S.arg ha) 3 k) (.cons (qn (S.arg hb) k Tryz.underlying26) (.cons (qx (S.arg hb) 3 k) .nil)))) ((el a k) != (el b k)) (fun ac w β h7 g8 S => ?_) (fun ac w β h7 g8 S => ?_)
  ·exfalso; clear S; (subst pre0; simp at h7)
  refine S.ge 9 (.cons (qp (k : Int) 1) .nil) f3 fun ac w β S => hf4.of (a.length - (k + 1)) _ _ (by omega) ⟨k + 1, _, _, _, rfl, ?_, S.z⟩
  ·exact oz
 exact S.gf 12 .nil [B true] (retB (by clear S; first | rfl | (subst pre0; simp; done) | (exfalso; subst pre0; simp_all; done)))

theorem c_laws_sameLists (w0 : World) (a : List (List Int)) (pa : LP (List Int)) (ha : RD w0 a pa) (b : List (List Int)) (pb : LP (List Int)) (hb : RD w0 b pb) (pre0 : a = b) : Calls Tryz.prog 48 [slv a.length pa.1, slv b.length pb.1].toArray w0 (fun e w' => e = .returned (B true) ∧ Chg NoB w0 w') := by
 refine Calls.run NoB Tryz.func48 ?_
 intro ac β S
 have hln := congrArg List.length pre0
 have hlea : a.length ≤ 4194304 := LRd.le ha
 have hleb : b.length ≤ 4194304 := LRd.le hb
 refine S.gd 15 .nil ((a.length : Int) != (b.length : Int)) (fun ac w β h1 g2 S => ?_) (fun ac w β h1 g2 S => ?_)
 ·exfalso; clear S; (subst pre0; simp at h1)
 refine S.go 10 .nil fun ac w β S => ?_
 refine lp (fun mm ac w => ∃ (k : Nat)  (u : _) (N : _) (β : _), mm = a.length - k ∧ (k ≤ a.length) ∧ St Tryz.prog Tryz.f48.ntmps w0 NoB u N β ⟨[(0, .v (slv a.length pa.1)), (1, .v (slv b.length pb.1)), (5, .v (I (k : Int)))], []⟩ ac w) _ ⟨0, _, _, _, rfl, o0, S.z⟩ ?_
 clear S
 rintro f3 mm hf4 ac w ⟨k, u, N, β, rfl, hk, S⟩
 refine S.rs fun S => ?_
 refine S.gd 9 .nil (decide ((k : Int) < (a.length : Int))) (fun ac w β h5 g6 S => ?_) (fun ac w β h5 g6 S => ?_)
 ·refine S.ge 17 (.cons (qn (S.arg ha) k Tryz.underlying24) (.cons (qx (S.arg ha) 26 k) (.cons (qn (S.arg hb) k Tryz.underlying24) (.cons (qx (S.arg hb) 26 k) (.cons (Q_call fun w hw => c_laws_sameInts w (el a k) (pa.2 k) (rd_of (LRd.el (S.arg ha) k (by omega)) hw) (el b k) (pb.2 k) (rd_of (LRd.el (S.arg hb) k (by omega)) hw) (by (first | rfl | (rw [pre0]; done) | (subst_vars; rfl) | (subst_vars; exact dma_guests) | (subst_vars; exact bdma_f (by assumption))))) (.cons (qp (k : Int) 1) .nil)))))) f3 fun ac w β S => hf4.of (a.length - (k + 1)) _ _ (by omega) ⟨k + 1, _, _, _, rfl, ?_, S.z⟩
  ·exact oz
 exact S.gf 12 .nil [B true] (retB (by clear S; first | rfl | (subst pre0; simp; done) | (exfalso; subst pre0; simp_all; done)))

theorem c_laws_sameInss (w0 : World) (a : List TIns) (pa : LP TIns) (ha : RD w0 a pa) (b : List TIns) (pb : LP TIns) (hb : RD w0 b pb) (pre0 : a = b) : Calls Tryz.prog 113 [slv a.length pa.1, slv b.length pb.1].toArray w0 (fun e w' => e = .returned (B true) ∧ Chg NoB w0 w') := by
 refine Calls.run NoB Tryz.func113 ?_
 intro ac β S
 have hln := congrArg List.length pre0
 have hlea : a.length ≤ 4194304 := LRd.le ha
 have hleb : b.length ≤ 4194304 := LRd.le hb
 refine S.gd 15 .nil ((a.length : Int) != (b.length : Int)) (fun ac w β h1 g2 S => ?_) (fun ac w β h1 g2 S => ?_)
 ·exfalso; clear S; (subst pre0; simp at h1)
 refine S.go 10 .nil fun ac w β S => ?_
 refine lp (fun mm ac w => ∃ (k : Nat)  (u : _) (N : _) (β : _), mm = a.length - k ∧ (k ≤ a.length) ∧ St Tryz.prog Tryz.f113.ntmps w0 NoB u N β ⟨[(0, .v (slv a.length pa.1)), (1, .v (slv b.length pb.1)), (5, .v (I (k : Int)))], []⟩ ac w) _ ⟨0, _, _, _, rfl, o0, S.z⟩ ?_
 clear S
 rintro f3 mm hf4 ac w ⟨k, u, N, β, rfl, hk, S⟩
 refine S.rs fun S => ?_
 refine S.gd 9 .nil (decide ((k : Int) < (a.length : Int))) (fun ac w β h5 g6 S => ?_) (fun ac w β h5 g6 S => ?_)
 ·refine S.gb 8 (.cons (qn (S.arg ha) k Tryz.underlying41) (.cons (qs (S.arg ha) 40 k) (.cons (qn (S.arg hb) k Tryz.underlying41) (.cons (qs (S.arg hb) 40 k) (.cons (Eq_ne_Ins (t := 40) (el a k) (el b k) (by kernel_rfl)) .nil))))) (!decide ((el a k) = (el b k))) (fun ac w β h7 S => ?_) (fun ac w β h7 S => ?_)
  ·exact S.gf 7 .nil [B false] (retB (by clear S; first | rfl | (subst pre0; simp; done) | (exfalso; subst pre0; simp_all; done)))
  refine S.ge 9 (.cons (qp (k : Int) 1) .nil) f3 fun ac w β S => hf4.of (a.length - (k + 1)) _ _ (by omega) ⟨k + 1, _, _, _, rfl, ?_, S.z⟩
  ·exact oz
 exact S.gf 12 .nil [B true] (retB (by clear S; first | rfl | (subst pre0; simp; done) | (exfalso; subst pre0; simp_all; done)))

theorem c_laws_sameSlots (w0 : World) (a : List TSlot) (pa : LP TSlot) (ha : RD w0 a pa) (b : List TSlot) (pb : LP TSlot) (hb : RD w0 b pb) (pre0 : a = b) : Calls Tryz.prog 114 [slv a.length pa.1, slv b.length pb.1].toArray w0 (fun e w' => e = .returned (B true) ∧ Chg NoB w0 w') := by
 refine Calls.run NoB Tryz.func114 ?_
 intro ac β S
 have hln := congrArg List.length pre0
 have hlea : a.length ≤ 4194304 := LRd.le ha
 have hleb : b.length ≤ 4194304 := LRd.le hb
 refine S.gd 15 .nil ((a.length : Int) != (b.length : Int)) (fun ac w β h1 g2 S => ?_) (fun ac w β h1 g2 S => ?_)
 ·exfalso; clear S; (subst pre0; simp at h1)
 refine S.go 10 .nil fun ac w β S => ?_
 refine lp (fun mm ac w => ∃ (k : Nat)  (u : _) (N : _) (β : _), mm = a.length - k ∧ (k ≤ a.length) ∧ St Tryz.prog Tryz.f114.ntmps w0 NoB u N β ⟨[(0, .v (slv a.length pa.1)), (1, .v (slv b.length pb.1)), (5, .v (I (k : Int)))], []⟩ ac w) _ ⟨0, _, _, _, rfl, o0, S.z⟩ ?_
 clear S
 rintro f3 mm hf4 ac w ⟨k, u, N, β, rfl, hk, S⟩
 refine S.rs fun S => ?_
 refine S.gd 9 .nil (decide ((k : Int) < (a.length : Int))) (fun ac w β h5 g6 S => ?_) (fun ac w β h5 g6 S => ?_)
 ·refine S.gb 8 (.cons (qn (S.arg ha) k Tryz.underlying45) (.cons (qs (S.arg ha) 44 k) (.cons (qn (S.arg hb) k Tryz.underlying45) (.cons (qs (S.arg hb) 44 k) (.cons (Eq_ne_Slot (t := 44) (el a k) (el b k) (by kernel_rfl)) .nil))))) (!decide ((el a k) = (el b k))) (fun ac w β h7 S => ?_) (fun ac w β h7 S => ?_)
  ·exact S.gf 7 .nil [B false] (retB (by clear S; first | rfl | (subst pre0; simp; done) | (exfalso; subst pre0; simp_all; done)))
  refine S.ge 9 (.cons (qp (k : Int) 1) .nil) f3 fun ac w β S => hf4.of (a.length - (k + 1)) _ _ (by omega) ⟨k + 1, _, _, _, rfl, ?_, S.z⟩
  ·exact oz
 exact S.gf 12 .nil [B true] (retB (by clear S; first | rfl | (subst pre0; simp; done) | (exfalso; subst pre0; simp_all; done)))

theorem k0_laws_sameGuest {p : Prop} (h : p := by clear S; first | rfl | (subst pre0; simp; done) | (exfalso; subst pre0; simp_all; done)) : p := h
theorem c_laws_sameGuest (w0 : World) (a : TGuest) (pa : PGuest) (ha : RD w0 a pa) (b : TGuest) (pb : PGuest) (hb : RD w0 b pb) (pre0 : a = b) : Calls Tryz.prog 53 [GT.val a pa, GT.val b pb].toArray w0 (fun e w' => e = .returned (B true) ∧ Chg NoB w0 w') := by
 refine Calls.run NoB Tryz.func53 ?_
 intro ac β S
 have hlea_prog : a.prog.length ≤ 4194304 := LRd.le (RGuest.prog (d := a) ha)
 have hlea_written : a.written.length ≤ 4194304 := LRd.le (RGuest.written (d := a) ha)
 have hlea_live : a.live.length ≤ 4194304 := LRd.le (RGuest.live (d := a) ha)
 have hlea_seen : a.seen.length ≤ 4194304 := LRd.le (RGuest.seen (d := a) ha)
 have hleb_prog : b.prog.length ≤ 4194304 := LRd.le (RGuest.prog (d := b) hb)
 have hleb_written : b.written.length ≤ 4194304 := LRd.le (RGuest.written (d := b) hb)
 have hleb_live : b.live.length ≤ 4194304 := LRd.le (RGuest.live (d := b) hb)
 have hleb_seen : b.seen.length ≤ 4194304 := LRd.le (RGuest.seen (d := b) hb)
 refine S.gd 22 (.cons (Q_call fun w hw => c_laws_sameInss w a.prog pa.prog (rd_of (RGuest.prog (d := a) (S.arg ha)) hw) b.prog pb.prog (rd_of (RGuest.prog (d := b) (S.arg hb)) hw) (by (first | rfl | (rw [pre0]; done) | (subst_vars; rfl) | (subst_vars; exact dma_guests) | (subst_vars; exact bdma_f (by assumption))))) .nil) (a.acc == b.acc) (fun ac w β h1 g2 S => ?_) (fun ac w β h1 g2 S => ?_)
 ·refine S.gd 7 .nil (a.pc == b.pc) (fun ac w β h3 g4 S => ?_) (fun ac w β h3 g4 S => ?_)
  ·refine S.gb 21 (.cons (Q_call fun w hw => c_laws_sameSlots w a.written pa.written (rd_of (RGuest.written (d := a) (S.arg ha)) hw) b.written pb.written (rd_of (RGuest.written (d := b) (S.arg hb)) hw) (by (first | rfl | (rw [pre0]; done) | (subst_vars; rfl) | (subst_vars; exact dma_guests) | (subst_vars; exact bdma_f (by assumption))))) (.cons (Q_call fun w hw => c_laws_sameSlots w a.live pa.live (rd_of (RGuest.live (d := a) (S.arg ha)) hw) b.live pb.live (rd_of (RGuest.live (d := b) (S.arg hb)) hw) (by (first | rfl | (rw [pre0]; done) | (subst_vars; rfl) | (subst_vars; exact dma_guests) | (subst_vars; exact bdma_f (by assumption))))) (.cons (Eq_eq_Ctl (t := 47) a.ctl b.ctl (by kernel_rfl)) .nil))) (decide (a.ctl = b.ctl)) (fun ac w β h5 S => ?_) (fun ac w β h5 S => ?_)
   ·refine S.gd 7 .nil (a.pend == b.pend) (fun ac w β h6 g7 S => ?_) (fun ac w β h6 g7 S => ?_)
    ·refine S.gb 7 (.cons (Eq_eq_Exit (t := 49) a.exit b.exit (by kernel_rfl)) .nil) (decide (a.exit = b.exit)) (fun ac w β h8 S => ?_) (fun ac w β h8 S => ?_)
     ·refine S.gd 7 .nil (a.halted == b.halted) (fun ac w β h9 g10 S => ?_) (fun ac w β h9 g10 S => ?_)
      ·exact S.gf 10 (.cons (Q_call fun w hw => c_laws_sameInts w a.seen pa.seen (rd_of (RGuest.seen (d := a) (S.arg ha)) hw) b.seen pb.seen (rd_of (RGuest.seen (d := b) (S.arg hb)) hw) (by (first | rfl | (rw [pre0]; done) | (subst_vars; rfl) | (subst_vars; exact dma_guests) | (subst_vars; exact bdma_f (by assumption))))) .nil) [B true] (retB k0_laws_sameGuest)
      exfalso; clear S; (subst pre0; simp at h9)
     exact S.gf 17 .nil [B false] (retB k0_laws_sameGuest)
    exfalso; clear S; (subst pre0; simp at h6)
   exact S.gf 31 .nil [B false] (retB k0_laws_sameGuest)
  exfalso; clear S; (subst pre0; simp at h3)
 exfalso; clear S; (subst pre0; simp at h1)

theorem c_laws_sameGuests (w0 : World) (a : List TGuest) (pa : LP TGuest) (ha : RD w0 a pa) (b : List TGuest) (pb : LP TGuest) (hb : RD w0 b pb) (pre0 : a = b) : Calls Tryz.prog 17 [slv a.length pa.1, slv b.length pb.1].toArray w0 (fun e w' => e = .returned (B true) ∧ Chg NoB w0 w') := by
 refine Calls.run NoB Tryz.func17 ?_
 intro ac β S
 have hln := congrArg List.length pre0
 have hlea : a.length ≤ 4194304 := LRd.le ha
 have hleb : b.length ≤ 4194304 := LRd.le hb
 refine S.gd 15 .nil ((a.length : Int) != (b.length : Int)) (fun ac w β h1 g2 S => ?_) (fun ac w β h1 g2 S => ?_)
 ·exfalso; clear S; (subst pre0; simp at h1)
 refine S.go 10 .nil fun ac w β S => ?_
 refine lp (fun mm ac w => ∃ (k : Nat)  (u : _) (N : _) (β : _), mm = a.length - k ∧ (k ≤ a.length) ∧ St Tryz.prog Tryz.f17.ntmps w0 NoB u N β ⟨[(0, .v (slv a.length pa.1)), (1, .v (slv b.length pb.1)), (5, .v (I (k : Int)))], []⟩ ac w) _ ⟨0, _, _, _, rfl, o0, S.z⟩ ?_
 clear S
 rintro f3 mm hf4 ac w ⟨k, u, N, β, rfl, hk, S⟩
 refine S.rs fun S => ?_
 refine S.gd 9 .nil (decide ((k : Int) < (a.length : Int))) (fun ac w β h5 g6 S => ?_) (fun ac w β h5 g6 S => ?_)
 ·refine S.ge 17 (.cons (qn (S.arg ha) k Tryz.underlying25) (.cons (qs (S.arg ha) 51 k) (.cons (qn (S.arg hb) k Tryz.underlying25) (.cons (qs (S.arg hb) 51 k) (.cons (Q_call fun w hw => c_laws_sameGuest w (el a k) (pa.2 k) (rd_of (LRd.el (S.arg ha) k (by omega)) hw) (el b k) (pb.2 k) (rd_of (LRd.el (S.arg hb) k (by omega)) hw) (by (first | rfl | (rw [pre0]; done) | (subst_vars; rfl) | (subst_vars; exact dma_guests) | (subst_vars; exact bdma_f (by assumption))))) (.cons (qp (k : Int) 1) .nil)))))) f3 fun ac w β S => hf4.of (a.length - (k + 1)) _ _ (by omega) ⟨k + 1, _, _, _, rfl, ?_, S.z⟩
  ·exact oz
 exact S.gf 12 .nil [B true] (retB (by clear S; first | rfl | (subst pre0; simp; done) | (exfalso; subst pre0; simp_all; done)))

theorem c_laws_sameBare (w0 : World) (a : TBare) (pa : PBare) (ha : RD w0 a pa) (b : TBare) (pb : PBare) (hb : RD w0 b pb) (pre0 : a = b) : Calls Tryz.prog 13 [GT.val a pa, GT.val b pb].toArray w0 (fun e w' => e = .returned (B true) ∧ Chg NoB w0 w') := by
 refine Calls.run NoB Tryz.func13 ?_
 intro ac β S
 have hlea_mem : a.mem.length ≤ 4194304 := LRd.le (RBare.mem (d := a) ha)
 have hlea_guests : a.guests.length ≤ 4194304 := LRd.le (RBare.guests (d := a) ha)
 have hlea_outs : a.outs.length ≤ 4194304 := LRd.le (RBare.outs (d := a) ha)
 have hleb_mem : b.mem.length ≤ 4194304 := LRd.le (RBare.mem (d := b) hb)
 have hleb_guests : b.guests.length ≤ 4194304 := LRd.le (RBare.guests (d := b) hb)
 have hleb_outs : b.outs.length ≤ 4194304 := LRd.le (RBare.outs (d := b) hb)
 exact S.gf 39 (.cons (Q_call fun w hw => c_laws_sameLists w a.mem pa.mem (rd_of (RBare.mem (d := a) (S.arg ha)) hw) b.mem pb.mem (rd_of (RBare.mem (d := b) (S.arg hb)) hw) (by (first | rfl | (rw [pre0]; done) | (subst_vars; rfl) | (subst_vars; exact dma_guests) | (subst_vars; exact bdma_f (by assumption))))) (.cons (Q_call fun w hw => c_laws_sameGuests w a.guests pa.guests (rd_of (RBare.guests (d := a) (S.arg ha)) hw) b.guests pb.guests (rd_of (RBare.guests (d := b) (S.arg hb)) hw) (by (first | rfl | (rw [pre0]; done) | (subst_vars; rfl) | (subst_vars; exact dma_guests) | (subst_vars; exact bdma_f (by assumption))))) (.cons (Q_call fun w hw => c_laws_sameInts w a.outs pa.outs (rd_of (RBare.outs (d := a) (S.arg ha)) hw) b.outs pb.outs (rd_of (RBare.outs (d := b) (S.arg hb)) hw) (by (first | rfl | (rw [pre0]; done) | (subst_vars; rfl) | (subst_vars; exact dma_guests) | (subst_vars; exact bdma_f (by assumption))))) .nil))) [B (a.pend == b.pend)] (retB (by clear S; first | rfl | (subst pre0; simp; done) | (exfalso; subst pre0; simp_all; done)))

theorem c_spec_MemNew (w0 : World) (n : Int) : Calls Tryz.prog 49 [I n].toArray w0 (Ret1 NoB w0 ((List.replicate (f_brought n 0 24).toNat (List.replicate 4 (0 : Int))) : List (List Int))) := by
 refine Calls.run NoB Tryz.func49 ?_
 intro ac β S
 refine S.go 7 .nil fun ac w β S => S.B0 (α := List Int) (d := 5) fun ac w N q1 F2 S up o3 d4 => ?_
 clear up d4
 refine S.go 12 (.cons (Q_call fun w hw => c_spec_Brought w n 0 24) .nil) fun ac w β S => ?_
 refine lp (fun mm ac w => ∃ (i : Int) (acc : List (List Int)) (q5 : _) (F6 : _) (u : _) (N : _) (β : _), mm = i.toNat ∧ (0 ≤ i ∧ i ≤ f_brought n 0 24) ∧ (acc = List.replicate (f_brought n 0 24 - i).toNat (List.replicate 4 0)) ∧ St Tryz.prog Tryz.f49.ntmps w0 NoB u N β ⟨[(3, .v (slv acc.length q5.1)), (4, .v (I i))], []⟩ ac w ∧ Ow w0 NoB u N F6 acc q5) _ ⟨(f_brought n 0 24), ([] : List (List Int)), q1, F2, _, _, _, rfl, (by (have hb := brought_bd n); omega), (by (rw [show (f_brought n 0 24 - f_brought n 0 24).toNat = 0 by omega]; rfl)), S.z, o3⟩ ?_
 clear S o3
 rintro f8 mm hf9 ac w ⟨i, acc, q5, F6, u, N, β, rfl, hi, hacc, S, o7⟩
 refine S.rs fun S => ?_
 have hb := brought_bd n
 have hlacc : acc.length ≤ 24 := by rw [hacc, List.length_replicate]; omega
 refine S.gd 7 .nil (decide (i > 0)) (fun ac w β h10 g11 S => ?_) (fun ac w β h10 g11 S => ?_)
 ·refine S.go 7 .nil fun ac w β S => S.Mk (α := Int) (m := 4) (by' := 8) (d := 13) (by omega) (show 4 ≤ 4194304 by omega) fun ac w N q12 F13 S up o14 d15 => ?_
  have d16 := Disj.w d15 o7.sub
  replace o7 := o7.up up
  clear up d15
  refine S.B1 (α := List Int) (x := (List.replicate 4 (GT.dflt : Int))) (p := q12) o14.own o14.sub o14.young (d := 14) fun ac w N q17 F18 S up o19 d20 => ?_
  have d21 := d20 _ d16 o7.sub
  replace o7 := o7.up up
  clear up d20
  refine S.AO (α := List Int) o7 o19 d21 (by' := 24) (d := 15) (lx := acc.length) (ly := 1) rfl rfl (show _ ≤ 4194304 by simp only [List.length_append, List.length_cons, List.length_nil]; omega) fun ac w N q22 F23 S up o24 d25 => ?_
  clear up d25
  refine S.ge 9 (.cons (qm i 1) .nil) f8 fun ac w β S => hf9.of (i - 1).toNat _ _ (by omega) ⟨(i - 1), (acc ++ [(List.replicate 4 (GT.dflt : Int))]), q22, F23, _, _, _, rfl, ?_, ?_, S.z, o24⟩
  ·clear S; omega
  ·clear S; (rw [hacc]; exact (repl_next (by omega)).symm)
 refine S.gr 13 .nil [slv acc.length q5.1] fun ac w β S => ?_
 exact ret1_of S (show (List.replicate (f_brought n 0 24).toNat (List.replicate 4 (0 : Int))) = acc by clear S; (rw [hacc, show i = 0 by omega, Int.sub_zero])) rfl o7

theorem c_spec_BareNew (w0 : World) (progs : List (List TIns)) (pprogs : LP (List TIns)) (hprogs : RD w0 progs pprogs) : Calls Tryz.prog 14 [slv progs.length pprogs.1].toArray w0 (Ret1 NoB w0 (f_bareNew progs : TBare)) := by
 refine Calls.run NoB Tryz.func14 ?_
 intro ac β S
 have hleprogs : progs.length ≤ 4194304 := LRd.le hprogs
 refine S.go 7 .nil fun ac w β S => S.K1 (r := (List.replicate (f_brought 8 0 24).toNat (List.replicate 4 (0 : Int)))) (d := 5) (c_spec_MemNew w 8) fun ac w N q1 F2 S up o3 d4 => ?_
 clear up d4
 refine S.go 12 (.cons (Q_sem (s := Instr.build 28 [(0, slv (List.replicate (f_brought 8 0 24).toNat (List.replicate 4 (0 : Int))).length q1.1)].toArray) (v := .agg [slv (List.replicate (f_brought 8 0 24).toNat (List.replicate 4 (0 : Int))).length q1.1, slv ([] : List TGuest).length (GT.pdflt (α := List TGuest)).1, slv ([] : List Int).length (GT.pdflt (α := List Int)).1, I 0].toArray) (fun w => by kernel_rfl)) .nil) fun ac w β S => ?_
 have o8 := S.nilOw (α := TGuest)
 refine lp (fun mm ac w => ∃ (k : Nat) (gs : List TGuest) (q5 : _) (F6 : _) (u : _) (N : _) (β : _), mm = progs.length - k ∧ (k ≤ progs.length) ∧ (k ≤ 2) ∧ (gs = ((progs.take 2).take k).map f_guestNew) ∧ St Tryz.prog Tryz.f14.ntmps w0 NoB u N β ⟨[(0, .v (slv progs.length pprogs.1)), (2, .p 0 0), (3, .p 1 0), (4, .v (I (k : Int)))], [Zc TBare, [slv (List.replicate (f_brought 8 0 24).toNat (List.replicate 4 (0 : Int))).length q1.1, slv gs.length q5.1, slv ([] : List Int).length (GT.pdflt (α := List Int)).1, I 0]]⟩ ac w ∧ Ow w0 NoB u N F6 gs q5 ∧ Ow w0 NoB u N F2 (List.replicate (f_brought 8 0 24).toNat (List.replicate 4 (0 : Int))) q1 ∧ Disj F6 F2) _ ⟨0, ([] : List TGuest), (GT.pdflt (α := List TGuest)), NoB, _, _, _, rfl, o0, o0, (by rfl), S.z, o8, o3, (Disj.symm (fun b _ h => False.elim h))⟩ ?_
 clear S o3 o8
 rintro f10 mm hf11 ac w ⟨k, gs, q5, F6, u, N, β, rfl, hk, hkm, hgs, S, o7, o3, d9⟩
 refine S.rs fun S => ?_
 have hlgs : gs.length ≤ 2 := by rw [hgs, List.length_map, List.length_take]; omega
 refine S.gd 8 .nil (decide ((k : Int) < (progs.length : Int))) (fun ac w β h12 g13 S => ?_) (fun ac w β h12 g13 S => ?_)
 ·refine S.gd 5 .nil (decide ((k : Int) < 2)) (fun ac w β h14 g15 S => ?_) (fun ac w β h14 g15 S => ?_)
  ·refine S.go 5 .nil fun ac w β S => ?_
   refine drw ?_
   refine S.draw0 (f := 11) 8 (by kernel_rfl) (by kernel_rfl) fun w S => ?_
   refine S.hq 0 [1, 0] [] [(17, .p 1 1)] .nil fun ac S => ?_
   refine S.hq 1 [1] [] [(18, .v (slv gs.length q5.1))] .nil fun ac S => ?_
   refine S.hq 2 [6, 5, 4, 2] [] [(19, .v (slv progs.length pprogs.1))] .nil fun ac S => ?_
   refine S.hq 3 [6, 5, 4, 3] [] [(20, .v (I (k : Int)))] .nil fun ac S => ?_
   refine S.hq 4 [6, 5, 4] [] [(21, .v (pt pprogs.1.b (pprogs.1.off + k * 1)))] (.cons (qn (S.arg hprogs) k Tryz.underlying42) .nil) fun ac S => ?_
   refine S.hq 5 [6, 5] [] [(22, .v (slv (el progs k).length (pprogs.2 k).1))] (.cons (qx (S.arg hprogs) 41 k) .nil) fun ac S => ?_
   refine WD.one (i := 6) (by kernel_rfl) ?_
   refine id (S.k1 23 (c_spec_GuestNew w (el progs k) (pprogs.2 k) (S.rd (LRd.el (S.arg hprogs) k (by omega)))) fun ac w N q16 F17 S up o18 d19 => ?_)
   refine WD.next S up (by kernel_rfl) ?_
   have d20 := Disj.w d19 o7.sub
   have d21 := Disj.w d19 o3.sub
   replace o7 := o7.up up
   replace o3 := o3.up up
   clear up d19
   refine WD.one (i := 7) (by kernel_rfl) ?_
   refine id (S.bs1 (α := TGuest) (x := (f_guestNew (el progs k))) (p := q16) o18.own o18.sub o18.young (d := 24) (by kernel_rfl) fun ac w N q22 F23 S up o24 d25 => ?_)
   refine WD.next S up (by kernel_rfl) ?_
   have d26 := d25 _ d20 o7.sub
   have d27 := d25 _ d21 o3.sub
   replace o7 := o7.up up
   replace o3 := o3.up up
   clear up d25
   refine WD.one (i := 8) (by kernel_rfl) ?_
   refine id (S.appOwn (α := TGuest) o7 o24 d26 (by' := 184) (d := 25) (lx := gs.length) (ly := 1) rfl rfl (by kernel_rfl) (show _ ≤ 4194304 by simp only [List.length_append, List.length_cons, List.length_nil]; omega) fun ac w N q28 F29 S up o30 d31 => ?_)
   refine WD.last (by kernel_rfl) ?_
   have d32 := d31 _ (Disj.symm d9) d27 o3.sub
   replace o3 := o3.upF (Disj.symm d9) up
   clear up d31
   refine S.sl 9 [] [(26, .p 1 1)] 2 [] .nil fun ac w β S => ?_
   refine S.sl 10 [] [] 2 [(1, [slv (List.replicate (f_brought 8 0 24).toNat (List.replicate 4 (0 : Int))).length q1.1, slv (gs ++ [(f_guestNew (el progs k))]).length q28.1, slv ([] : List Int).length (GT.pdflt (α := List Int)).1, I 0])] .nil fun ac w β S => ?_
   refine WD.done (by kernel_rfl) ?_ _
   refine S.ex fun S => ?_
   refine S.ge 7 (.cons (qp (k : Int) 1) .nil) f10 fun ac w β S => hf11.of (progs.length - (k + 1)) _ _ (by omega) ⟨k + 1, (gs ++ [(f_guestNew (el progs k))]), q28, F29, _, _, _, rfl, ?_, ?_, ?_, S.z, o30, o3, (Disj.symm d32)⟩
   ·exact oz
   ·exact oz
   ·clear S; (first | (rw [map_take_step (by omega) (by omega), ← hgs]; done) | (rw [map_take_step (by omega) (by omega), ← hgs, el_take (by omega)]))
  refine S.gr 13 .nil [GT.val (⟨(List.replicate (f_brought 8 0 24).toNat (List.replicate 4 (0 : Int))), gs, ([] : List Int), 0⟩ : TBare) (⟨q1, q5, (GT.pdflt (α := List Int))⟩ : PBare)] fun ac w β S => ?_
  have o33 := S.nilOw (α := Int)
  have o34 := ow_Bare (x := (⟨(List.replicate (f_brought 8 0 24).toNat (List.replicate 4 (0 : Int))), gs, ([] : List Int), 0⟩ : TBare)) (p := (⟨q1, q5, (GT.pdflt (α := List Int))⟩ : PBare)) o3 o7 o33 (Disj.symm d9) (fun b _ h => False.elim h) (fun b _ h => False.elim h) (show In64 0 from ⟨by decide, by decide⟩)
  exact ret1_of S (show f_bareNew progs = (⟨(List.replicate (f_brought 8 0 24).toNat (List.replicate 4 (0 : Int))), gs, ([] : List Int), 0⟩ : TBare) by clear S; (rw [hgs, map_take_end (by omega)]; rfl)) rfl o34
 refine S.gr 18 .nil [GT.val (⟨(List.replicate (f_brought 8 0 24).toNat (List.replicate 4 (0 : Int))), gs, ([] : List Int), 0⟩ : TBare) (⟨q1, q5, (GT.pdflt (α := List Int))⟩ : PBare)] fun ac w β S => ?_
 have o35 := S.nilOw (α := Int)
 have o36 := ow_Bare (x := (⟨(List.replicate (f_brought 8 0 24).toNat (List.replicate 4 (0 : Int))), gs, ([] : List Int), 0⟩ : TBare)) (p := (⟨q1, q5, (GT.pdflt (α := List Int))⟩ : PBare)) o3 o7 o35 (Disj.symm d9) (fun b _ h => False.elim h) (fun b _ h => False.elim h) (show In64 0 from ⟨by decide, by decide⟩)
 exact ret1_of S (show f_bareNew progs = (⟨(List.replicate (f_brought 8 0 24).toNat (List.replicate 4 (0 : Int))), gs, ([] : List Int), 0⟩ : TBare) by clear S; (rw [hgs, map_take_end (by omega)]; rfl)) rfl o36

end Go.Proofs.YtgonaioedbphgaaGreat
namespace Go.Proofs.YtgonaioedbphgaaGreat
open Go
set_option linter.unusedVariables false
set_option linter.unusedSimpArgs false
set_option maxRecDepth 100000
set_option maxHeartbeats 2000000

theorem k0_laws_FnDevice {p : Prop} (h : p := by clear S; first | rfl | (rw [show Y3 = f_bareDma dev_one 0 5 42 from hT3, dev_did.2.2]; rfl)) : p := h
theorem c_laws_FnDevice (w0 : World) (code : List TByte) (pcode : LP TByte) (hcode : GT.rd KR (Lt w0.heap.size) w0 code pcode) : Calls Tryz.prog 3 [slv code.length pcode.1].toArray w0 (fun e w' => e = .returned (B true) ∧ Chg NoB w0 w') := by
 refine Calls.run NoB Tryz.func3 ?_
 intro ac β S
 have hn1 : (f_bareNew ([[(⟨7, 0⟩ : TIns)]])).guests.length = 1 := rfl
 have hn2 : (el (f_bareNew ([[(⟨7, 0⟩ : TIns)]])).guests 0).live.length = 4 := rfl
 have hlecode : code.length ≤ 9223372036854775807 := LRd.le hcode
 refine S.gb 12 (.cons (Q_call fun w hw => c_laws_big w code pcode (rd_of (S.arg hcode) hw)) .nil) (decide (((code.length : Nat) : Int) > 1048576)) (fun ac w β h1 S => ?_) (fun ac w β h1 S => ?_)
 ·exact S.gf 7 .nil [B true] (retB k0_laws_FnDevice)
 have hcl : code.length ≤ 1048576 := by have hx := of_decide_eq_false h1; omega
 have hkcode : RD w0 code pcode := cutB hcode hcl
 refine S.go 6 .nil fun ac w β S => S.KR4 (d := 31) (c_spec_DrawBareDma w code pcode (S.rd (S.arg hkcode)) (by omega)) fun ac w N x2 q6 F10 x3 q7 F11 x4 q8 F12 x5 q9 F13 S h22 up o14 o15 o16 o17 d18 d19 d20 d21 d23 d24 d25 d26 d27 d28 => ?_
 clear up d18 d19 d20 d21
 have i29 : In64 x3 := o15.rd
 have l30 := i29.lo; have l31 := i29.hi
 have i32 : In64 x4 := o16.rd
 have l33 := i32.lo; have l34 := i32.hi
 have i35 : In64 x5 := o17.rd
 have l36 := i35.lo; have l37 := i35.hi
 obtain ⟨Y1, hT1⟩ : ∃ z, z = f_bareDma x2 x3 x4 x5 := ⟨_, rfl⟩
 refine S.go 18 .nil fun ac w β S => S.K2 (r := Y1.1) (r' := Y1.2) (d := 41) (by rw [hT1]; exact c_impl_BareDma w x2 q6 (S.rd o14.rn) x3 x4 i32 x5 i35) fun ac w N q38 q39 F40 F41 S up o42 o43 d44 d45 d46 => ?_
 replace o14 := o14.up up
 clear up d44
 clear d45
 have i58 : In64 Y1.1.pend := RBare.pend (d := Y1.1) o42.rn
 obtain ⟨F49, F52, F55, o50, o53, o56, _, _, _, _, _, _⟩ := sp_Bare o42
 obtain ⟨Y2, hT2⟩ : ∃ z, z = f_bareDma x2 x3 x4 x5 := ⟨_, rfl⟩
 refine S.go 14 .nil fun ac w β S => S.K2 (r := Y2.1) (r' := Y2.2) (d := 49) (by rw [hT2]; exact c_spec_BareDma w x2 q6 (S.rd o14.rn) x3 x4 i32 x5 i35) fun ac w N q62 q63 F64 F65 S up o66 o67 d68 d69 d70 => ?_
 replace o14 := o14.up up
 replace o50 := o50.up up
 replace o53 := o53.up up
 replace o56 := o56.up up
 clear up d68
 clear d69
 have i88 : In64 Y2.1.pend := RBare.pend (d := Y2.1) o66.rn
 obtain ⟨F79, F82, F85, o80, o83, o86, _, _, _, _, _, _⟩ := sp_Bare o66
 refine S.go 11 .nil fun ac w β S => S.KR3 (d := 54) (c_spec_DrawBareRead w code pcode (S.rd (S.arg hkcode)) (by omega)) fun ac w N x92 q95 F98 x93 q96 F99 x94 q97 F100 S h107 up o101 o102 o103 d104 d105 d106 d108 d109 d110 => ?_
 replace o14 := o14.up up
 replace o50 := o50.up up
 replace o53 := o53.up up
 replace o56 := o56.up up
 replace o80 := o80.up up
 replace o83 := o83.up up
 replace o86 := o86.up up
 clear up d104 d105 d106
 have i118 : In64 x93 := o102.rd
 have l119 := i118.lo; have l120 := i118.hi
 have i121 : In64 x94 := o103.rd
 have l122 := i121.lo; have l123 := i121.hi
 refine S.gb 43 (.cons (Q_call fun w hw => c_impl_BareRead w x92 q95 (rd_of o101.rn hw) x93 x94 i121) (.cons (Q_call fun w hw => c_spec_BareRead w x92 q95 (rd_of o101.rn hw) x93 x94 i121) .nil)) (!(Y1.2 == Y2.2)) (fun ac w β h124 S => ?_) (fun ac w β h124 S => ?_)
 ·exfalso; clear S; (subst_vars; simp at h124)
 have h125 := not_f h124
 have g126 : Y1.2 = Y2.2 := eq_of_beq h125
 refine S.gd 11 (.cons (Q_call fun w hw => c_laws_sameBare w Y1.1 q38 (rd_of (show GT.rd KK _ _ Y1.1 q38 from ⟨o50.rn, o53.rn, o56.rn, i58⟩) hw) Y2.1 q62 (rd_of (show GT.rd KK _ _ Y2.1 q62 from ⟨o80.rn, o83.rn, o86.rn, i88⟩) hw) (by first | (subst_vars; rfl) | (rw [hT1]; exact bdma_f (by first | assumption | (rw [← hT1]; assumption))))) .nil) ((f_bareRead x92 x93 x94).1 != (f_bareRead x92 x93 x94).1) (fun ac w β h127 g128 S => ?_) (fun ac w β h127 g128 S => ?_)
 ·exact absurd h127 (by simp)
 refine S.gb 6 .nil (!((f_bareRead x92 x93 x94).2 == (f_bareRead x92 x93 x94).2)) (fun ac w β h129 S => ?_) (fun ac w β h129 S => ?_)
 ·exact absurd h129 (by simp)
 have h130 := not_f h129
 have g131 : (f_bareRead x92 x93 x94).2 = (f_bareRead x92 x93 x94).2 := eq_of_beq h130
 refine S.go 6 (.cons (Q_sem (s := Instr.build 40 [(0, I 7)].toArray) (v := .agg [I 7, I 0].toArray) (fun w => by kernel_rfl)) .nil) fun ac w β S => S.B1 (α := TIns) (x := (⟨7, 0⟩ : TIns)) (p := ()) (F := NoB) (show RIns (⟨7, 0⟩ : TIns) from ⟨(show In64 7 from ⟨by decide, by decide⟩), (show In64 0 from ⟨by decide, by decide⟩)⟩) (fun b h => False.elim h) (fun b h => False.elim h) (d := 92) fun ac w N q132 F133 S up o134 d135 => ?_
 replace o14 := o14.up up
 replace o50 := o50.up up
 replace o53 := o53.up up
 replace o56 := o56.up up
 clear up d135
 refine S.B1 (α := List TIns) (x := [(⟨7, 0⟩ : TIns)]) (p := q132) o134.own o134.sub o134.young (d := 93) fun ac w N q140 F141 S up o142 d143 => ?_
 replace o14 := o14.up up
 replace o50 := o50.up up
 replace o53 := o53.up up
 replace o56 := o56.up up
 clear up d143
 refine S.K1 (r := f_bareNew ([[(⟨7, 0⟩ : TIns)]])) (d := 94) (c_spec_BareNew w ([[(⟨7, 0⟩ : TIns)]]) q140 (S.rd o142.rn)) fun ac w N q148 F149 S up o150 d151 => ?_
 have d152 := Disj.w d151 o14.sub
 have d153 := Disj.w d151 o50.sub
 have d154 := Disj.w d151 o53.sub
 have d155 := Disj.w d151 o56.sub
 replace o14 := o14.up up
 replace o50 := o50.up up
 replace o53 := o53.up up
 replace o56 := o56.up up
 clear up d151
 have i166 : In64 (f_bareNew ([[(⟨7, 0⟩ : TIns)]])).pend := RBare.pend (d := (f_bareNew ([[(⟨7, 0⟩ : TIns)]]))) o150.rn
 obtain ⟨F157, F160, F163, o158, o161, o164, _, s162, _, d167, _, d169⟩ := sp_Bare o150
 obtain ⟨F170, o171, s172, b173⟩ := foc2_Guest_live o161 (k := 0) (show 0 < (f_bareNew ([[(⟨7, 0⟩ : TIns)]])).guests.length by omega)
 have l174 := LRd.le o171.rn
 have n175 := o171.sub
 have e176 : RSlot (el (el (f_bareNew ([[(⟨7, 0⟩ : TIns)]])).guests 0).live 1) := (LRd.el o171.rn 1 (by omega))
 refine S.go 13 (.cons (qn o161.rn 0 Tryz.underlying25) (.cons (qc o161.rn 45 0 4 (slv (el (f_bareNew ([[(⟨7, 0⟩ : TIns)]])).guests 0).live.length (q148.guests.2 0).live.1)) (.cons (Q_sem (s := Instr.build 44 [(0, I 6), (1, I 3)].toArray) (v := .agg [I 6, I 3].toArray) (fun w => by kernel_rfl)) (.cons (qn (RGuest.live (d := (el (f_bareNew ([[(⟨7, 0⟩ : TIns)]])).guests 0)) (LRd.el o161.rn 0 (by omega))) 1 Tryz.underlying45) .nil)))) fun ac w β S => S.SF (α := TSlot) o171 (t := 44) (k := 1) (j := 0) (off := (q148.guests.2 0).live.1.off + 1 * 2) (v := GT.val (⟨6, 3⟩ : TSlot) ()) (y := (⟨6, 3⟩ : TSlot)) (q := ()) (fun _ _ _ => ⟨NoB, (show RSlot (⟨6, 3⟩ : TSlot) from ⟨(show In64 6 from ⟨by decide, by decide⟩), (show In64 3 from ⟨by decide, by decide⟩)⟩), fun _ h => False.elim h⟩) fun w N F178 q179 S up o177 d180 s181 n182 => ?_
 replace o14 := o14.upF (Disj.symm (Disj.part (Disj.part (Disj.symm d152) s162) s172)) up
 replace o50 := o50.upF (Disj.symm (Disj.part (Disj.part (Disj.symm d153) s162) s172)) up
 replace o53 := o53.upF (Disj.symm (Disj.part (Disj.part (Disj.symm d154) s162) s172)) up
 replace o56 := o56.upF (Disj.symm (Disj.part (Disj.part (Disj.symm d155) s162) s172)) up
 replace o158 := o158.upF (Disj.symm (Disj.part (Disj.symm d167) s172)) up
 replace o164 := o164.upF (Disj.symm (Disj.part d169 s172)) up
 clear d180 o171
 obtain ⟨p189, o190, c191⟩ := b173 _ _ _ _ _ NoB up o177 s181 (fun b _ h => False.elim h) (by show [slv _ _] = [slv _ _]; rw [List.length_set]) (fun b h => n182 b (n175 b h))
 clear up o177 n182
 have l192 : ((f_bareNew ([[(⟨7, 0⟩ : TIns)]])).guests.set 0 ({ el (f_bareNew ([[(⟨7, 0⟩ : TIns)]])).guests 0 with live := ((el (f_bareNew ([[(⟨7, 0⟩ : TIns)]])).guests 0).live.set 1 (⟨6, 3⟩ : TSlot)) })).length = (f_bareNew ([[(⟨7, 0⟩ : TIns)]])).guests.length := List.length_set
 replace S := S.z (σ' := ⟨[(3, .p 0 0), (4, .v (I x3)), (5, .v (I x4)), (6, .v (I x5)), (7, .p 1 0), (8, .v (B Y1.2)), (18, .p 4 0), (100, .v (GT.val (⟨6, 3⟩ : TSlot) ())), (101, .v (pt (q148.guests.2 0).live.1.b ((q148.guests.2 0).live.1.off + 1 * 2)))], [GT.cells x2 q6, [slv Y1.1.mem.length q38.mem.1, slv Y1.1.guests.length q38.guests.1, slv Y1.1.outs.length q38.outs.1, I Y1.1.pend], [slv Y2.1.mem.length q62.mem.1, slv Y2.1.guests.length q62.guests.1, slv Y2.1.outs.length q62.outs.1, I Y2.1.pend], GT.cells x92 q95, [slv (f_bareNew ([[(⟨7, 0⟩ : TIns)]])).mem.length q148.mem.1, slv (f_bareNew ([[(⟨7, 0⟩ : TIns)]])).guests.length q148.guests.1, slv (f_bareNew ([[(⟨7, 0⟩ : TIns)]])).outs.length q148.outs.1, I (f_bareNew ([[(⟨7, 0⟩ : TIns)]])).pend]]⟩)
 replace S := S.cast (σ' := ⟨[(3, .p 0 0), (4, .v (I x3)), (5, .v (I x4)), (6, .v (I x5)), (7, .p 1 0), (8, .v (B Y1.2)), (18, .p 4 0), (100, .v (GT.val (⟨6, 3⟩ : TSlot) ())), (101, .v (pt (q148.guests.2 0).live.1.b ((q148.guests.2 0).live.1.off + 1 * 2)))], [GT.cells x2 q6, [slv Y1.1.mem.length q38.mem.1, slv Y1.1.guests.length q38.guests.1, slv Y1.1.outs.length q38.outs.1, I Y1.1.pend], [slv Y2.1.mem.length q62.mem.1, slv Y2.1.guests.length q62.guests.1, slv Y2.1.outs.length q62.outs.1, I Y2.1.pend], GT.cells x92 q95, [slv (f_bareNew ([[(⟨7, 0⟩ : TIns)]])).mem.length q148.mem.1, slv ((f_bareNew ([[(⟨7, 0⟩ : TIns)]])).guests.set 0 ({ el (f_bareNew ([[(⟨7, 0⟩ : TIns)]])).guests 0 with live := ((el (f_bareNew ([[(⟨7, 0⟩ : TIns)]])).guests 0).live.set 1 (⟨6, 3⟩ : TSlot)) })).length q148.guests.1, slv (f_bareNew ([[(⟨7, 0⟩ : TIns)]])).outs.length q148.outs.1, I (f_bareNew ([[(⟨7, 0⟩ : TIns)]])).pend]]⟩) (by rw [show ((f_bareNew ([[(⟨7, 0⟩ : TIns)]])).guests.set 0 ({ el (f_bareNew ([[(⟨7, 0⟩ : TIns)]])).guests 0 with live := ((el (f_bareNew ([[(⟨7, 0⟩ : TIns)]])).guests 0).live.set 1 (⟨6, 3⟩ : TSlot)) })).length = (f_bareNew ([[(⟨7, 0⟩ : TIns)]])).guests.length by omega])
 obtain ⟨Y3, hT3⟩ : ∃ z, z = f_bareDma (⟨(f_bareNew ([[(⟨7, 0⟩ : TIns)]])).mem, ((f_bareNew ([[(⟨7, 0⟩ : TIns)]])).guests.set 0 ({ el (f_bareNew ([[(⟨7, 0⟩ : TIns)]])).guests 0 with live := ((el (f_bareNew ([[(⟨7, 0⟩ : TIns)]])).guests 0).live.set 1 (⟨6, 3⟩ : TSlot)) })), (f_bareNew ([[(⟨7, 0⟩ : TIns)]])).outs, (f_bareNew ([[(⟨7, 0⟩ : TIns)]])).pend⟩ : TBare) 0 5 42 := ⟨_, rfl⟩
 refine S.is fun S => ?_
 refine S.go 5 .nil fun ac w β S => S.K2 (r := Y3.1) (r' := Y3.2) (d := 104) (by rw [hT3]; exact c_impl_BareDma w (⟨(f_bareNew ([[(⟨7, 0⟩ : TIns)]])).mem, ((f_bareNew ([[(⟨7, 0⟩ : TIns)]])).guests.set 0 ({ el (f_bareNew ([[(⟨7, 0⟩ : TIns)]])).guests 0 with live := ((el (f_bareNew ([[(⟨7, 0⟩ : TIns)]])).guests 0).live.set 1 (⟨6, 3⟩ : TSlot)) })), (f_bareNew ([[(⟨7, 0⟩ : TIns)]])).outs, (f_bareNew ([[(⟨7, 0⟩ : TIns)]])).pend⟩ : TBare) (⟨q148.mem, (q148.guests.1, p189), q148.outs⟩ : PBare) (S.rd (show GT.rd KK _ _ (⟨(f_bareNew ([[(⟨7, 0⟩ : TIns)]])).mem, ((f_bareNew ([[(⟨7, 0⟩ : TIns)]])).guests.set 0 ({ el (f_bareNew ([[(⟨7, 0⟩ : TIns)]])).guests 0 with live := ((el (f_bareNew ([[(⟨7, 0⟩ : TIns)]])).guests 0).live.set 1 (⟨6, 3⟩ : TSlot)) })), (f_bareNew ([[(⟨7, 0⟩ : TIns)]])).outs, (f_bareNew ([[(⟨7, 0⟩ : TIns)]])).pend⟩ : TBare) (⟨q148.mem, (q148.guests.1, p189), q148.outs⟩ : PBare) from ⟨o158.rn, o190.rn, o164.rn, i166⟩)) 0 5 (show In64 5 from ⟨by decide, by decide⟩) 42 (show In64 42 from ⟨by decide, by decide⟩)) fun ac w N q193 q194 F195 F196 S up o197 o198 d199 d200 d201 => ?_
 replace o14 := o14.up up
 replace o50 := o50.up up
 replace o53 := o53.up up
 replace o56 := o56.up up
 clear up d199
 clear d200
 have i225 : In64 Y3.1.pend := RBare.pend (d := Y3.1) o197.rn
 obtain ⟨F216, F219, F222, o217, o220, o223, _, _, _, _, _, _⟩ := sp_Bare o197
 refine S.gb 25 (.cons (Q_call fun w hw => c_impl_BareRead w Y3.1 q193 (rd_of (show GT.rd KK _ _ Y3.1 q193 from ⟨o217.rn, o220.rn, o223.rn, i225⟩) hw) 0 5 (show In64 5 from ⟨by decide, by decide⟩)) .nil) Y1.2 (fun ac w β h229 S => ?_) (fun ac w β h229 S => ?_)
 ·have g230 := dma_in hT1 h229
  refine S.lt 8 h229 fun S => ?_
  refine S.gb 22 (.cons (qt (RBare.guests (d := x2) o14.rn) x3 Tryz.underlying25) (.cons (qc (RBare.guests (d := x2) o14.rn) 45 x3.toNat 4 (slv (el x2.guests x3.toNat).live.length (q6.guests.2 x3.toNat).live.1)) (.cons (Q_call fun w hw => c_spec_AddrPage w x4 i32) (.cons (Q_call fun w hw => c_spec_WalkInner w (el x2.guests x3.toNat).live (q6.guests.2 x3.toNat).live (rd_of (RGuest.live (d := (el x2.guests x3.toNat)) (LRd.el (RBare.guests (d := x2) o14.rn) x3.toNat (by omega))) hw) (f_addrPage x4) 2) (.cons (Q_call fun w hw => c_spec_BareRead w Y1.1 q38 (rd_of (show GT.rd KK _ _ Y1.1 q38 from ⟨o50.rn, o53.rn, o56.rn, i58⟩) hw) x3 x4 i32) .nil))))) (!(f_walkInner (el x2.guests x3.toNat).live (f_addrPage x4) 2).2) (fun ac w β h231 S => ?_) (fun ac w β h231 S => ?_)
  ·exfalso; clear S; (rw [dma_may hT1 (by assumption)] at h231; cases h231)
  have h232 := not_f h231
  refine S.gb 2 .nil (f_bareRead Y1.1 x3 x4).2 (fun ac w β h233 S => ?_) (fun ac w β h233 S => ?_)
  ·refine S.gd 7 .nil ((f_bareRead Y1.1 x3 x4).1 != x5) (fun ac w β h234 g235 S => ?_) (fun ac w β h234 g235 S => ?_)
   ·exfalso; clear S; exact absurd (dma_again hT1 (by assumption) rfl (by assumption)) (bne_iff_ne.1 h234)
   refine S.gb 22 (.cons (Q_call fun w hw => c_laws_sameGuests w Y1.1.guests q38.guests (rd_of o53.rn hw) x2.guests q6.guests (rd_of (RBare.guests (d := x2) o14.rn) hw) (by rw [hT1]; exact dma_guests)) .nil) Y3.2 (fun ac w β h236 S => ?_) (fun ac w β h236 S => ?_)
   ·have g237 := dma_in hT3 h236
    refine S.gb 3 .nil (f_bareRead Y3.1 0 5).2 (fun ac w β h238 S => ?_) (fun ac w β h238 S => ?_)
    ·refine S.gd 4 .nil ((f_bareRead Y3.1 0 5).1 == 42) (fun ac w β h239 g240 S => ?_) (fun ac w β h239 g240 S => ?_)
     ·exact S.gf 9 (.cons (Q_call fun w hw => c_spec_CellAt w Y3.1.mem q193.mem (rd_of o217.rn hw) 6 1) .nil) [B ((f_cellAt Y3.1.mem 6 1) == 42)] (retB k0_laws_FnDevice)
     exfalso; clear S; (rw [show Y3 = f_bareDma dev_one 0 5 42 from hT3, dev_did.2.1] at h239; exact absurd h239 (by decide))
    exfalso; clear S; (rw [show Y3 = f_bareDma dev_one 0 5 42 from hT3, dev_did.2.1] at h238; exact absurd h238 (by decide))
   exfalso; clear S; (rw [show Y3 = f_bareDma dev_one 0 5 42 from hT3] at h236; exact absurd (dev_did.1.symm.trans h236) (by decide))
  refine S.gb 29 (.cons (Q_call fun w hw => c_laws_sameGuests w Y1.1.guests q38.guests (rd_of o53.rn hw) x2.guests q6.guests (rd_of (RBare.guests (d := x2) o14.rn) hw) (by rw [hT1]; exact dma_guests)) .nil) Y3.2 (fun ac w β h241 S => ?_) (fun ac w β h241 S => ?_)
  ·have g242 := dma_in hT3 h241
   refine S.gb 3 .nil (f_bareRead Y3.1 0 5).2 (fun ac w β h243 S => ?_) (fun ac w β h243 S => ?_)
   ·refine S.gd 4 .nil ((f_bareRead Y3.1 0 5).1 == 42) (fun ac w β h244 g245 S => ?_) (fun ac w β h244 g245 S => ?_)
    ·exact S.gf 9 (.cons (Q_call fun w hw => c_spec_CellAt w Y3.1.mem q193.mem (rd_of o217.rn hw) 6 1) .nil) [B ((f_cellAt Y3.1.mem 6 1) == 42)] (retB k0_laws_FnDevice)
    exfalso; clear S; (rw [show Y3 = f_bareDma dev_one 0 5 42 from hT3, dev_did.2.1] at h244; exact absurd h244 (by decide))
   exfalso; clear S; (rw [show Y3 = f_bareDma dev_one 0 5 42 from hT3, dev_did.2.1] at h243; exact absurd h243 (by decide))
  exfalso; clear S; (rw [show Y3 = f_bareDma dev_one 0 5 42 from hT3] at h241; exact absurd (dev_did.1.symm.trans h241) (by decide))
 refine S.lt 8 h229 fun S => ?_
 refine S.gb 22 (.cons (Q_call fun w hw => c_laws_sameBare w Y1.1 q38 (rd_of (show GT.rd KK _ _ Y1.1 q38 from ⟨o50.rn, o53.rn, o56.rn, i58⟩) hw) x2 q6 (rd_of o14.rn hw) (by first | (subst_vars; rfl) | (rw [hT1]; exact bdma_f (by first | assumption | (rw [← hT1]; assumption))))) (.cons (Q_call fun w hw => c_laws_sameGuests w Y1.1.guests q38.guests (rd_of o53.rn hw) x2.guests q6.guests (rd_of (RBare.guests (d := x2) o14.rn) hw) (by rw [hT1]; exact dma_guests)) .nil)) Y3.2 (fun ac w β h246 S => ?_) (fun ac w β h246 S => ?_)
 ·have g247 := dma_in hT3 h246
  refine S.gb 3 .nil (f_bareRead Y3.1 0 5).2 (fun ac w β h248 S => ?_) (fun ac w β h248 S => ?_)
  ·refine S.gd 4 .nil ((f_bareRead Y3.1 0 5).1 == 42) (fun ac w β h249 g250 S => ?_) (fun ac w β h249 g250 S => ?_)
   ·exact S.gf 9 (.cons (Q_call fun w hw => c_spec_CellAt w Y3.1.mem q193.mem (rd_of o217.rn hw) 6 1) .nil) [B ((f_cellAt Y3.1.mem 6 1) == 42)] (retB k0_laws_FnDevice)
   exfalso; clear S; (rw [show Y3 = f_bareDma dev_one 0 5 42 from hT3, dev_did.2.1] at h249; exact absurd h249 (by decide))
  exfalso; clear S; (rw [show Y3 = f_bareDma dev_one 0 5 42 from hT3, dev_did.2.1] at h248; exact absurd h248 (by decide))
 exfalso; clear S; (rw [show Y3 = f_bareDma dev_one 0 5 42 from hT3] at h246; exact absurd (dev_did.1.symm.trans h246) (by decide))

end Go.Proofs.YtgonaioedbphgaaGreat
