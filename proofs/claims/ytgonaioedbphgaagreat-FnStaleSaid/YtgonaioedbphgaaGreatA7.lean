/- The walks: what each function that the laws reach computes (part 4). -/
import Derived.Test.YtgonaioedbphgaaGreatA6
import Derived.Test.YtgonaioedbphgaaGreatProg
import Derived.KernelRfl
namespace Go.Proofs.YtgonaioedbphgaaGreat
open Go
set_option linter.unusedVariables false
set_option linter.unusedSimpArgs false
set_option maxRecDepth 100000
set_option maxHeartbeats 2000000

theorem k0_impl_HostStep {p : Prop} (h : p := by clear S; subst hT1; (first | (rw [hs_no1 (by assumption)]; done) | (rw [hs_no2 (by assumption)]; done) | (rw [hs_no3 (by assumption) (by assumption)]; done) | (rw [hs_no4 (by assumption) (by assumption)]; done) | (rw [hs_leave (by assumption) (by assumption) (by assumption) (by omega)]; done) | (rw [hs_bare (by assumption) (by assumption) (by assumption) (by omega)]; done) | (rw [hs_yes (by assumption) (by assumption) (by assumption) (by assumption)]; first | rfl | (simp only [hostTo34 (show f_wantOf (el (f_monAt h m).1.guests g.toNat) = 3 ∨ f_wantOf (el (f_monAt h m).1.guests g.toNat) = 4 by omega), f_touch, f_lk, f_setG]; simp_all; done)))) : p := h
theorem k1_impl_HostStep {p : Prop} (h : p := by clear S; (first | (rw [hs_no1 (by assumption)]; done) | (rw [hs_no2 (by assumption)]; done) | (rw [hs_no3 (by assumption) (by assumption)]; done) | (rw [hs_no4 (by assumption) (by assumption)]; done) | (rw [hs_leave (by assumption) (by assumption) (by assumption) (by omega)]; done) | (rw [hs_bare (by assumption) (by assumption) (by assumption) (by omega)]; done) | (rw [hs_yes (by assumption) (by assumption) (by assumption) (by assumption)]; first | rfl | (simp only [hostTo34 (show f_wantOf (el (f_monAt h m).1.guests g.toNat) = 3 ∨ f_wantOf (el (f_monAt h m).1.guests g.toNat) = 4 by omega), f_touch, f_lk, f_setG]; simp_all; done)))) : p := h
theorem k2_impl_HostStep {p : Prop} (h : p := by clear S; subst hT1; (first | (rw [hs_no1 (by assumption)]; done) | (rw [hs_no2 (by assumption)]; done) | (rw [hs_no3 (by assumption) (by assumption)]; done) | (rw [hs_no4 (by assumption) (by assumption)]; done) | (rw [hs_yes (by assumption) (by assumption) (by assumption) (by assumption)]; done))) : p := h
theorem k3_impl_HostStep {p : Prop} (h : p := by clear S; (first | (rw [hs_no1 (by assumption)]; done) | (rw [hs_no2 (by assumption)]; done) | (rw [hs_no3 (by assumption) (by assumption)]; done) | (rw [hs_no4 (by assumption) (by assumption)]; done) | (rw [hs_yes (by assumption) (by assumption) (by assumption) (by assumption)]; done))) : p := h
theorem c_impl_HostStep (w0 : World) (h : THost) (ph : PHost) (hh : RD w0 h ph) (m : Int) (g : Int) : Calls Tryz.prog 28 [GT.val h ph, I m, I g].toArray w0 (Ret2 NoB w0 ((f_hostStep h m g).1 : THost) ((f_hostStep h m g).2 : Bool)) := by
 refine Calls.run NoB Tryz.func28 ?_
 intro ac β S
 have hleh_mem : h.mem.length ≤ 4194304 := LRd.le (RHost.mem (d := h) hh)
 have hleh_mons : h.mons.length ≤ 4194304 := LRd.le (RHost.mons (d := h) hh)
 have hleh_buf : h.buf.length ≤ 4194304 := LRd.le (RHost.buf (d := h) hh)
 have hleh_iobuf : h.iobuf.length ≤ 4194304 := LRd.le (RHost.iobuf (d := h) hh)
 refine S.go 10 .nil fun ac w β S => S.K1 (r := h) (d := 21) (c_impl_copyHost w h ph (S.rd (S.arg hh))) fun ac w N q1 F2 S up o3 d4 => ?_
 clear up d4
 obtain ⟨F5, F8, F11, F14, o6, o9, o12, o15, _, _, _, _, d17, d18, d19, d20, d21, d22⟩ := sp_Host o3
 refine S.go 8 .nil fun ac w β S => S.K2 (r := (f_monAt h m).1) (r' := (f_monAt h m).2) (d := 25) (c_impl_MonAt w h ph (S.rd (S.arg hh)) m) fun ac w N q23 q24 F25 F26 S up o27 o28 d29 d30 d31 => ?_
 replace o6 := o6.up up
 replace o9 := o9.up up
 replace o12 := o12.up up
 replace o15 := o15.up up
 clear up d29
 clear d30
 refine S.gb 15 (.cons (Q_call fun w hw => c_impl_HostOk w h ph (rd_of (S.arg hh) hw)) .nil) (!(f_hostOk h)) (fun ac w β h40 S => ?_) (fun ac w β h40 S => ?_)
 ·have h41 := not_t h40
  refine S.gr 31 .nil [GT.val h q1, B false] fun ac w β S => ?_
  have o42 := ow_Host (x := h) (p := q1) o6 o9 o12 o15 d17 d18 d19 d20 d21 d22 
  exact ret2_of (p' := ()) S (show (f_hostStep h m g).1 = h from k1_impl_HostStep) (show (f_hostStep h m g).2 = false from k3_impl_HostStep) rfl rfl o42 trivial
 have h43 := not_f h40
 have g44 := hostOk_t h43
 refine S.gb 4 .nil (!(f_monAt h m).2) (fun ac w β h45 S => ?_) (fun ac w β h45 S => ?_)
 ·have h46 := not_t h45
  refine S.gr 27 .nil [GT.val h q1, B false] fun ac w β S => ?_
  have o47 := ow_Host (x := h) (p := q1) o6 o9 o12 o15 d17 d18 d19 d20 d21 d22 
  exact ret2_of (p' := ()) S (show (f_hostStep h m g).1 = h from k1_impl_HostStep) (show (f_hostStep h m g).2 = false from k3_impl_HostStep) rfl rfl o47 trivial
 have h48 := not_f h45
 have g49 := monAt_tt h48
 refine S.gb 8 (.cons (Q_call fun w hw => c_impl_has w g ((f_monAt h m).1.guests.length : Int) (by omega)) .nil) (!(f_within g 0 (((f_monAt h m).1.guests.length : Int) - 1))) (fun ac w β h50 S => ?_) (fun ac w β h50 S => ?_)
 ·have h51 := not_t h50
  have g52 := within_f h51
  refine S.gr 19 .nil [GT.val h q1, B false] fun ac w β S => ?_
  have o53 := ow_Host (x := h) (p := q1) o6 o9 o12 o15 d17 d18 d19 d20 d21 d22 
  exact ret2_of (p' := ()) S (show (f_hostStep h m g).1 = h from k1_impl_HostStep) (show (f_hostStep h m g).2 = false from k3_impl_HostStep) rfl rfl o53 trivial
 have h54 := not_f h50
 have g55 := within_t h54
 have b56 := wantOf_bd (el (f_monAt h m).1.guests g.toNat)
 refine S.gd 10 (.cons (qt (RMon.guests (d := (f_monAt h m).1) o27.rn) g Tryz.underlying25) (.cons (qs (RMon.guests (d := (f_monAt h m).1) o27.rn) 51 g.toNat) (.cons (Q_call fun w hw => c_impl_WantOf w (el (f_monAt h m).1.guests g.toNat) (q23.guests.2 g.toNat) (rd_of (LRd.el (RMon.guests (d := (f_monAt h m).1) o27.rn) g.toNat (by omega)) hw)) .nil))) ((f_wantOf (el (f_monAt h m).1.guests g.toNat)) == 0) (fun ac w β h57 g58 S => ?_) (fun ac w β h57 g58 S => ?_)
 ·refine S.gr 9 .nil [GT.val h q1, B false] fun ac w β S => ?_
  have o59 := ow_Host (x := h) (p := q1) o6 o9 o12 o15 d17 d18 d19 d20 d21 d22 
  exact ret2_of (p' := ()) S (show (f_hostStep h m g).1 = h from k1_impl_HostStep) (show (f_hostStep h m g).2 = false from k3_impl_HostStep) rfl rfl o59 trivial
 have b60 := wantOf_bd (el (f_monAt h m).1.guests g.toNat)
 refine S.gd 42 (.cons (qt (RMon.guests (d := (f_monAt h m).1) o27.rn) g Tryz.underlying25) (.cons (qs (RMon.guests (d := (f_monAt h m).1) o27.rn) 51 g.toNat) (.cons (Q_call fun w hw => c_impl_WantOf w (el (f_monAt h m).1.guests g.toNat) (q23.guests.2 g.toNat) (rd_of (LRd.el (RMon.guests (d := (f_monAt h m).1) o27.rn) g.toNat (by omega)) hw)) (.cons (Q_call fun w hw => c_impl_Address w (el (f_monAt h m).1.guests g.toNat) (q23.guests.2 g.toNat) (rd_of (LRd.el (RMon.guests (d := (f_monAt h m).1) o27.rn) g.toNat (by omega)) hw)) .nil)))) ((f_wantOf (el (f_monAt h m).1.guests g.toNat)) == 3) (fun ac w β h61 g62 S => ?_) (fun ac w β h61 g62 S => ?_)
 ·refine S.go 12 .nil fun ac w β S => ?_
  refine drw ?_
  let σ63 : Sy := ⟨[(1, .v (I m)), (2, .v (I g)), (3, .p 0 0), (6, .p 1 0), (11, .p 4 0), (13, .v (I (f_address (el (f_monAt h m).1.guests g.toNat)))), (14, .v (B ((f_wantOf (el (f_monAt h m).1.guests g.toNat)) == 4)))], [GT.cells h ph, Zc THost, [slv h.mem.length q1.mem.1, slv h.mons.length q1.mons.1, slv h.buf.length q1.buf.1, slv h.iobuf.length q1.iobuf.1], GT.cells (f_monAt h m).1 q23, GT.cells (el (f_monAt h m).1.guests g.toNat) (q23.guests.2 g.toNat)]⟩
  obtain ⟨u0, N0, β0, S, o6, o9, o12, o15, o27⟩ : ∃ u0 N0 β0, St Tryz.prog Tryz.f28.ntmps w0 NoB u0 N0 β0 σ63 ac w ∧ Ow w0 NoB u0 N0 F5 h.mem q1.mem ∧ Ow w0 NoB u0 N0 F8 h.mons q1.mons ∧ Ow w0 NoB u0 N0 F11 h.buf q1.buf ∧ Ow w0 NoB u0 N0 F14 h.iobuf q1.iobuf ∧ Ow w0 NoB u0 N0 F25 (f_monAt h m).1 q23 := ⟨_, _, _, S.z, o6, o9, o12, o15, o27⟩
  obtain ⟨Y1, hT1⟩ : ∃ z, z = f_lookup h m g (f_addrPage (f_address (el (f_monAt h m).1.guests g.toNat))) (f_needOf ((f_wantOf (el (f_monAt h m).1.guests g.toNat)) == 4)) false := ⟨_, rfl⟩
  have l230 := lookup_mons (congrArg Prod.fst hT1) (hs_ok (by assumption) (by assumption) (by assumption))
  try dsimp only at l230
  obtain ⟨Y1, hT1⟩ : ∃ z, z = f_lookup h m g (f_addrPage (f_address (el (f_monAt h m).1.guests g.toNat))) (f_needOf ((f_wantOf (el (f_monAt h m).1.guests g.toNat)) == 4)) false := ⟨_, rfl⟩
  have l261 := lookup_mons (congrArg Prod.fst hT1) (hs_ok (by assumption) (by assumption) (by assumption))
  try dsimp only at l261
  refine wp_region_cut (fun ac w => ∃ q143 F144 q146 F147 q137 F138 q140 F141 u N β, St Tryz.prog Tryz.f28.ntmps w0 NoB u N β (σ63.dl [3] [(15, .p 5 0), (16, .v (I Y1.2.1)), (17, .v (B Y1.2.2))] 6 [(5, [slv Y1.1.mem.length q137.1, slv Y1.1.mons.length q140.1, slv Y1.1.buf.length q143.1, slv Y1.1.iobuf.length q146.1])]) ac w ∧ Ow w0 NoB u N F5 h.mem q1.mem ∧ Ow w0 NoB u N F8 h.mons q1.mons ∧ Ow w0 NoB u N F11 h.buf q1.buf ∧ Ow w0 NoB u N F14 h.iobuf q1.iobuf ∧ Ow w0 NoB u N F25 (f_monAt h m).1 q23 ∧ Ow w0 NoB u N F144 Y1.1.buf q143 ∧ Ow w0 NoB u N F147 Y1.1.iobuf q146 ∧ Ow w0 NoB u N F138 Y1.1.mem q137 ∧ Ow w0 NoB u N F141 Y1.1.mons q140 ∧ Disj F5 F144 ∧ Disj F5 F147 ∧ Disj F5 F138 ∧ Disj F5 F141 ∧ Disj F8 F144 ∧ Disj F8 F147 ∧ Disj F8 F138 ∧ Disj F8 F141 ∧ Disj F11 F144 ∧ Disj F11 F147 ∧ Disj F11 F138 ∧ Disj F11 F141 ∧ Disj F14 F144 ∧ Disj F14 F147 ∧ Disj F14 F138 ∧ Disj F14 F141 ∧ Disj F25 F144 ∧ Disj F25 F147 ∧ Disj F25 F138 ∧ Disj F25 F141 ∧ Disj F144 F147 ∧ Disj F144 F138 ∧ Disj F144 F141 ∧ Disj F147 F138 ∧ Disj F147 F141 ∧ Disj F138 F141) ?_ ?_
  ·refine S.draw0 (f := 16) 13 (by kernel_rfl) (by kernel_rfl) fun w S => ?_
   refine S.hq 0 [0] [] [(69, .v (GT.val h ph))] .nil fun ac S => ?_
   refine S.hq 1 [1] [] [(70, .v (I m))] .nil fun ac S => ?_
   refine S.hq 2 [2] [] [(71, .v (I g))] .nil fun ac S => ?_
   refine S.hq 3 [3] [] [(72, .v (I (f_address (el (f_monAt h m).1.guests g.toNat))))] .nil fun ac S => ?_
   refine S.hq 5 [5] [] [(74, .v (B ((f_wantOf (el (f_monAt h m).1.guests g.toNat)) == 4)))] .nil fun ac S => ?_
   refine WD.nameW fun W hW => ?_
   refine WD.castW (l' := mkL 16 [0, 1, 2, 3, 5]) (by kernel_rfl) ?_
   have hK148 ac w q143 F144 q146 F147 q137 F138 q140 F141 u N β (S : St Tryz.prog Tryz.f28.ntmps w0 NoB u N β (σ63.dl [3] [(15, .p 5 0), (16, .v (I Y1.2.1)), (17, .v (B Y1.2.2))] 6 [(5, [slv Y1.1.mem.length q137.1, slv Y1.1.mons.length q140.1, slv Y1.1.buf.length q143.1, slv Y1.1.iobuf.length q146.1])]) ac w) (o6 : Ow w0 NoB u N F5 h.mem q1.mem) (o9 : Ow w0 NoB u N F8 h.mons q1.mons) (o12 : Ow w0 NoB u N F11 h.buf q1.buf) (o15 : Ow w0 NoB u N F14 h.iobuf q1.iobuf) (o27 : Ow w0 NoB u N F25 (f_monAt h m).1 q23) (o142 : Ow w0 NoB u N F144 Y1.1.buf q143) (o145 : Ow w0 NoB u N F147 Y1.1.iobuf q146) (o136 : Ow w0 NoB u N F138 Y1.1.mem q137) (o139 : Ow w0 NoB u N F141 Y1.1.mons q140) (d149 : Disj F5 F144) (d150 : Disj F5 F147) (d151 : Disj F5 F138) (d152 : Disj F5 F141) (d153 : Disj F8 F144) (d154 : Disj F8 F147) (d155 : Disj F8 F138) (d156 : Disj F8 F141) (d157 : Disj F11 F144) (d158 : Disj F11 F147) (d159 : Disj F11 F138) (d160 : Disj F11 F141) (d161 : Disj F14 F144) (d162 : Disj F14 F147) (d163 : Disj F14 F138) (d164 : Disj F14 F141) (d165 : Disj F25 F144) (d166 : Disj F25 F147) (d167 : Disj F25 F138) (d168 : Disj F25 F141) (d169 : Disj F144 F147) (d170 : Disj F144 F138) (d171 : Disj F144 F141) (d172 : Disj F147 F138) (d173 : Disj F147 F141) (d174 : Disj F138 F141) : W 0 (mkL 16 [0, 1, 2, 3, 4, 5, 6, 7, 8, 9, 10, 11, 12, 13, 14, 15]) ac w := by
    exact od hW ⟨rfl, q143, F144, q146, F147, q137, F138, q140, F141, _, _, _, S.z, o6, o9, o12, o15, o27, o142, o145, o136, o139, d149, d150, d151, d152, d153, d154, d155, d156, d157, d158, d159, d160, d161, d162, d163, d164, d165, d166, d167, d168, d169, d170, d171, d172, d173, d174⟩
   have hK175 ac w q101 F102 q104 F105 q95 F96 q98 F99 u N β (S : St Tryz.prog Tryz.f28.ntmps w0 NoB u N β (σ63.dl [3] [(15, .p 5 0), (77, .v (GT.val Y1.1 (⟨q95, q98, q101, q104⟩ : PHost))), (78, .v (I Y1.2.1)), (79, .v (B Y1.2.2))] 6 [(5, Zc THost)]) ac w) (o6 : Ow w0 NoB u N F5 h.mem q1.mem) (o9 : Ow w0 NoB u N F8 h.mons q1.mons) (o12 : Ow w0 NoB u N F11 h.buf q1.buf) (o15 : Ow w0 NoB u N F14 h.iobuf q1.iobuf) (o27 : Ow w0 NoB u N F25 (f_monAt h m).1 q23) (o100 : Ow w0 NoB u N F102 Y1.1.buf q101) (o103 : Ow w0 NoB u N F105 Y1.1.iobuf q104) (o94 : Ow w0 NoB u N F96 Y1.1.mem q95) (o97 : Ow w0 NoB u N F99 Y1.1.mons q98) (d176 : Disj F5 F102) (d177 : Disj F5 F105) (d178 : Disj F5 F96) (d179 : Disj F5 F99) (d180 : Disj F8 F102) (d181 : Disj F8 F105) (d182 : Disj F8 F96) (d183 : Disj F8 F99) (d184 : Disj F11 F102) (d185 : Disj F11 F105) (d186 : Disj F11 F96) (d187 : Disj F11 F99) (d188 : Disj F14 F102) (d189 : Disj F14 F105) (d190 : Disj F14 F96) (d191 : Disj F14 F99) (d192 : Disj F25 F102) (d193 : Disj F25 F105) (d194 : Disj F25 F96) (d195 : Disj F25 F99) (d196 : Disj F102 F105) (d197 : Disj F102 F96) (d198 : Disj F102 F99) (d199 : Disj F105 F96) (d200 : Disj F105 F99) (d201 : Disj F96 F99) (hNN : NN N0 u0 N u) (hBB : BB σ63.bx.length β0 β) : W 3 (mkL 16 [0, 1, 2, 3, 4, 5, 6, 7, 8, 9, 10, 11, 12]) ac w := by
    exact ox1 hW 13 (S.wl hW [14, 15] .nil fun _ _ _ S => hK148 _ _ q101 F102 q104 F105 q95 F96 q98 F99 _ _ _ S o6 o9 o12 o15 o27 o100 o103 o94 o97 d176 d177 d178 d179 d180 d181 d182 d183 d184 d185 d186 d187 d188 d189 d190 d191 d192 d193 d194 d195 d196 d197 d198 d199 d200 d201)
   have hK202 ac w q101 F102 q104 F105 q95 F96 q98 F99 u N β (S : St Tryz.prog Tryz.f28.ntmps w0 NoB u N β (σ63.dl [3] [(77, .v (GT.val Y1.1 (⟨q95, q98, q101, q104⟩ : PHost))), (78, .v (I Y1.2.1)), (79, .v (B Y1.2.2))] 5 []) ac w) (o6 : Ow w0 NoB u N F5 h.mem q1.mem) (o9 : Ow w0 NoB u N F8 h.mons q1.mons) (o12 : Ow w0 NoB u N F11 h.buf q1.buf) (o15 : Ow w0 NoB u N F14 h.iobuf q1.iobuf) (o27 : Ow w0 NoB u N F25 (f_monAt h m).1 q23) (o100 : Ow w0 NoB u N F102 Y1.1.buf q101) (o103 : Ow w0 NoB u N F105 Y1.1.iobuf q104) (o94 : Ow w0 NoB u N F96 Y1.1.mem q95) (o97 : Ow w0 NoB u N F99 Y1.1.mons q98) (d203 : Disj F5 F102) (d204 : Disj F5 F105) (d205 : Disj F5 F96) (d206 : Disj F5 F99) (d207 : Disj F8 F102) (d208 : Disj F8 F105) (d209 : Disj F8 F96) (d210 : Disj F8 F99) (d211 : Disj F11 F102) (d212 : Disj F11 F105) (d213 : Disj F11 F96) (d214 : Disj F11 F99) (d215 : Disj F14 F102) (d216 : Disj F14 F105) (d217 : Disj F14 F96) (d218 : Disj F14 F99) (d219 : Disj F25 F102) (d220 : Disj F25 F105) (d221 : Disj F25 F96) (d222 : Disj F25 F99) (d223 : Disj F102 F105) (d224 : Disj F102 F96) (d225 : Disj F102 F99) (d226 : Disj F105 F96) (d227 : Disj F105 F99) (d228 : Disj F96 F99) (hNN : NN N0 u0 N u) (hBB : BB σ63.bx.length β0 β) : W 4 (mkL 16 [0, 1, 2, 3, 4, 5, 6, 7, 8, 9, 10, 11]) ac w := by
    exact ox1 hW 12 (S.wq hW hNN hBB [] .nil fun _ _ _ S hB => hK175 _ _ q101 F102 q104 F105 q95 F96 q98 F99 _ _ _ S o6 o9 o12 o15 o27 o100 o103 o94 o97 d203 d204 d205 d206 d207 d208 d209 d210 d211 d212 d213 d214 d215 d216 d217 d218 d219 d220 d221 d222 d223 d224 d225 d226 d227 d228 hNN hB)
   have hK229 ac w u N β (S : St Tryz.prog Tryz.f28.ntmps w0 NoB u N β (σ63.dl [3] [(15, .p 5 0), (69, .v (GT.val h ph)), (70, .v (I m)), (71, .v (I g)), (73, .v (I (f_addrPage (f_address (el (f_monAt h m).1.guests g.toNat))))), (75, .v (I (f_needOf ((f_wantOf (el (f_monAt h m).1.guests g.toNat)) == 4))))] 6 [(5, Zc THost)]) ac w) (o6 : Ow w0 NoB u N F5 h.mem q1.mem) (o9 : Ow w0 NoB u N F8 h.mons q1.mons) (o12 : Ow w0 NoB u N F11 h.buf q1.buf) (o15 : Ow w0 NoB u N F14 h.iobuf q1.iobuf) (o27 : Ow w0 NoB u N F25 (f_monAt h m).1 q23) (hNN : NN N0 u0 N u) (hBB : BB σ63.bx.length β0 β) : W 8 (mkL 16 [0, 1, 2, 3, 4, 5, 6, 12]) ac w := by
    refine ox1 hW 7 ?_
    refine id (S.call3 (r := Y1.1) (r' := Y1.2.1) (r'' := Y1.2.2) (d := 76) (by rw [hT1]; exact c_impl_Lookup w h ph (S.rd (S.arg hh)) m g (f_addrPage (f_address (el (f_monAt h m).1.guests g.toNat))) (addrPage_in64 (address_in64 (LRd.el (RMon.guests (d := (f_monAt h m).1) o27.rn) g.toNat (by omega)))) (f_needOf ((f_wantOf (el (f_monAt h m).1.guests g.toNat)) == 4))) (by kernel_rfl) rfl fun ac w N q231 F232 S up o233 d234 i235 => ?_)
    have hb236 := fun b h => (⟨(up b (hNN b h).1).1, (up b (hNN b h).1).2.trans (hNN b h).2⟩ : _ ∧ _)
    refine WD.sc S hb236 hBB fun hC => ?_
    have d237 := Disj.w d234 o6.sub
    have d238 := Disj.w d234 o9.sub
    have d239 := Disj.w d234 o12.sub
    have d240 := Disj.w d234 o15.sub
    have d241 := Disj.w d234 o27.sub
    replace o6 := o6.up up
    replace o9 := o9.up up
    replace o12 := o12.up up
    replace o15 := o15.up up
    replace o27 := o27.up up
    clear up d234
    obtain ⟨F242, F245, F248, F251, o243, o246, o249, o252, s244, s247, s250, s253, d254, d255, d256, d257, d258, d259⟩ := sp_Host o233
    exact S.wh hW [8, 9, 10, 11] hC fun _ S => hK175 _ _ q231.buf F248 q231.iobuf F251 q231.mem F242 q231.mons F245 _ _ _ S o6 o9 o12 o15 o27 o249 o252 o243 o246 (Disj.symm (Disj.part (Disj.symm d237) s250)) (Disj.symm (Disj.part (Disj.symm d237) s253)) (Disj.symm (Disj.part (Disj.symm d237) s244)) (Disj.symm (Disj.part (Disj.symm d237) s247)) (Disj.symm (Disj.part (Disj.symm d238) s250)) (Disj.symm (Disj.part (Disj.symm d238) s253)) (Disj.symm (Disj.part (Disj.symm d238) s244)) (Disj.symm (Disj.part (Disj.symm d238) s247)) (Disj.symm (Disj.part (Disj.symm d239) s250)) (Disj.symm (Disj.part (Disj.symm d239) s253)) (Disj.symm (Disj.part (Disj.symm d239) s244)) (Disj.symm (Disj.part (Disj.symm d239) s247)) (Disj.symm (Disj.part (Disj.symm d240) s250)) (Disj.symm (Disj.part (Disj.symm d240) s253)) (Disj.symm (Disj.part (Disj.symm d240) s244)) (Disj.symm (Disj.part (Disj.symm d240) s247)) (Disj.symm (Disj.part (Disj.symm d241) s250)) (Disj.symm (Disj.part (Disj.symm d241) s253)) (Disj.symm (Disj.part (Disj.symm d241) s244)) (Disj.symm (Disj.part (Disj.symm d241) s247)) d259 (Disj.symm d255) (Disj.symm d257) (Disj.symm d256) (Disj.symm d258) d254 hb236 hBB
   have hK260 ac w u N β (S : St Tryz.prog Tryz.f28.ntmps w0 NoB u N β (σ63.dl [3] [(69, .v (GT.val h ph)), (70, .v (I m)), (71, .v (I g)), (73, .v (I (f_addrPage (f_address (el (f_monAt h m).1.guests g.toNat))))), (75, .v (I (f_needOf ((f_wantOf (el (f_monAt h m).1.guests g.toNat)) == 4))))] 5 []) ac w) (o6 : Ow w0 NoB u N F5 h.mem q1.mem) (o9 : Ow w0 NoB u N F8 h.mons q1.mons) (o12 : Ow w0 NoB u N F11 h.buf q1.buf) (o15 : Ow w0 NoB u N F14 h.iobuf q1.iobuf) (o27 : Ow w0 NoB u N F25 (f_monAt h m).1 q23) (hNN : NN N0 u0 N u) (hBB : BB σ63.bx.length β0 β) : W 9 (mkL 16 [0, 1, 2, 3, 4, 5, 6]) ac w := by
    refine ox2 hW 7 12 ?_ (S.wq hW hNN hBB [] .nil fun _ _ _ S hB => hK229 _ _ _ _ _ S o6 o9 o12 o15 o27 hNN hB)
    refine id (S.call3 (r := Y1.1) (r' := Y1.2.1) (r'' := Y1.2.2) (d := 76) (by rw [hT1]; exact c_impl_Lookup w h ph (S.rd (S.arg hh)) m g (f_addrPage (f_address (el (f_monAt h m).1.guests g.toNat))) (addrPage_in64 (address_in64 (LRd.el (RMon.guests (d := (f_monAt h m).1) o27.rn) g.toNat (by omega)))) (f_needOf ((f_wantOf (el (f_monAt h m).1.guests g.toNat)) == 4))) (by kernel_rfl) rfl fun ac w N q262 F263 S up o264 d265 i266 => ?_)
    have hb267 := fun b h => (⟨(up b (hNN b h).1).1, (up b (hNN b h).1).2.trans (hNN b h).2⟩ : _ ∧ _)
    refine WD.sc S hb267 hBB fun hC => ?_
    have d268 := Disj.w d265 o6.sub
    have d269 := Disj.w d265 o9.sub
    have d270 := Disj.w d265 o12.sub
    have d271 := Disj.w d265 o15.sub
    have d272 := Disj.w d265 o27.sub
    replace o6 := o6.up up
    replace o9 := o9.up up
    replace o12 := o12.up up
    replace o15 := o15.up up
    replace o27 := o27.up up
    clear up d265
    obtain ⟨F273, F276, F279, F282, o274, o277, o280, o283, s275, s278, s281, s284, d285, d286, d287, d288, d289, d290⟩ := sp_Host o264
    exact S.wh hW [8, 9, 10, 11] hC fun _ S => hK202 _ _ q262.buf F279 q262.iobuf F282 q262.mem F273 q262.mons F276 _ _ _ S o6 o9 o12 o15 o27 o280 o283 o274 o277 (Disj.symm (Disj.part (Disj.symm d268) s281)) (Disj.symm (Disj.part (Disj.symm d268) s284)) (Disj.symm (Disj.part (Disj.symm d268) s275)) (Disj.symm (Disj.part (Disj.symm d268) s278)) (Disj.symm (Disj.part (Disj.symm d269) s281)) (Disj.symm (Disj.part (Disj.symm d269) s284)) (Disj.symm (Disj.part (Disj.symm d269) s275)) (Disj.symm (Disj.part (Disj.symm d269) s278)) (Disj.symm (Disj.part (Disj.symm d270) s281)) (Disj.symm (Disj.part (Disj.symm d270) s284)) (Disj.symm (Disj.part (Disj.symm d270) s275)) (Disj.symm (Disj.part (Disj.symm d270) s278)) (Disj.symm (Disj.part (Disj.symm d271) s281)) (Disj.symm (Disj.part (Disj.symm d271) s284)) (Disj.symm (Disj.part (Disj.symm d271) s275)) (Disj.symm (Disj.part (Disj.symm d271) s278)) (Disj.symm (Disj.part (Disj.symm d272) s281)) (Disj.symm (Disj.part (Disj.symm d272) s284)) (Disj.symm (Disj.part (Disj.symm d272) s275)) (Disj.symm (Disj.part (Disj.symm d272) s278)) d290 (Disj.symm d286) (Disj.symm d288) (Disj.symm d287) (Disj.symm d289) d285 hb267 hBB
   have hK291 ac w u N β (S : St Tryz.prog Tryz.f28.ntmps w0 NoB u N β (σ63.dl [3] [(15, .p 5 0), (69, .v (GT.val h ph)), (70, .v (I m)), (71, .v (I g)), (73, .v (I (f_addrPage (f_address (el (f_monAt h m).1.guests g.toNat))))), (74, .v (B ((f_wantOf (el (f_monAt h m).1.guests g.toNat)) == 4)))] 6 [(5, Zc THost)]) ac w) (o6 : Ow w0 NoB u N F5 h.mem q1.mem) (o9 : Ow w0 NoB u N F8 h.mons q1.mons) (o12 : Ow w0 NoB u N F11 h.buf q1.buf) (o15 : Ow w0 NoB u N F14 h.iobuf q1.iobuf) (o27 : Ow w0 NoB u N F25 (f_monAt h m).1 q23) (hNN : NN N0 u0 N u) (hBB : BB σ63.bx.length β0 β) : W 9 (mkL 16 [0, 1, 2, 3, 4, 5, 12]) ac w := by
    exact ox1 hW 6 (S.wq hW hNN hBB [] (.cons (Q_call fun w hw => c_impl_NeedOf w ((f_wantOf (el (f_monAt h m).1.guests g.toNat)) == 4)) .nil) fun _ _ _ S hB => hK229 _ _ _ _ _ S o6 o9 o12 o15 o27 hNN hB)
   have hK292 ac w u N β (S : St Tryz.prog Tryz.f28.ntmps w0 NoB u N β (σ63.dl [3] [(69, .v (GT.val h ph)), (70, .v (I m)), (71, .v (I g)), (73, .v (I (f_addrPage (f_address (el (f_monAt h m).1.guests g.toNat))))), (74, .v (B ((f_wantOf (el (f_monAt h m).1.guests g.toNat)) == 4)))] 5 []) ac w) (o6 : Ow w0 NoB u N F5 h.mem q1.mem) (o9 : Ow w0 NoB u N F8 h.mons q1.mons) (o12 : Ow w0 NoB u N F11 h.buf q1.buf) (o15 : Ow w0 NoB u N F14 h.iobuf q1.iobuf) (o27 : Ow w0 NoB u N F25 (f_monAt h m).1 q23) (hNN : NN N0 u0 N u) (hBB : BB σ63.bx.length β0 β) : W 10 (mkL 16 [0, 1, 2, 3, 4, 5]) ac w := by
    exact ox2 hW 6 12 (S.wq hW hNN hBB [] (.cons (Q_call fun w hw => c_impl_NeedOf w ((f_wantOf (el (f_monAt h m).1.guests g.toNat)) == 4)) .nil) fun _ _ _ S hB => hK260 _ _ _ _ _ S o6 o9 o12 o15 o27 hNN hB) (S.wq hW hNN hBB [] .nil fun _ _ _ S hB => hK291 _ _ _ _ _ S o6 o9 o12 o15 o27 hNN hB)
   have hK293 ac w u N β (S : St Tryz.prog Tryz.f28.ntmps w0 NoB u N β (σ63.dl [3] [(15, .p 5 0), (69, .v (GT.val h ph)), (70, .v (I m)), (71, .v (I g)), (72, .v (I (f_address (el (f_monAt h m).1.guests g.toNat)))), (74, .v (B ((f_wantOf (el (f_monAt h m).1.guests g.toNat)) == 4)))] 6 [(5, Zc THost)]) ac w) (o6 : Ow w0 NoB u N F5 h.mem q1.mem) (o9 : Ow w0 NoB u N F8 h.mons q1.mons) (o12 : Ow w0 NoB u N F11 h.buf q1.buf) (o15 : Ow w0 NoB u N F14 h.iobuf q1.iobuf) (o27 : Ow w0 NoB u N F25 (f_monAt h m).1 q23) (hNN : NN N0 u0 N u) (hBB : BB σ63.bx.length β0 β) : W 10 (mkL 16 [0, 1, 2, 3, 5, 12]) ac w := by
    exact ox1 hW 4 (S.wq hW hNN hBB [] (.cons (Q_call fun w hw => c_impl_AddrPage w (f_address (el (f_monAt h m).1.guests g.toNat)) (address_in64 (LRd.el (RMon.guests (d := (f_monAt h m).1) o27.rn) g.toNat (by omega)))) .nil) fun _ _ _ S hB => hK291 _ _ _ _ _ S o6 o9 o12 o15 o27 hNN hB)
   have hNN : NN N0 u0 N0 u0 := fun b h => ⟨h, rfl⟩
   have hBB : BB σ63.bx.length β0 β0 := fun _ _ => rfl
   exact ox2 hW 4 12 (S.wq hW hNN hBB [] (.cons (Q_call fun w hw => c_impl_AddrPage w (f_address (el (f_monAt h m).1.guests g.toNat)) (address_in64 (LRd.el (RMon.guests (d := (f_monAt h m).1) o27.rn) g.toNat (by omega)))) .nil) fun _ _ _ S hB => hK292 _ _ _ _ _ S o6 o9 o12 o15 o27 hNN hB) (S.wq hW hNN hBB [] .nil fun _ _ _ S hB => hK293 _ _ _ _ _ S o6 o9 o12 o15 o27 hNN hB)
  clear S o6 o9 o12 o15 o27
  rintro ac w ⟨q143, F144, q146, F147, q137, F138, q140, F141, u, N, β, S, o6, o9, o12, o15, o27, o142, o145, o136, o139, d294, d295, d296, d297, d298, d299, d300, d301, d302, d303, d304, d305, d306, d307, d308, d309, d310, d311, d312, d313, d314, d315, d316, d317, d318, d319⟩
  refine S.ex fun S => ?_
  refine S.gb 10 .nil (!Y1.2.2) (fun ac w β h320 S => ?_) (fun ac w β h320 S => ?_)
  ·have h321 := not_t h320
   refine S.go 1 .nil fun ac w β S => ?_
   refine drw ?_
   refine S.draw0 (f := 7) 6 (by kernel_rfl) (by kernel_rfl) fun w S => ?_
   refine S.hq 0 [0] [] [(91, .v (GT.val (el (f_monAt h m).1.guests g.toNat) (q23.guests.2 g.toNat)))] .nil fun ac S => ?_
   refine S.hq 1 [1] [] [(92, .v (I (f_address (el (f_monAt h m).1.guests g.toNat))))] .nil fun ac S => ?_
   refine S.hq 3 [3] [] [(94, .v (B ((f_wantOf (el (f_monAt h m).1.guests g.toNat)) == 4)))] .nil fun ac S => ?_
   refine S.sq 2 [] [(93, .v (I (f_addrPage (f_address (el (f_monAt h m).1.guests g.toNat)))))] 6 [] (.cons (Q_call fun w hw => c_impl_AddrPage w (f_address (el (f_monAt h m).1.guests g.toNat)) (address_in64 (LRd.el (RMon.guests (d := (f_monAt h m).1) o27.rn) g.toNat (by omega)))) .nil) fun ac w β S => ?_
   refine S.sq 4 [] [(95, .v (GT.val (f_faultExit (f_addrPage (f_address (el (f_monAt h m).1.guests g.toNat))) ((f_wantOf (el (f_monAt h m).1.guests g.toNat)) == 4)) ()))] 6 [] (.cons (Q_call fun w hw => c_impl_FaultExit w (f_addrPage (f_address (el (f_monAt h m).1.guests g.toNat))) (addrPage_in64 (address_in64 (LRd.el (RMon.guests (d := (f_monAt h m).1) o27.rn) g.toNat (by omega)))) ((f_wantOf (el (f_monAt h m).1.guests g.toNat)) == 4)) .nil) fun ac w β S => ?_
   refine WD.one (i := 5) (by kernel_rfl) ?_
   refine id (S.k1 96 (c_impl_Stopped w (el (f_monAt h m).1.guests g.toNat) (q23.guests.2 g.toNat) (S.rd (LRd.el (RMon.guests (d := (f_monAt h m).1) o27.rn) g.toNat (by omega))) (f_faultExit (f_addrPage (f_address (el (f_monAt h m).1.guests g.toNat))) ((f_wantOf (el (f_monAt h m).1.guests g.toNat)) == 4)) (faultExit_r (addrPage_in64 (address_in64 (LRd.el (RMon.guests (d := (f_monAt h m).1) o27.rn) g.toNat (by omega)))) ((f_wantOf (el (f_monAt h m).1.guests g.toNat)) == 4))) fun ac w N q322 F323 S up o324 d325 => ?_)
   refine WD.next S up (by kernel_rfl) ?_
   have d331 := Disj.w d325 o136.sub
   have d332 := Disj.w d325 o139.sub
   have d333 := Disj.w d325 o142.sub
   have d334 := Disj.w d325 o145.sub
   replace o6 := o6.up up
   replace o9 := o9.up up
   replace o12 := o12.up up
   replace o15 := o15.up up
   replace o27 := o27.up up
   replace o136 := o136.up up
   replace o139 := o139.up up
   replace o142 := o142.up up
   replace o145 := o145.up up
   clear up d325
   refine S.sl 6 [] [] 6 [(4, GT.cells ({ (el (f_monAt h m).1.guests g.toNat) with exit := (f_faultExit (f_addrPage (f_address (el (f_monAt h m).1.guests g.toNat))) ((f_wantOf (el (f_monAt h m).1.guests g.toNat)) == 4)) } : TGuest) q322)] .nil fun ac w β S => ?_
   refine WD.done (by kernel_rfl) ?_ _
   refine S.ex fun S => ?_
   refine S.go 3 .nil fun ac w β S => ?_
   refine drw ?_
   refine S.draw0 (f := 10) 9 (by kernel_rfl) (by kernel_rfl) fun w S => ?_
   refine S.hq 0 [0] [] [(110, .p 5 1)] .nil fun ac S => ?_
   refine S.hq 1 [1] [] [(111, .v (slv Y1.1.mons.length q140.1))] .nil fun ac S => ?_
   refine S.hq 2 [2] [] [(112, .v (I m))] .nil fun ac S => ?_
   refine S.hq 3 [3] [] [(113, .v (pt q140.1.b (q140.1.off + m.toNat * 9)))] (.cons (qt o139.rn m Tryz.underlying57) .nil) fun ac S => ?_
   refine S.hq 4 [4] [] [(114, .v (pt q140.1.b (q140.1.off + m.toNat * 9 + 3)))] .nil fun ac S => ?_
   refine S.hq 5 [5] [] [(115, .v (slv (el Y1.1.mons m.toNat).guests.length (q140.2 m.toNat).guests.1))] (.cons (qc o139.rn 25 m.toNat 3 (slv (el Y1.1.mons m.toNat).guests.length (q140.2 m.toNat).guests.1)) .nil) fun ac S => ?_
   refine S.hq 6 [6] [] [(116, .v (I g))] .nil fun ac S => ?_
   refine S.hq 7 [7] [] [(117, .v (GT.val ({ (el (f_monAt h m).1.guests g.toNat) with exit := (f_faultExit (f_addrPage (f_address (el (f_monAt h m).1.guests g.toNat))) ((f_wantOf (el (f_monAt h m).1.guests g.toNat)) == 4)) } : TGuest) q322))] .nil fun ac S => ?_
   refine S.hq 8 [8] [] [(118, .v (pt (q140.2 m.toNat).guests.1.b ((q140.2 m.toNat).guests.1.off + g.toNat * 15)))] (.cons (qt (RMon.guests (d := (el Y1.1.mons m.toNat)) (LRd.el o139.rn m.toNat (by omega))) g Tryz.underlying25) .nil) fun ac S => ?_
   refine WD.one (i := 9) (by kernel_rfl) ?_
   obtain ⟨F335, o336, s337, b338⟩ := foc2_Mon_guests o139 (k := m.toNat) (show m.toNat < Y1.1.mons.length by omega)
   have l339 := LRd.le o336.rn
   have n340 := o336.sub
   refine id (S.sV (α := TGuest) o336 (t := 51) (k := g.toNat) (off := (q140.2 m.toNat).guests.1.off + g.toNat * 15) o324 (Disj.symm (Disj.symm (Disj.part d332 s337))) fun w N F342 q343 S up o341 d344 s345 n346 => ?_)
   refine WD.last (by kernel_rfl) ?_
   have d352 := d344 _ (Disj.symm (Disj.part (Disj.symm d319) s337)) d331 o136.sub
   have d353 := d344 _ (Disj.symm (Disj.part (Disj.symm d316) s337)) d333 o142.sub
   have d354 := d344 _ (Disj.symm (Disj.part (Disj.symm d318) s337)) d334 o145.sub
   replace o6 := o6.upF (Disj.symm (Disj.part (Disj.symm d297) s337)) up
   replace o9 := o9.upF (Disj.symm (Disj.part (Disj.symm d301) s337)) up
   replace o12 := o12.upF (Disj.symm (Disj.part (Disj.symm d305) s337)) up
   replace o15 := o15.upF (Disj.symm (Disj.part (Disj.symm d309) s337)) up
   replace o27 := o27.upF (Disj.symm (Disj.part (Disj.symm d313) s337)) up
   replace o136 := o136.upF (Disj.symm (Disj.part (Disj.symm d319) s337)) up
   replace o142 := o142.upF (Disj.symm (Disj.part (Disj.symm d316) s337)) up
   replace o145 := o145.upF (Disj.symm (Disj.part (Disj.symm d318) s337)) up
   clear d344 o336
   obtain ⟨p355, o356, c357⟩ := b338 _ _ _ _ _ F323 up o341 s345 d332 (by show [slv _ _] = [slv _ _]; rw [List.length_set]) (fun b h => n346 b (n340 b h))
   clear up o341 n346
   have l358 : (Y1.1.mons.set m.toNat ({ el Y1.1.mons m.toNat with guests := ((el Y1.1.mons m.toNat).guests.set g.toNat ({ (el (f_monAt h m).1.guests g.toNat) with exit := (f_faultExit (f_addrPage (f_address (el (f_monAt h m).1.guests g.toNat))) ((f_wantOf (el (f_monAt h m).1.guests g.toNat)) == 4)) } : TGuest)) })).length = Y1.1.mons.length := List.length_set
   replace S := S.z (σ' := ⟨[(6, .p 1 0), (15, .p 5 0), (117, .v (GT.val ({ (el (f_monAt h m).1.guests g.toNat) with exit := (f_faultExit (f_addrPage (f_address (el (f_monAt h m).1.guests g.toNat))) ((f_wantOf (el (f_monAt h m).1.guests g.toNat)) == 4)) } : TGuest) q322)), (118, .v (pt (q140.2 m.toNat).guests.1.b ((q140.2 m.toNat).guests.1.off + g.toNat * 15)))], [GT.cells h ph, Zc THost, [slv h.mem.length q1.mem.1, slv h.mons.length q1.mons.1, slv h.buf.length q1.buf.1, slv h.iobuf.length q1.iobuf.1], GT.cells (f_monAt h m).1 q23, GT.cells ({ (el (f_monAt h m).1.guests g.toNat) with exit := (f_faultExit (f_addrPage (f_address (el (f_monAt h m).1.guests g.toNat))) ((f_wantOf (el (f_monAt h m).1.guests g.toNat)) == 4)) } : TGuest) q322, [slv Y1.1.mem.length q137.1, slv Y1.1.mons.length q140.1, slv Y1.1.buf.length q143.1, slv Y1.1.iobuf.length q146.1]]⟩)
   replace S := S.cast (σ' := ⟨[(6, .p 1 0), (15, .p 5 0), (117, .v (GT.val ({ (el (f_monAt h m).1.guests g.toNat) with exit := (f_faultExit (f_addrPage (f_address (el (f_monAt h m).1.guests g.toNat))) ((f_wantOf (el (f_monAt h m).1.guests g.toNat)) == 4)) } : TGuest) q322)), (118, .v (pt (q140.2 m.toNat).guests.1.b ((q140.2 m.toNat).guests.1.off + g.toNat * 15)))], [GT.cells h ph, Zc THost, [slv h.mem.length q1.mem.1, slv h.mons.length q1.mons.1, slv h.buf.length q1.buf.1, slv h.iobuf.length q1.iobuf.1], GT.cells (f_monAt h m).1 q23, GT.cells ({ (el (f_monAt h m).1.guests g.toNat) with exit := (f_faultExit (f_addrPage (f_address (el (f_monAt h m).1.guests g.toNat))) ((f_wantOf (el (f_monAt h m).1.guests g.toNat)) == 4)) } : TGuest) q322, [slv Y1.1.mem.length q137.1, slv (Y1.1.mons.set m.toNat ({ el Y1.1.mons m.toNat with guests := ((el Y1.1.mons m.toNat).guests.set g.toNat ({ (el (f_monAt h m).1.guests g.toNat) with exit := (f_faultExit (f_addrPage (f_address (el (f_monAt h m).1.guests g.toNat))) ((f_wantOf (el (f_monAt h m).1.guests g.toNat)) == 4)) } : TGuest)) })).length q140.1, slv Y1.1.buf.length q143.1, slv Y1.1.iobuf.length q146.1]]⟩) (by rw [show (Y1.1.mons.set m.toNat ({ el Y1.1.mons m.toNat with guests := ((el Y1.1.mons m.toNat).guests.set g.toNat ({ (el (f_monAt h m).1.guests g.toNat) with exit := (f_faultExit (f_addrPage (f_address (el (f_monAt h m).1.guests g.toNat))) ((f_wantOf (el (f_monAt h m).1.guests g.toNat)) == 4)) } : TGuest)) })).length = Y1.1.mons.length by omega])
   refine WD.done (by kernel_rfl) ?_ _
   refine S.ex fun S => ?_
   refine S.gr 9 .nil [GT.val (⟨Y1.1.mem, (Y1.1.mons.set m.toNat ({ el Y1.1.mons m.toNat with guests := ((el Y1.1.mons m.toNat).guests.set g.toNat ({ (el (f_monAt h m).1.guests g.toNat) with exit := (f_faultExit (f_addrPage (f_address (el (f_monAt h m).1.guests g.toNat))) ((f_wantOf (el (f_monAt h m).1.guests g.toNat)) == 4)) } : TGuest)) })), Y1.1.buf, Y1.1.iobuf⟩ : THost) (⟨q137, (q140.1, p355), q143, q146⟩ : PHost), B true] fun ac w β S => ?_
   have o359 := ow_Host (x := (⟨Y1.1.mem, (Y1.1.mons.set m.toNat ({ el Y1.1.mons m.toNat with guests := ((el Y1.1.mons m.toNat).guests.set g.toNat ({ (el (f_monAt h m).1.guests g.toNat) with exit := (f_faultExit (f_addrPage (f_address (el (f_monAt h m).1.guests g.toNat))) ((f_wantOf (el (f_monAt h m).1.guests g.toNat)) == 4)) } : TGuest)) })), Y1.1.buf, Y1.1.iobuf⟩ : THost)) (p := (⟨q137, (q140.1, p355), q143, q146⟩ : PHost)) o136 o356 o142 o145 (Disj.symm (Disj.or (Disj.symm d319) (Disj.symm d352))) (Disj.symm d315) (Disj.symm d317) (Disj.symm (Disj.symm (Disj.or (Disj.symm d316) (Disj.symm d353)))) (Disj.symm (Disj.symm (Disj.or (Disj.symm d318) (Disj.symm d354)))) d314 
   exact ret2_of (p' := ()) S (show (f_hostStep h m g).1 = (⟨Y1.1.mem, (Y1.1.mons.set m.toNat ({ el Y1.1.mons m.toNat with guests := ((el Y1.1.mons m.toNat).guests.set g.toNat ({ (el (f_monAt h m).1.guests g.toNat) with exit := (f_faultExit (f_addrPage (f_address (el (f_monAt h m).1.guests g.toNat))) ((f_wantOf (el (f_monAt h m).1.guests g.toNat)) == 4)) } : TGuest)) })), Y1.1.buf, Y1.1.iobuf⟩ : THost) from k0_impl_HostStep) (show (f_hostStep h m g).2 = true from k2_impl_HostStep) rfl rfl o359 trivial
  have h360 := not_f h320
  refine S.gd 7 .nil ((f_wantOf (el (f_monAt h m).1.guests g.toNat)) == 4) (fun ac w β h361 g362 S => ?_) (fun ac w β h361 g362 S => ?_)
  ·refine S.go 2 .nil fun ac w β S => ?_
   refine drw ?_
   refine S.draw0 (f := 10) 9 (by kernel_rfl) (by kernel_rfl) fun w S => ?_
   refine S.hq 0 [0] [] [(99, .p 5 0)] .nil fun ac S => ?_
   refine S.hq 1 [1] [] [(100, .v (slv Y1.1.mem.length q137.1))] .nil fun ac S => ?_
   refine S.hq 2 [2] [] [(101, .v (I Y1.2.1))] .nil fun ac S => ?_
   refine S.hq 3 [3] [] [(102, .v (I (f_address (el (f_monAt h m).1.guests g.toNat))))] .nil fun ac S => ?_
   refine S.hq 5 [5] [] [(104, .p 4 1)] .nil fun ac S => ?_
   refine S.hq 6 [6] [] [(105, .v (I (el (f_monAt h m).1.guests g.toNat).acc))] .nil fun ac S => ?_
   refine S.sq 4 [] [(103, .v (I (f_addrCell (f_address (el (f_monAt h m).1.guests g.toNat)))))] 6 [] (.cons (Q_call fun w hw => c_impl_AddrCell w (f_address (el (f_monAt h m).1.guests g.toNat)) (address_in64 (LRd.el (RMon.guests (d := (f_monAt h m).1) o27.rn) g.toNat (by omega)))) .nil) fun ac w β S => ?_
   refine WD.one (i := 7) (by kernel_rfl) ?_
   refine id (S.k1 106 (c_impl_WithCell w Y1.1.mem q137 (S.rd o136.rn) Y1.2.1 (f_addrCell (f_address (el (f_monAt h m).1.guests g.toNat))) (el (f_monAt h m).1.guests g.toNat).acc (RGuest.acc (d := (el (f_monAt h m).1.guests g.toNat)) (LRd.el (RMon.guests (d := (f_monAt h m).1) o27.rn) g.toNat (by omega)))) fun ac w N q363 F364 S up o365 d366 => ?_)
   refine WD.next S up (by kernel_rfl) ?_
   have d373 := Disj.w d366 o139.sub
   have d374 := Disj.w d366 o142.sub
   have d375 := Disj.w d366 o145.sub
   replace o6 := o6.up up
   replace o9 := o9.up up
   replace o12 := o12.up up
   replace o15 := o15.up up
   replace o27 := o27.up up
   replace o136 := o136.up up
   replace o139 := o139.up up
   replace o142 := o142.up up
   replace o145 := o145.up up
   clear up d366
   refine S.hq 8 [8] [] [(107, .p 5 0)] .nil fun ac S => ?_
   refine S.sl 9 [] [] 6 [(5, [slv (f_withCell Y1.1.mem Y1.2.1 (f_addrCell (f_address (el (f_monAt h m).1.guests g.toNat))) (el (f_monAt h m).1.guests g.toNat).acc).length q363.1, slv Y1.1.mons.length q140.1, slv Y1.1.buf.length q143.1, slv Y1.1.iobuf.length q146.1])] .nil fun ac w β S => ?_
   refine WD.done (by kernel_rfl) ?_ _
   refine S.ex fun S => ?_
   refine S.go 3 .nil fun ac w β S => S.K1 (r := f_moved (el (f_monAt h m).1.guests g.toNat)) (d := 109) (c_impl_Stored w (el (f_monAt h m).1.guests g.toNat) (q23.guests.2 g.toNat) (S.rd (LRd.el (RMon.guests (d := (f_monAt h m).1) o27.rn) g.toNat (by omega)))) fun ac w N q376 F377 S up o378 d379 => ?_
   have d385 := Disj.w d379 o139.sub
   have d386 := Disj.w d379 o142.sub
   have d387 := Disj.w d379 o145.sub
   have d388 := Disj.w d379 o365.sub
   replace o6 := o6.up up
   replace o9 := o9.up up
   replace o12 := o12.up up
   replace o15 := o15.up up
   replace o27 := o27.up up
   replace o139 := o139.up up
   replace o142 := o142.up up
   replace o145 := o145.up up
   replace o365 := o365.up up
   clear up d379
   refine S.go 5 .nil fun ac w β S => ?_
   refine drw ?_
   refine S.draw0 (f := 10) 9 (by kernel_rfl) (by kernel_rfl) fun w S => ?_
   refine S.hq 0 [0] [] [(110, .p 5 1)] .nil fun ac S => ?_
   refine S.hq 1 [1] [] [(111, .v (slv Y1.1.mons.length q140.1))] .nil fun ac S => ?_
   refine S.hq 2 [2] [] [(112, .v (I m))] .nil fun ac S => ?_
   refine S.hq 3 [3] [] [(113, .v (pt q140.1.b (q140.1.off + m.toNat * 9)))] (.cons (qt o139.rn m Tryz.underlying57) .nil) fun ac S => ?_
   refine S.hq 4 [4] [] [(114, .v (pt q140.1.b (q140.1.off + m.toNat * 9 + 3)))] .nil fun ac S => ?_
   refine S.hq 5 [5] [] [(115, .v (slv (el Y1.1.mons m.toNat).guests.length (q140.2 m.toNat).guests.1))] (.cons (qc o139.rn 25 m.toNat 3 (slv (el Y1.1.mons m.toNat).guests.length (q140.2 m.toNat).guests.1)) .nil) fun ac S => ?_
   refine S.hq 6 [6] [] [(116, .v (I g))] .nil fun ac S => ?_
   refine S.hq 7 [7] [] [(117, .v (GT.val (f_moved (el (f_monAt h m).1.guests g.toNat)) q376))] .nil fun ac S => ?_
   refine S.hq 8 [8] [] [(118, .v (pt (q140.2 m.toNat).guests.1.b ((q140.2 m.toNat).guests.1.off + g.toNat * 15)))] (.cons (qt (RMon.guests (d := (el Y1.1.mons m.toNat)) (LRd.el o139.rn m.toNat (by omega))) g Tryz.underlying25) .nil) fun ac S => ?_
   refine WD.one (i := 9) (by kernel_rfl) ?_
   obtain ⟨F389, o390, s391, b392⟩ := foc2_Mon_guests o139 (k := m.toNat) (show m.toNat < Y1.1.mons.length by omega)
   have l393 := LRd.le o390.rn
   have n394 := o390.sub
   refine id (S.sV (α := TGuest) o390 (t := 51) (k := g.toNat) (off := (q140.2 m.toNat).guests.1.off + g.toNat * 15) o378 (Disj.symm (Disj.symm (Disj.part d385 s391))) fun w N F396 q397 S up o395 d398 s399 n400 => ?_)
   refine WD.last (by kernel_rfl) ?_
   have d406 := d398 _ (Disj.symm (Disj.part (Disj.symm d316) s391)) d386 o142.sub
   have d407 := d398 _ (Disj.symm (Disj.part (Disj.symm d318) s391)) d387 o145.sub
   have d408 := d398 _ (Disj.symm (Disj.part d373 s391)) d388 o365.sub
   replace o6 := o6.upF (Disj.symm (Disj.part (Disj.symm d297) s391)) up
   replace o9 := o9.upF (Disj.symm (Disj.part (Disj.symm d301) s391)) up
   replace o12 := o12.upF (Disj.symm (Disj.part (Disj.symm d305) s391)) up
   replace o15 := o15.upF (Disj.symm (Disj.part (Disj.symm d309) s391)) up
   replace o27 := o27.upF (Disj.symm (Disj.part (Disj.symm d313) s391)) up
   replace o142 := o142.upF (Disj.symm (Disj.part (Disj.symm d316) s391)) up
   replace o145 := o145.upF (Disj.symm (Disj.part (Disj.symm d318) s391)) up
   replace o365 := o365.upF (Disj.symm (Disj.part d373 s391)) up
   clear d398 o390
   obtain ⟨p409, o410, c411⟩ := b392 _ _ _ _ _ F377 up o395 s399 d385 (by show [slv _ _] = [slv _ _]; rw [List.length_set]) (fun b h => n400 b (n394 b h))
   clear up o395 n400
   have l412 : (Y1.1.mons.set m.toNat ({ el Y1.1.mons m.toNat with guests := ((el Y1.1.mons m.toNat).guests.set g.toNat (f_moved (el (f_monAt h m).1.guests g.toNat))) })).length = Y1.1.mons.length := List.length_set
   replace S := S.z (σ' := ⟨[(6, .p 1 0), (15, .p 5 0), (117, .v (GT.val (f_moved (el (f_monAt h m).1.guests g.toNat)) q376)), (118, .v (pt (q140.2 m.toNat).guests.1.b ((q140.2 m.toNat).guests.1.off + g.toNat * 15)))], [GT.cells h ph, Zc THost, [slv h.mem.length q1.mem.1, slv h.mons.length q1.mons.1, slv h.buf.length q1.buf.1, slv h.iobuf.length q1.iobuf.1], GT.cells (f_monAt h m).1 q23, GT.cells (f_moved (el (f_monAt h m).1.guests g.toNat)) q376, [slv (f_withCell Y1.1.mem Y1.2.1 (f_addrCell (f_address (el (f_monAt h m).1.guests g.toNat))) (el (f_monAt h m).1.guests g.toNat).acc).length q363.1, slv Y1.1.mons.length q140.1, slv Y1.1.buf.length q143.1, slv Y1.1.iobuf.length q146.1]]⟩)
   replace S := S.cast (σ' := ⟨[(6, .p 1 0), (15, .p 5 0), (117, .v (GT.val (f_moved (el (f_monAt h m).1.guests g.toNat)) q376)), (118, .v (pt (q140.2 m.toNat).guests.1.b ((q140.2 m.toNat).guests.1.off + g.toNat * 15)))], [GT.cells h ph, Zc THost, [slv h.mem.length q1.mem.1, slv h.mons.length q1.mons.1, slv h.buf.length q1.buf.1, slv h.iobuf.length q1.iobuf.1], GT.cells (f_monAt h m).1 q23, GT.cells (f_moved (el (f_monAt h m).1.guests g.toNat)) q376, [slv (f_withCell Y1.1.mem Y1.2.1 (f_addrCell (f_address (el (f_monAt h m).1.guests g.toNat))) (el (f_monAt h m).1.guests g.toNat).acc).length q363.1, slv (Y1.1.mons.set m.toNat ({ el Y1.1.mons m.toNat with guests := ((el Y1.1.mons m.toNat).guests.set g.toNat (f_moved (el (f_monAt h m).1.guests g.toNat))) })).length q140.1, slv Y1.1.buf.length q143.1, slv Y1.1.iobuf.length q146.1]]⟩) (by rw [show (Y1.1.mons.set m.toNat ({ el Y1.1.mons m.toNat with guests := ((el Y1.1.mons m.toNat).guests.set g.toNat (f_moved (el (f_monAt h m).1.guests g.toNat))) })).length = Y1.1.mons.length by omega])
   refine WD.done (by kernel_rfl) ?_ _
   refine S.ex fun S => ?_
   refine S.gr 9 .nil [GT.val (⟨(f_withCell Y1.1.mem Y1.2.1 (f_addrCell (f_address (el (f_monAt h m).1.guests g.toNat))) (el (f_monAt h m).1.guests g.toNat).acc), (Y1.1.mons.set m.toNat ({ el Y1.1.mons m.toNat with guests := ((el Y1.1.mons m.toNat).guests.set g.toNat (f_moved (el (f_monAt h m).1.guests g.toNat))) })), Y1.1.buf, Y1.1.iobuf⟩ : THost) (⟨q363, (q140.1, p409), q143, q146⟩ : PHost), B true] fun ac w β S => ?_
   have o413 := ow_Host (x := (⟨(f_withCell Y1.1.mem Y1.2.1 (f_addrCell (f_address (el (f_monAt h m).1.guests g.toNat))) (el (f_monAt h m).1.guests g.toNat).acc), (Y1.1.mons.set m.toNat ({ el Y1.1.mons m.toNat with guests := ((el Y1.1.mons m.toNat).guests.set g.toNat (f_moved (el (f_monAt h m).1.guests g.toNat))) })), Y1.1.buf, Y1.1.iobuf⟩ : THost)) (p := (⟨q363, (q140.1, p409), q143, q146⟩ : PHost)) o365 o410 o142 o145 (Disj.symm (Disj.or d373 (Disj.symm d408))) (Disj.symm d374) (Disj.symm d375) (Disj.symm (Disj.symm (Disj.or (Disj.symm d316) (Disj.symm d406)))) (Disj.symm (Disj.symm (Disj.or (Disj.symm d318) (Disj.symm d407)))) d314 
   exact ret2_of (p' := ()) S (show (f_hostStep h m g).1 = (⟨(f_withCell Y1.1.mem Y1.2.1 (f_addrCell (f_address (el (f_monAt h m).1.guests g.toNat))) (el (f_monAt h m).1.guests g.toNat).acc), (Y1.1.mons.set m.toNat ({ el Y1.1.mons m.toNat with guests := ((el Y1.1.mons m.toNat).guests.set g.toNat (f_moved (el (f_monAt h m).1.guests g.toNat))) })), Y1.1.buf, Y1.1.iobuf⟩ : THost) from k0_impl_HostStep) (show (f_hostStep h m g).2 = true from k2_impl_HostStep) rfl rfl o413 trivial
  refine S.go 1 .nil fun ac w β S => ?_
  refine drw ?_
  refine S.draw0 (f := 9) 8 (by kernel_rfl) (by kernel_rfl) fun w S => ?_
  refine S.hq 0 [0] [] [(80, .v (GT.val (el (f_monAt h m).1.guests g.toNat) (q23.guests.2 g.toNat)))] .nil fun ac S => ?_
  refine S.hq 1 [1] [] [(81, .p 5 0)] .nil fun ac S => ?_
  refine S.hq 2 [2] [] [(82, .v (slv Y1.1.mem.length q137.1))] .nil fun ac S => ?_
  refine S.hq 3 [3] [] [(83, .v (I Y1.2.1))] .nil fun ac S => ?_
  refine S.hq 4 [4] [] [(84, .v (I (f_address (el (f_monAt h m).1.guests g.toNat))))] .nil fun ac S => ?_
  refine S.sq 5 [] [(85, .v (I (f_addrCell (f_address (el (f_monAt h m).1.guests g.toNat)))))] 6 [] (.cons (Q_call fun w hw => c_impl_AddrCell w (f_address (el (f_monAt h m).1.guests g.toNat)) (address_in64 (LRd.el (RMon.guests (d := (f_monAt h m).1) o27.rn) g.toNat (by omega)))) .nil) fun ac w β S => ?_
  refine S.sq 6 [] [(86, .v (I (f_cellAt Y1.1.mem Y1.2.1 (f_addrCell (f_address (el (f_monAt h m).1.guests g.toNat))))))] 6 [] (.cons (Q_call fun w hw => c_impl_CellAt w Y1.1.mem q137 (rd_of o136.rn hw) Y1.2.1 (f_addrCell (f_address (el (f_monAt h m).1.guests g.toNat)))) .nil) fun ac w β S => ?_
  refine WD.one (i := 7) (by kernel_rfl) ?_
  refine id (S.k1 87 (c_impl_Loaded w (el (f_monAt h m).1.guests g.toNat) (q23.guests.2 g.toNat) (S.rd (LRd.el (RMon.guests (d := (f_monAt h m).1) o27.rn) g.toNat (by omega))) (f_cellAt Y1.1.mem Y1.2.1 (f_addrCell (f_address (el (f_monAt h m).1.guests g.toNat)))) (cellAt_in64 o136.rn Y1.2.1 (f_addrCell (f_address (el (f_monAt h m).1.guests g.toNat))))) fun ac w N q414 F415 S up o416 d417 => ?_)
  refine WD.next S up (by kernel_rfl) ?_
  have d423 := Disj.w d417 o136.sub
  have d424 := Disj.w d417 o139.sub
  have d425 := Disj.w d417 o142.sub
  have d426 := Disj.w d417 o145.sub
  replace o6 := o6.up up
  replace o9 := o9.up up
  replace o12 := o12.up up
  replace o15 := o15.up up
  replace o27 := o27.up up
  replace o136 := o136.up up
  replace o139 := o139.up up
  replace o142 := o142.up up
  replace o145 := o145.up up
  clear up d417
  refine S.sl 8 [] [] 6 [(4, GT.cells (f_loaded (el (f_monAt h m).1.guests g.toNat) (f_cellAt Y1.1.mem Y1.2.1 (f_addrCell (f_address (el (f_monAt h m).1.guests g.toNat))))) q414)] .nil fun ac w β S => ?_
  refine WD.done (by kernel_rfl) ?_ _
  refine S.ex fun S => ?_
  refine S.go 3 .nil fun ac w β S => ?_
  refine drw ?_
  refine S.draw0 (f := 10) 9 (by kernel_rfl) (by kernel_rfl) fun w S => ?_
  refine S.hq 0 [0] [] [(110, .p 5 1)] .nil fun ac S => ?_
  refine S.hq 1 [1] [] [(111, .v (slv Y1.1.mons.length q140.1))] .nil fun ac S => ?_
  refine S.hq 2 [2] [] [(112, .v (I m))] .nil fun ac S => ?_
  refine S.hq 3 [3] [] [(113, .v (pt q140.1.b (q140.1.off + m.toNat * 9)))] (.cons (qt o139.rn m Tryz.underlying57) .nil) fun ac S => ?_
  refine S.hq 4 [4] [] [(114, .v (pt q140.1.b (q140.1.off + m.toNat * 9 + 3)))] .nil fun ac S => ?_
  refine S.hq 5 [5] [] [(115, .v (slv (el Y1.1.mons m.toNat).guests.length (q140.2 m.toNat).guests.1))] (.cons (qc o139.rn 25 m.toNat 3 (slv (el Y1.1.mons m.toNat).guests.length (q140.2 m.toNat).guests.1)) .nil) fun ac S => ?_
  refine S.hq 6 [6] [] [(116, .v (I g))] .nil fun ac S => ?_
  refine S.hq 7 [7] [] [(117, .v (GT.val (f_loaded (el (f_monAt h m).1.guests g.toNat) (f_cellAt Y1.1.mem Y1.2.1 (f_addrCell (f_address (el (f_monAt h m).1.guests g.toNat))))) q414))] .nil fun ac S => ?_
  refine S.hq 8 [8] [] [(118, .v (pt (q140.2 m.toNat).guests.1.b ((q140.2 m.toNat).guests.1.off + g.toNat * 15)))] (.cons (qt (RMon.guests (d := (el Y1.1.mons m.toNat)) (LRd.el o139.rn m.toNat (by omega))) g Tryz.underlying25) .nil) fun ac S => ?_
  refine WD.one (i := 9) (by kernel_rfl) ?_
  obtain ⟨F427, o428, s429, b430⟩ := foc2_Mon_guests o139 (k := m.toNat) (show m.toNat < Y1.1.mons.length by omega)
  have l431 := LRd.le o428.rn
  have n432 := o428.sub
  refine id (S.sV (α := TGuest) o428 (t := 51) (k := g.toNat) (off := (q140.2 m.toNat).guests.1.off + g.toNat * 15) o416 (Disj.symm (Disj.symm (Disj.part d424 s429))) fun w N F434 q435 S up o433 d436 s437 n438 => ?_)
  refine WD.last (by kernel_rfl) ?_
  have d444 := d436 _ (Disj.symm (Disj.part (Disj.symm d319) s429)) d423 o136.sub
  have d445 := d436 _ (Disj.symm (Disj.part (Disj.symm d316) s429)) d425 o142.sub
  have d446 := d436 _ (Disj.symm (Disj.part (Disj.symm d318) s429)) d426 o145.sub
  replace o6 := o6.upF (Disj.symm (Disj.part (Disj.symm d297) s429)) up
  replace o9 := o9.upF (Disj.symm (Disj.part (Disj.symm d301) s429)) up
  replace o12 := o12.upF (Disj.symm (Disj.part (Disj.symm d305) s429)) up
  replace o15 := o15.upF (Disj.symm (Disj.part (Disj.symm d309) s429)) up
  replace o27 := o27.upF (Disj.symm (Disj.part (Disj.symm d313) s429)) up
  replace o136 := o136.upF (Disj.symm (Disj.part (Disj.symm d319) s429)) up
  replace o142 := o142.upF (Disj.symm (Disj.part (Disj.symm d316) s429)) up
  replace o145 := o145.upF (Disj.symm (Disj.part (Disj.symm d318) s429)) up
  clear d436 o428
  obtain ⟨p447, o448, c449⟩ := b430 _ _ _ _ _ F415 up o433 s437 d424 (by show [slv _ _] = [slv _ _]; rw [List.length_set]) (fun b h => n438 b (n432 b h))
  clear up o433 n438
  have l450 : (Y1.1.mons.set m.toNat ({ el Y1.1.mons m.toNat with guests := ((el Y1.1.mons m.toNat).guests.set g.toNat (f_loaded (el (f_monAt h m).1.guests g.toNat) (f_cellAt Y1.1.mem Y1.2.1 (f_addrCell (f_address (el (f_monAt h m).1.guests g.toNat)))))) })).length = Y1.1.mons.length := List.length_set
  replace S := S.z (σ' := ⟨[(6, .p 1 0), (15, .p 5 0), (117, .v (GT.val (f_loaded (el (f_monAt h m).1.guests g.toNat) (f_cellAt Y1.1.mem Y1.2.1 (f_addrCell (f_address (el (f_monAt h m).1.guests g.toNat))))) q414)), (118, .v (pt (q140.2 m.toNat).guests.1.b ((q140.2 m.toNat).guests.1.off + g.toNat * 15)))], [GT.cells h ph, Zc THost, [slv h.mem.length q1.mem.1, slv h.mons.length q1.mons.1, slv h.buf.length q1.buf.1, slv h.iobuf.length q1.iobuf.1], GT.cells (f_monAt h m).1 q23, GT.cells (f_loaded (el (f_monAt h m).1.guests g.toNat) (f_cellAt Y1.1.mem Y1.2.1 (f_addrCell (f_address (el (f_monAt h m).1.guests g.toNat))))) q414, [slv Y1.1.mem.length q137.1, slv Y1.1.mons.length q140.1, slv Y1.1.buf.length q143.1, slv Y1.1.iobuf.length q146.1]]⟩)
  replace S := S.cast (σ' := ⟨[(6, .p 1 0), (15, .p 5 0), (117, .v (GT.val (f_loaded (el (f_monAt h m).1.guests g.toNat) (f_cellAt Y1.1.mem Y1.2.1 (f_addrCell (f_address (el (f_monAt h m).1.guests g.toNat))))) q414)), (118, .v (pt (q140.2 m.toNat).guests.1.b ((q140.2 m.toNat).guests.1.off + g.toNat * 15)))], [GT.cells h ph, Zc THost, [slv h.mem.length q1.mem.1, slv h.mons.length q1.mons.1, slv h.buf.length q1.buf.1, slv h.iobuf.length q1.iobuf.1], GT.cells (f_monAt h m).1 q23, GT.cells (f_loaded (el (f_monAt h m).1.guests g.toNat) (f_cellAt Y1.1.mem Y1.2.1 (f_addrCell (f_address (el (f_monAt h m).1.guests g.toNat))))) q414, [slv Y1.1.mem.length q137.1, slv (Y1.1.mons.set m.toNat ({ el Y1.1.mons m.toNat with guests := ((el Y1.1.mons m.toNat).guests.set g.toNat (f_loaded (el (f_monAt h m).1.guests g.toNat) (f_cellAt Y1.1.mem Y1.2.1 (f_addrCell (f_address (el (f_monAt h m).1.guests g.toNat)))))) })).length q140.1, slv Y1.1.buf.length q143.1, slv Y1.1.iobuf.length q146.1]]⟩) (by rw [show (Y1.1.mons.set m.toNat ({ el Y1.1.mons m.toNat with guests := ((el Y1.1.mons m.toNat).guests.set g.toNat (f_loaded (el (f_monAt h m).1.guests g.toNat) (f_cellAt Y1.1.mem Y1.2.1 (f_addrCell (f_address (el (f_monAt h m).1.guests g.toNat)))))) })).length = Y1.1.mons.length by omega])
  refine WD.done (by kernel_rfl) ?_ _
  refine S.ex fun S => ?_
  refine S.gr 9 .nil [GT.val (⟨Y1.1.mem, (Y1.1.mons.set m.toNat ({ el Y1.1.mons m.toNat with guests := ((el Y1.1.mons m.toNat).guests.set g.toNat (f_loaded (el (f_monAt h m).1.guests g.toNat) (f_cellAt Y1.1.mem Y1.2.1 (f_addrCell (f_address (el (f_monAt h m).1.guests g.toNat)))))) })), Y1.1.buf, Y1.1.iobuf⟩ : THost) (⟨q137, (q140.1, p447), q143, q146⟩ : PHost), B true] fun ac w β S => ?_
  have o451 := ow_Host (x := (⟨Y1.1.mem, (Y1.1.mons.set m.toNat ({ el Y1.1.mons m.toNat with guests := ((el Y1.1.mons m.toNat).guests.set g.toNat (f_loaded (el (f_monAt h m).1.guests g.toNat) (f_cellAt Y1.1.mem Y1.2.1 (f_addrCell (f_address (el (f_monAt h m).1.guests g.toNat)))))) })), Y1.1.buf, Y1.1.iobuf⟩ : THost)) (p := (⟨q137, (q140.1, p447), q143, q146⟩ : PHost)) o136 o448 o142 o145 (Disj.symm (Disj.or (Disj.symm d319) (Disj.symm d444))) (Disj.symm d315) (Disj.symm d317) (Disj.symm (Disj.symm (Disj.or (Disj.symm d316) (Disj.symm d445)))) (Disj.symm (Disj.symm (Disj.or (Disj.symm d318) (Disj.symm d446)))) d314 
  exact ret2_of (p' := ()) S (show (f_hostStep h m g).1 = (⟨Y1.1.mem, (Y1.1.mons.set m.toNat ({ el Y1.1.mons m.toNat with guests := ((el Y1.1.mons m.toNat).guests.set g.toNat (f_loaded (el (f_monAt h m).1.guests g.toNat) (f_cellAt Y1.1.mem Y1.2.1 (f_addrCell (f_address (el (f_monAt h m).1.guests g.toNat)))))) })), Y1.1.buf, Y1.1.iobuf⟩ : THost) from k0_impl_HostStep) (show (f_hostStep h m g).2 = true from k2_impl_HostStep) rfl rfl o451 trivial
 refine S.gd 6 .nil ((f_wantOf (el (f_monAt h m).1.guests g.toNat)) == 4) (fun ac w β h452 g453 S => ?_) (fun ac w β h452 g453 S => ?_)
 ·refine S.go 9 .nil fun ac w β S => ?_
  refine drw ?_
  let σ454 : Sy := ⟨[(1, .v (I m)), (2, .v (I g)), (3, .p 0 0), (6, .p 1 0), (11, .p 4 0), (13, .v (I (f_address (el (f_monAt h m).1.guests g.toNat)))), (14, .v (B ((f_wantOf (el (f_monAt h m).1.guests g.toNat)) == 4)))], [GT.cells h ph, Zc THost, [slv h.mem.length q1.mem.1, slv h.mons.length q1.mons.1, slv h.buf.length q1.buf.1, slv h.iobuf.length q1.iobuf.1], GT.cells (f_monAt h m).1 q23, GT.cells (el (f_monAt h m).1.guests g.toNat) (q23.guests.2 g.toNat)]⟩
  obtain ⟨u0, N0, β0, S, o6, o9, o12, o15, o27⟩ : ∃ u0 N0 β0, St Tryz.prog Tryz.f28.ntmps w0 NoB u0 N0 β0 σ454 ac w ∧ Ow w0 NoB u0 N0 F5 h.mem q1.mem ∧ Ow w0 NoB u0 N0 F8 h.mons q1.mons ∧ Ow w0 NoB u0 N0 F11 h.buf q1.buf ∧ Ow w0 NoB u0 N0 F14 h.iobuf q1.iobuf ∧ Ow w0 NoB u0 N0 F25 (f_monAt h m).1 q23 := ⟨_, _, _, S.z, o6, o9, o12, o15, o27⟩
  obtain ⟨Y1, hT1⟩ : ∃ z, z = f_lookup h m g (f_addrPage (f_address (el (f_monAt h m).1.guests g.toNat))) (f_needOf ((f_wantOf (el (f_monAt h m).1.guests g.toNat)) == 4)) false := ⟨_, rfl⟩
  have l621 := lookup_mons (congrArg Prod.fst hT1) (hs_ok (by assumption) (by assumption) (by assumption))
  try dsimp only at l621
  obtain ⟨Y1, hT1⟩ : ∃ z, z = f_lookup h m g (f_addrPage (f_address (el (f_monAt h m).1.guests g.toNat))) (f_needOf ((f_wantOf (el (f_monAt h m).1.guests g.toNat)) == 4)) false := ⟨_, rfl⟩
  have l652 := lookup_mons (congrArg Prod.fst hT1) (hs_ok (by assumption) (by assumption) (by assumption))
  try dsimp only at l652
  refine wp_region_cut (fun ac w => ∃ q534 F535 q537 F538 q528 F529 q531 F532 u N β, St Tryz.prog Tryz.f28.ntmps w0 NoB u N β (σ454.dl [3] [(15, .p 5 0), (16, .v (I Y1.2.1)), (17, .v (B Y1.2.2))] 6 [(5, [slv Y1.1.mem.length q528.1, slv Y1.1.mons.length q531.1, slv Y1.1.buf.length q534.1, slv Y1.1.iobuf.length q537.1])]) ac w ∧ Ow w0 NoB u N F5 h.mem q1.mem ∧ Ow w0 NoB u N F8 h.mons q1.mons ∧ Ow w0 NoB u N F11 h.buf q1.buf ∧ Ow w0 NoB u N F14 h.iobuf q1.iobuf ∧ Ow w0 NoB u N F25 (f_monAt h m).1 q23 ∧ Ow w0 NoB u N F535 Y1.1.buf q534 ∧ Ow w0 NoB u N F538 Y1.1.iobuf q537 ∧ Ow w0 NoB u N F529 Y1.1.mem q528 ∧ Ow w0 NoB u N F532 Y1.1.mons q531 ∧ Disj F5 F535 ∧ Disj F5 F538 ∧ Disj F5 F529 ∧ Disj F5 F532 ∧ Disj F8 F535 ∧ Disj F8 F538 ∧ Disj F8 F529 ∧ Disj F8 F532 ∧ Disj F11 F535 ∧ Disj F11 F538 ∧ Disj F11 F529 ∧ Disj F11 F532 ∧ Disj F14 F535 ∧ Disj F14 F538 ∧ Disj F14 F529 ∧ Disj F14 F532 ∧ Disj F25 F535 ∧ Disj F25 F538 ∧ Disj F25 F529 ∧ Disj F25 F532 ∧ Disj F535 F538 ∧ Disj F535 F529 ∧ Disj F535 F532 ∧ Disj F538 F529 ∧ Disj F538 F532 ∧ Disj F529 F532) ?_ ?_
  ·refine S.draw0 (f := 16) 13 (by kernel_rfl) (by kernel_rfl) fun w S => ?_
   refine S.hq 0 [0] [] [(69, .v (GT.val h ph))] .nil fun ac S => ?_
   refine S.hq 1 [1] [] [(70, .v (I m))] .nil fun ac S => ?_
   refine S.hq 2 [2] [] [(71, .v (I g))] .nil fun ac S => ?_
   refine S.hq 3 [3] [] [(72, .v (I (f_address (el (f_monAt h m).1.guests g.toNat))))] .nil fun ac S => ?_
   refine S.hq 5 [5] [] [(74, .v (B ((f_wantOf (el (f_monAt h m).1.guests g.toNat)) == 4)))] .nil fun ac S => ?_
   refine WD.nameW fun W hW => ?_
   refine WD.castW (l' := mkL 16 [0, 1, 2, 3, 5]) (by kernel_rfl) ?_
   have hK539 ac w q534 F535 q537 F538 q528 F529 q531 F532 u N β (S : St Tryz.prog Tryz.f28.ntmps w0 NoB u N β (σ454.dl [3] [(15, .p 5 0), (16, .v (I Y1.2.1)), (17, .v (B Y1.2.2))] 6 [(5, [slv Y1.1.mem.length q528.1, slv Y1.1.mons.length q531.1, slv Y1.1.buf.length q534.1, slv Y1.1.iobuf.length q537.1])]) ac w) (o6 : Ow w0 NoB u N F5 h.mem q1.mem) (o9 : Ow w0 NoB u N F8 h.mons q1.mons) (o12 : Ow w0 NoB u N F11 h.buf q1.buf) (o15 : Ow w0 NoB u N F14 h.iobuf q1.iobuf) (o27 : Ow w0 NoB u N F25 (f_monAt h m).1 q23) (o533 : Ow w0 NoB u N F535 Y1.1.buf q534) (o536 : Ow w0 NoB u N F538 Y1.1.iobuf q537) (o527 : Ow w0 NoB u N F529 Y1.1.mem q528) (o530 : Ow w0 NoB u N F532 Y1.1.mons q531) (d540 : Disj F5 F535) (d541 : Disj F5 F538) (d542 : Disj F5 F529) (d543 : Disj F5 F532) (d544 : Disj F8 F535) (d545 : Disj F8 F538) (d546 : Disj F8 F529) (d547 : Disj F8 F532) (d548 : Disj F11 F535) (d549 : Disj F11 F538) (d550 : Disj F11 F529) (d551 : Disj F11 F532) (d552 : Disj F14 F535) (d553 : Disj F14 F538) (d554 : Disj F14 F529) (d555 : Disj F14 F532) (d556 : Disj F25 F535) (d557 : Disj F25 F538) (d558 : Disj F25 F529) (d559 : Disj F25 F532) (d560 : Disj F535 F538) (d561 : Disj F535 F529) (d562 : Disj F535 F532) (d563 : Disj F538 F529) (d564 : Disj F538 F532) (d565 : Disj F529 F532) : W 0 (mkL 16 [0, 1, 2, 3, 4, 5, 6, 7, 8, 9, 10, 11, 12, 13, 14, 15]) ac w := by
    exact od hW ⟨rfl, q534, F535, q537, F538, q528, F529, q531, F532, _, _, _, S.z, o6, o9, o12, o15, o27, o533, o536, o527, o530, d540, d541, d542, d543, d544, d545, d546, d547, d548, d549, d550, d551, d552, d553, d554, d555, d556, d557, d558, d559, d560, d561, d562, d563, d564, d565⟩
   have hK566 ac w q492 F493 q495 F496 q486 F487 q489 F490 u N β (S : St Tryz.prog Tryz.f28.ntmps w0 NoB u N β (σ454.dl [3] [(15, .p 5 0), (77, .v (GT.val Y1.1 (⟨q486, q489, q492, q495⟩ : PHost))), (78, .v (I Y1.2.1)), (79, .v (B Y1.2.2))] 6 [(5, Zc THost)]) ac w) (o6 : Ow w0 NoB u N F5 h.mem q1.mem) (o9 : Ow w0 NoB u N F8 h.mons q1.mons) (o12 : Ow w0 NoB u N F11 h.buf q1.buf) (o15 : Ow w0 NoB u N F14 h.iobuf q1.iobuf) (o27 : Ow w0 NoB u N F25 (f_monAt h m).1 q23) (o491 : Ow w0 NoB u N F493 Y1.1.buf q492) (o494 : Ow w0 NoB u N F496 Y1.1.iobuf q495) (o485 : Ow w0 NoB u N F487 Y1.1.mem q486) (o488 : Ow w0 NoB u N F490 Y1.1.mons q489) (d567 : Disj F5 F493) (d568 : Disj F5 F496) (d569 : Disj F5 F487) (d570 : Disj F5 F490) (d571 : Disj F8 F493) (d572 : Disj F8 F496) (d573 : Disj F8 F487) (d574 : Disj F8 F490) (d575 : Disj F11 F493) (d576 : Disj F11 F496) (d577 : Disj F11 F487) (d578 : Disj F11 F490) (d579 : Disj F14 F493) (d580 : Disj F14 F496) (d581 : Disj F14 F487) (d582 : Disj F14 F490) (d583 : Disj F25 F493) (d584 : Disj F25 F496) (d585 : Disj F25 F487) (d586 : Disj F25 F490) (d587 : Disj F493 F496) (d588 : Disj F493 F487) (d589 : Disj F493 F490) (d590 : Disj F496 F487) (d591 : Disj F496 F490) (d592 : Disj F487 F490) (hNN : NN N0 u0 N u) (hBB : BB σ454.bx.length β0 β) : W 3 (mkL 16 [0, 1, 2, 3, 4, 5, 6, 7, 8, 9, 10, 11, 12]) ac w := by
    exact ox1 hW 13 (S.wl hW [14, 15] .nil fun _ _ _ S => hK539 _ _ q492 F493 q495 F496 q486 F487 q489 F490 _ _ _ S o6 o9 o12 o15 o27 o491 o494 o485 o488 d567 d568 d569 d570 d571 d572 d573 d574 d575 d576 d577 d578 d579 d580 d581 d582 d583 d584 d585 d586 d587 d588 d589 d590 d591 d592)
   have hK593 ac w q492 F493 q495 F496 q486 F487 q489 F490 u N β (S : St Tryz.prog Tryz.f28.ntmps w0 NoB u N β (σ454.dl [3] [(77, .v (GT.val Y1.1 (⟨q486, q489, q492, q495⟩ : PHost))), (78, .v (I Y1.2.1)), (79, .v (B Y1.2.2))] 5 []) ac w) (o6 : Ow w0 NoB u N F5 h.mem q1.mem) (o9 : Ow w0 NoB u N F8 h.mons q1.mons) (o12 : Ow w0 NoB u N F11 h.buf q1.buf) (o15 : Ow w0 NoB u N F14 h.iobuf q1.iobuf) (o27 : Ow w0 NoB u N F25 (f_monAt h m).1 q23) (o491 : Ow w0 NoB u N F493 Y1.1.buf q492) (o494 : Ow w0 NoB u N F496 Y1.1.iobuf q495) (o485 : Ow w0 NoB u N F487 Y1.1.mem q486) (o488 : Ow w0 NoB u N F490 Y1.1.mons q489) (d594 : Disj F5 F493) (d595 : Disj F5 F496) (d596 : Disj F5 F487) (d597 : Disj F5 F490) (d598 : Disj F8 F493) (d599 : Disj F8 F496) (d600 : Disj F8 F487) (d601 : Disj F8 F490) (d602 : Disj F11 F493) (d603 : Disj F11 F496) (d604 : Disj F11 F487) (d605 : Disj F11 F490) (d606 : Disj F14 F493) (d607 : Disj F14 F496) (d608 : Disj F14 F487) (d609 : Disj F14 F490) (d610 : Disj F25 F493) (d611 : Disj F25 F496) (d612 : Disj F25 F487) (d613 : Disj F25 F490) (d614 : Disj F493 F496) (d615 : Disj F493 F487) (d616 : Disj F493 F490) (d617 : Disj F496 F487) (d618 : Disj F496 F490) (d619 : Disj F487 F490) (hNN : NN N0 u0 N u) (hBB : BB σ454.bx.length β0 β) : W 4 (mkL 16 [0, 1, 2, 3, 4, 5, 6, 7, 8, 9, 10, 11]) ac w := by
    exact ox1 hW 12 (S.wq hW hNN hBB [] .nil fun _ _ _ S hB => hK566 _ _ q492 F493 q495 F496 q486 F487 q489 F490 _ _ _ S o6 o9 o12 o15 o27 o491 o494 o485 o488 d594 d595 d596 d597 d598 d599 d600 d601 d602 d603 d604 d605 d606 d607 d608 d609 d610 d611 d612 d613 d614 d615 d616 d617 d618 d619 hNN hB)
   have hK620 ac w u N β (S : St Tryz.prog Tryz.f28.ntmps w0 NoB u N β (σ454.dl [3] [(15, .p 5 0), (69, .v (GT.val h ph)), (70, .v (I m)), (71, .v (I g)), (73, .v (I (f_addrPage (f_address (el (f_monAt h m).1.guests g.toNat))))), (75, .v (I (f_needOf ((f_wantOf (el (f_monAt h m).1.guests g.toNat)) == 4))))] 6 [(5, Zc THost)]) ac w) (o6 : Ow w0 NoB u N F5 h.mem q1.mem) (o9 : Ow w0 NoB u N F8 h.mons q1.mons) (o12 : Ow w0 NoB u N F11 h.buf q1.buf) (o15 : Ow w0 NoB u N F14 h.iobuf q1.iobuf) (o27 : Ow w0 NoB u N F25 (f_monAt h m).1 q23) (hNN : NN N0 u0 N u) (hBB : BB σ454.bx.length β0 β) : W 8 (mkL 16 [0, 1, 2, 3, 4, 5, 6, 12]) ac w := by
    refine ox1 hW 7 ?_
    refine id (S.call3 (r := Y1.1) (r' := Y1.2.1) (r'' := Y1.2.2) (d := 76) (by rw [hT1]; exact c_impl_Lookup w h ph (S.rd (S.arg hh)) m g (f_addrPage (f_address (el (f_monAt h m).1.guests g.toNat))) (addrPage_in64 (address_in64 (LRd.el (RMon.guests (d := (f_monAt h m).1) o27.rn) g.toNat (by omega)))) (f_needOf ((f_wantOf (el (f_monAt h m).1.guests g.toNat)) == 4))) (by kernel_rfl) rfl fun ac w N q622 F623 S up o624 d625 i626 => ?_)
    have hb627 := fun b h => (⟨(up b (hNN b h).1).1, (up b (hNN b h).1).2.trans (hNN b h).2⟩ : _ ∧ _)
    refine WD.sc S hb627 hBB fun hC => ?_
    have d628 := Disj.w d625 o6.sub
    have d629 := Disj.w d625 o9.sub
    have d630 := Disj.w d625 o12.sub
    have d631 := Disj.w d625 o15.sub
    have d632 := Disj.w d625 o27.sub
    replace o6 := o6.up up
    replace o9 := o9.up up
    replace o12 := o12.up up
    replace o15 := o15.up up
    replace o27 := o27.up up
    clear up d625
    obtain ⟨F633, F636, F639, F642, o634, o637, o640, o643, s635, s638, s641, s644, d645, d646, d647, d648, d649, d650⟩ := sp_Host o624
    exact S.wh hW [8, 9, 10, 11] hC fun _ S => hK566 _ _ q622.buf F639 q622.iobuf F642 q622.mem F633 q622.mons F636 _ _ _ S o6 o9 o12 o15 o27 o640 o643 o634 o637 (Disj.symm (Disj.part (Disj.symm d628) s641)) (Disj.symm (Disj.part (Disj.symm d628) s644)) (Disj.symm (Disj.part (Disj.symm d628) s635)) (Disj.symm (Disj.part (Disj.symm d628) s638)) (Disj.symm (Disj.part (Disj.symm d629) s641)) (Disj.symm (Disj.part (Disj.symm d629) s644)) (Disj.symm (Disj.part (Disj.symm d629) s635)) (Disj.symm (Disj.part (Disj.symm d629) s638)) (Disj.symm (Disj.part (Disj.symm d630) s641)) (Disj.symm (Disj.part (Disj.symm d630) s644)) (Disj.symm (Disj.part (Disj.symm d630) s635)) (Disj.symm (Disj.part (Disj.symm d630) s638)) (Disj.symm (Disj.part (Disj.symm d631) s641)) (Disj.symm (Disj.part (Disj.symm d631) s644)) (Disj.symm (Disj.part (Disj.symm d631) s635)) (Disj.symm (Disj.part (Disj.symm d631) s638)) (Disj.symm (Disj.part (Disj.symm d632) s641)) (Disj.symm (Disj.part (Disj.symm d632) s644)) (Disj.symm (Disj.part (Disj.symm d632) s635)) (Disj.symm (Disj.part (Disj.symm d632) s638)) d650 (Disj.symm d646) (Disj.symm d648) (Disj.symm d647) (Disj.symm d649) d645 hb627 hBB
   have hK651 ac w u N β (S : St Tryz.prog Tryz.f28.ntmps w0 NoB u N β (σ454.dl [3] [(69, .v (GT.val h ph)), (70, .v (I m)), (71, .v (I g)), (73, .v (I (f_addrPage (f_address (el (f_monAt h m).1.guests g.toNat))))), (75, .v (I (f_needOf ((f_wantOf (el (f_monAt h m).1.guests g.toNat)) == 4))))] 5 []) ac w) (o6 : Ow w0 NoB u N F5 h.mem q1.mem) (o9 : Ow w0 NoB u N F8 h.mons q1.mons) (o12 : Ow w0 NoB u N F11 h.buf q1.buf) (o15 : Ow w0 NoB u N F14 h.iobuf q1.iobuf) (o27 : Ow w0 NoB u N F25 (f_monAt h m).1 q23) (hNN : NN N0 u0 N u) (hBB : BB σ454.bx.length β0 β) : W 9 (mkL 16 [0, 1, 2, 3, 4, 5, 6]) ac w := by
    refine ox2 hW 7 12 ?_ (S.wq hW hNN hBB [] .nil fun _ _ _ S hB => hK620 _ _ _ _ _ S o6 o9 o12 o15 o27 hNN hB)
    refine id (S.call3 (r := Y1.1) (r' := Y1.2.1) (r'' := Y1.2.2) (d := 76) (by rw [hT1]; exact c_impl_Lookup w h ph (S.rd (S.arg hh)) m g (f_addrPage (f_address (el (f_monAt h m).1.guests g.toNat))) (addrPage_in64 (address_in64 (LRd.el (RMon.guests (d := (f_monAt h m).1) o27.rn) g.toNat (by omega)))) (f_needOf ((f_wantOf (el (f_monAt h m).1.guests g.toNat)) == 4))) (by kernel_rfl) rfl fun ac w N q653 F654 S up o655 d656 i657 => ?_)
    have hb658 := fun b h => (⟨(up b (hNN b h).1).1, (up b (hNN b h).1).2.trans (hNN b h).2⟩ : _ ∧ _)
    refine WD.sc S hb658 hBB fun hC => ?_
    have d659 := Disj.w d656 o6.sub
    have d660 := Disj.w d656 o9.sub
    have d661 := Disj.w d656 o12.sub
    have d662 := Disj.w d656 o15.sub
    have d663 := Disj.w d656 o27.sub
    replace o6 := o6.up up
    replace o9 := o9.up up
    replace o12 := o12.up up
    replace o15 := o15.up up
    replace o27 := o27.up up
    clear up d656
    obtain ⟨F664, F667, F670, F673, o665, o668, o671, o674, s666, s669, s672, s675, d676, d677, d678, d679, d680, d681⟩ := sp_Host o655
    exact S.wh hW [8, 9, 10, 11] hC fun _ S => hK593 _ _ q653.buf F670 q653.iobuf F673 q653.mem F664 q653.mons F667 _ _ _ S o6 o9 o12 o15 o27 o671 o674 o665 o668 (Disj.symm (Disj.part (Disj.symm d659) s672)) (Disj.symm (Disj.part (Disj.symm d659) s675)) (Disj.symm (Disj.part (Disj.symm d659) s666)) (Disj.symm (Disj.part (Disj.symm d659) s669)) (Disj.symm (Disj.part (Disj.symm d660) s672)) (Disj.symm (Disj.part (Disj.symm d660) s675)) (Disj.symm (Disj.part (Disj.symm d660) s666)) (Disj.symm (Disj.part (Disj.symm d660) s669)) (Disj.symm (Disj.part (Disj.symm d661) s672)) (Disj.symm (Disj.part (Disj.symm d661) s675)) (Disj.symm (Disj.part (Disj.symm d661) s666)) (Disj.symm (Disj.part (Disj.symm d661) s669)) (Disj.symm (Disj.part (Disj.symm d662) s672)) (Disj.symm (Disj.part (Disj.symm d662) s675)) (Disj.symm (Disj.part (Disj.symm d662) s666)) (Disj.symm (Disj.part (Disj.symm d662) s669)) (Disj.symm (Disj.part (Disj.symm d663) s672)) (Disj.symm (Disj.part (Disj.symm d663) s675)) (Disj.symm (Disj.part (Disj.symm d663) s666)) (Disj.symm (Disj.part (Disj.symm d663) s669)) d681 (Disj.symm d677) (Disj.symm d679) (Disj.symm d678) (Disj.symm d680) d676 hb658 hBB
   have hK682 ac w u N β (S : St Tryz.prog Tryz.f28.ntmps w0 NoB u N β (σ454.dl [3] [(15, .p 5 0), (69, .v (GT.val h ph)), (70, .v (I m)), (71, .v (I g)), (73, .v (I (f_addrPage (f_address (el (f_monAt h m).1.guests g.toNat))))), (74, .v (B ((f_wantOf (el (f_monAt h m).1.guests g.toNat)) == 4)))] 6 [(5, Zc THost)]) ac w) (o6 : Ow w0 NoB u N F5 h.mem q1.mem) (o9 : Ow w0 NoB u N F8 h.mons q1.mons) (o12 : Ow w0 NoB u N F11 h.buf q1.buf) (o15 : Ow w0 NoB u N F14 h.iobuf q1.iobuf) (o27 : Ow w0 NoB u N F25 (f_monAt h m).1 q23) (hNN : NN N0 u0 N u) (hBB : BB σ454.bx.length β0 β) : W 9 (mkL 16 [0, 1, 2, 3, 4, 5, 12]) ac w := by
    exact ox1 hW 6 (S.wq hW hNN hBB [] (.cons (Q_call fun w hw => c_impl_NeedOf w ((f_wantOf (el (f_monAt h m).1.guests g.toNat)) == 4)) .nil) fun _ _ _ S hB => hK620 _ _ _ _ _ S o6 o9 o12 o15 o27 hNN hB)
   have hK683 ac w u N β (S : St Tryz.prog Tryz.f28.ntmps w0 NoB u N β (σ454.dl [3] [(69, .v (GT.val h ph)), (70, .v (I m)), (71, .v (I g)), (73, .v (I (f_addrPage (f_address (el (f_monAt h m).1.guests g.toNat))))), (74, .v (B ((f_wantOf (el (f_monAt h m).1.guests g.toNat)) == 4)))] 5 []) ac w) (o6 : Ow w0 NoB u N F5 h.mem q1.mem) (o9 : Ow w0 NoB u N F8 h.mons q1.mons) (o12 : Ow w0 NoB u N F11 h.buf q1.buf) (o15 : Ow w0 NoB u N F14 h.iobuf q1.iobuf) (o27 : Ow w0 NoB u N F25 (f_monAt h m).1 q23) (hNN : NN N0 u0 N u) (hBB : BB σ454.bx.length β0 β) : W 10 (mkL 16 [0, 1, 2, 3, 4, 5]) ac w := by
    exact ox2 hW 6 12 (S.wq hW hNN hBB [] (.cons (Q_call fun w hw => c_impl_NeedOf w ((f_wantOf (el (f_monAt h m).1.guests g.toNat)) == 4)) .nil) fun _ _ _ S hB => hK651 _ _ _ _ _ S o6 o9 o12 o15 o27 hNN hB) (S.wq hW hNN hBB [] .nil fun _ _ _ S hB => hK682 _ _ _ _ _ S o6 o9 o12 o15 o27 hNN hB)
   have hK684 ac w u N β (S : St Tryz.prog Tryz.f28.ntmps w0 NoB u N β (σ454.dl [3] [(15, .p 5 0), (69, .v (GT.val h ph)), (70, .v (I m)), (71, .v (I g)), (72, .v (I (f_address (el (f_monAt h m).1.guests g.toNat)))), (74, .v (B ((f_wantOf (el (f_monAt h m).1.guests g.toNat)) == 4)))] 6 [(5, Zc THost)]) ac w) (o6 : Ow w0 NoB u N F5 h.mem q1.mem) (o9 : Ow w0 NoB u N F8 h.mons q1.mons) (o12 : Ow w0 NoB u N F11 h.buf q1.buf) (o15 : Ow w0 NoB u N F14 h.iobuf q1.iobuf) (o27 : Ow w0 NoB u N F25 (f_monAt h m).1 q23) (hNN : NN N0 u0 N u) (hBB : BB σ454.bx.length β0 β) : W 10 (mkL 16 [0, 1, 2, 3, 5, 12]) ac w := by
    exact ox1 hW 4 (S.wq hW hNN hBB [] (.cons (Q_call fun w hw => c_impl_AddrPage w (f_address (el (f_monAt h m).1.guests g.toNat)) (address_in64 (LRd.el (RMon.guests (d := (f_monAt h m).1) o27.rn) g.toNat (by omega)))) .nil) fun _ _ _ S hB => hK682 _ _ _ _ _ S o6 o9 o12 o15 o27 hNN hB)
   have hNN : NN N0 u0 N0 u0 := fun b h => ⟨h, rfl⟩
   have hBB : BB σ454.bx.length β0 β0 := fun _ _ => rfl
   exact ox2 hW 4 12 (S.wq hW hNN hBB [] (.cons (Q_call fun w hw => c_impl_AddrPage w (f_address (el (f_monAt h m).1.guests g.toNat)) (address_in64 (LRd.el (RMon.guests (d := (f_monAt h m).1) o27.rn) g.toNat (by omega)))) .nil) fun _ _ _ S hB => hK683 _ _ _ _ _ S o6 o9 o12 o15 o27 hNN hB) (S.wq hW hNN hBB [] .nil fun _ _ _ S hB => hK684 _ _ _ _ _ S o6 o9 o12 o15 o27 hNN hB)
  clear S o6 o9 o12 o15 o27
  rintro ac w ⟨q534, F535, q537, F538, q528, F529, q531, F532, u, N, β, S, o6, o9, o12, o15, o27, o533, o536, o527, o530, d685, d686, d687, d688, d689, d690, d691, d692, d693, d694, d695, d696, d697, d698, d699, d700, d701, d702, d703, d704, d705, d706, d707, d708, d709, d710⟩
  refine S.ex fun S => ?_
  refine S.gb 10 .nil (!Y1.2.2) (fun ac w β h711 S => ?_) (fun ac w β h711 S => ?_)
  ·have h712 := not_t h711
   refine S.go 1 .nil fun ac w β S => ?_
   refine drw ?_
   refine S.draw0 (f := 7) 6 (by kernel_rfl) (by kernel_rfl) fun w S => ?_
   refine S.hq 0 [0] [] [(91, .v (GT.val (el (f_monAt h m).1.guests g.toNat) (q23.guests.2 g.toNat)))] .nil fun ac S => ?_
   refine S.hq 1 [1] [] [(92, .v (I (f_address (el (f_monAt h m).1.guests g.toNat))))] .nil fun ac S => ?_
   refine S.hq 3 [3] [] [(94, .v (B ((f_wantOf (el (f_monAt h m).1.guests g.toNat)) == 4)))] .nil fun ac S => ?_
   refine S.sq 2 [] [(93, .v (I (f_addrPage (f_address (el (f_monAt h m).1.guests g.toNat)))))] 6 [] (.cons (Q_call fun w hw => c_impl_AddrPage w (f_address (el (f_monAt h m).1.guests g.toNat)) (address_in64 (LRd.el (RMon.guests (d := (f_monAt h m).1) o27.rn) g.toNat (by omega)))) .nil) fun ac w β S => ?_
   refine S.sq 4 [] [(95, .v (GT.val (f_faultExit (f_addrPage (f_address (el (f_monAt h m).1.guests g.toNat))) ((f_wantOf (el (f_monAt h m).1.guests g.toNat)) == 4)) ()))] 6 [] (.cons (Q_call fun w hw => c_impl_FaultExit w (f_addrPage (f_address (el (f_monAt h m).1.guests g.toNat))) (addrPage_in64 (address_in64 (LRd.el (RMon.guests (d := (f_monAt h m).1) o27.rn) g.toNat (by omega)))) ((f_wantOf (el (f_monAt h m).1.guests g.toNat)) == 4)) .nil) fun ac w β S => ?_
   refine WD.one (i := 5) (by kernel_rfl) ?_
   refine id (S.k1 96 (c_impl_Stopped w (el (f_monAt h m).1.guests g.toNat) (q23.guests.2 g.toNat) (S.rd (LRd.el (RMon.guests (d := (f_monAt h m).1) o27.rn) g.toNat (by omega))) (f_faultExit (f_addrPage (f_address (el (f_monAt h m).1.guests g.toNat))) ((f_wantOf (el (f_monAt h m).1.guests g.toNat)) == 4)) (faultExit_r (addrPage_in64 (address_in64 (LRd.el (RMon.guests (d := (f_monAt h m).1) o27.rn) g.toNat (by omega)))) ((f_wantOf (el (f_monAt h m).1.guests g.toNat)) == 4))) fun ac w N q713 F714 S up o715 d716 => ?_)
   refine WD.next S up (by kernel_rfl) ?_
   have d722 := Disj.w d716 o527.sub
   have d723 := Disj.w d716 o530.sub
   have d724 := Disj.w d716 o533.sub
   have d725 := Disj.w d716 o536.sub
   replace o6 := o6.up up
   replace o9 := o9.up up
   replace o12 := o12.up up
   replace o15 := o15.up up
   replace o27 := o27.up up
   replace o527 := o527.up up
   replace o530 := o530.up up
   replace o533 := o533.up up
   replace o536 := o536.up up
   clear up d716
   refine S.sl 6 [] [] 6 [(4, GT.cells ({ (el (f_monAt h m).1.guests g.toNat) with exit := (f_faultExit (f_addrPage (f_address (el (f_monAt h m).1.guests g.toNat))) ((f_wantOf (el (f_monAt h m).1.guests g.toNat)) == 4)) } : TGuest) q713)] .nil fun ac w β S => ?_
   refine WD.done (by kernel_rfl) ?_ _
   refine S.ex fun S => ?_
   refine S.go 3 .nil fun ac w β S => ?_
   refine drw ?_
   refine S.draw0 (f := 10) 9 (by kernel_rfl) (by kernel_rfl) fun w S => ?_
   refine S.hq 0 [0] [] [(110, .p 5 1)] .nil fun ac S => ?_
   refine S.hq 1 [1] [] [(111, .v (slv Y1.1.mons.length q531.1))] .nil fun ac S => ?_
   refine S.hq 2 [2] [] [(112, .v (I m))] .nil fun ac S => ?_
   refine S.hq 3 [3] [] [(113, .v (pt q531.1.b (q531.1.off + m.toNat * 9)))] (.cons (qt o530.rn m Tryz.underlying57) .nil) fun ac S => ?_
   refine S.hq 4 [4] [] [(114, .v (pt q531.1.b (q531.1.off + m.toNat * 9 + 3)))] .nil fun ac S => ?_
   refine S.hq 5 [5] [] [(115, .v (slv (el Y1.1.mons m.toNat).guests.length (q531.2 m.toNat).guests.1))] (.cons (qc o530.rn 25 m.toNat 3 (slv (el Y1.1.mons m.toNat).guests.length (q531.2 m.toNat).guests.1)) .nil) fun ac S => ?_
   refine S.hq 6 [6] [] [(116, .v (I g))] .nil fun ac S => ?_
   refine S.hq 7 [7] [] [(117, .v (GT.val ({ (el (f_monAt h m).1.guests g.toNat) with exit := (f_faultExit (f_addrPage (f_address (el (f_monAt h m).1.guests g.toNat))) ((f_wantOf (el (f_monAt h m).1.guests g.toNat)) == 4)) } : TGuest) q713))] .nil fun ac S => ?_
   refine S.hq 8 [8] [] [(118, .v (pt (q531.2 m.toNat).guests.1.b ((q531.2 m.toNat).guests.1.off + g.toNat * 15)))] (.cons (qt (RMon.guests (d := (el Y1.1.mons m.toNat)) (LRd.el o530.rn m.toNat (by omega))) g Tryz.underlying25) .nil) fun ac S => ?_
   refine WD.one (i := 9) (by kernel_rfl) ?_
   obtain ⟨F726, o727, s728, b729⟩ := foc2_Mon_guests o530 (k := m.toNat) (show m.toNat < Y1.1.mons.length by omega)
   have l730 := LRd.le o727.rn
   have n731 := o727.sub
   refine id (S.sV (α := TGuest) o727 (t := 51) (k := g.toNat) (off := (q531.2 m.toNat).guests.1.off + g.toNat * 15) o715 (Disj.symm (Disj.symm (Disj.part d723 s728))) fun w N F733 q734 S up o732 d735 s736 n737 => ?_)
   refine WD.last (by kernel_rfl) ?_
   have d743 := d735 _ (Disj.symm (Disj.part (Disj.symm d710) s728)) d722 o527.sub
   have d744 := d735 _ (Disj.symm (Disj.part (Disj.symm d707) s728)) d724 o533.sub
   have d745 := d735 _ (Disj.symm (Disj.part (Disj.symm d709) s728)) d725 o536.sub
   replace o6 := o6.upF (Disj.symm (Disj.part (Disj.symm d688) s728)) up
   replace o9 := o9.upF (Disj.symm (Disj.part (Disj.symm d692) s728)) up
   replace o12 := o12.upF (Disj.symm (Disj.part (Disj.symm d696) s728)) up
   replace o15 := o15.upF (Disj.symm (Disj.part (Disj.symm d700) s728)) up
   replace o27 := o27.upF (Disj.symm (Disj.part (Disj.symm d704) s728)) up
   replace o527 := o527.upF (Disj.symm (Disj.part (Disj.symm d710) s728)) up
   replace o533 := o533.upF (Disj.symm (Disj.part (Disj.symm d707) s728)) up
   replace o536 := o536.upF (Disj.symm (Disj.part (Disj.symm d709) s728)) up
   clear d735 o727
   obtain ⟨p746, o747, c748⟩ := b729 _ _ _ _ _ F714 up o732 s736 d723 (by show [slv _ _] = [slv _ _]; rw [List.length_set]) (fun b h => n737 b (n731 b h))
   clear up o732 n737
   have l749 : (Y1.1.mons.set m.toNat ({ el Y1.1.mons m.toNat with guests := ((el Y1.1.mons m.toNat).guests.set g.toNat ({ (el (f_monAt h m).1.guests g.toNat) with exit := (f_faultExit (f_addrPage (f_address (el (f_monAt h m).1.guests g.toNat))) ((f_wantOf (el (f_monAt h m).1.guests g.toNat)) == 4)) } : TGuest)) })).length = Y1.1.mons.length := List.length_set
   replace S := S.z (σ' := ⟨[(6, .p 1 0), (15, .p 5 0), (117, .v (GT.val ({ (el (f_monAt h m).1.guests g.toNat) with exit := (f_faultExit (f_addrPage (f_address (el (f_monAt h m).1.guests g.toNat))) ((f_wantOf (el (f_monAt h m).1.guests g.toNat)) == 4)) } : TGuest) q713)), (118, .v (pt (q531.2 m.toNat).guests.1.b ((q531.2 m.toNat).guests.1.off + g.toNat * 15)))], [GT.cells h ph, Zc THost, [slv h.mem.length q1.mem.1, slv h.mons.length q1.mons.1, slv h.buf.length q1.buf.1, slv h.iobuf.length q1.iobuf.1], GT.cells (f_monAt h m).1 q23, GT.cells ({ (el (f_monAt h m).1.guests g.toNat) with exit := (f_faultExit (f_addrPage (f_address (el (f_monAt h m).1.guests g.toNat))) ((f_wantOf (el (f_monAt h m).1.guests g.toNat)) == 4)) } : TGuest) q713, [slv Y1.1.mem.length q528.1, slv Y1.1.mons.length q531.1, slv Y1.1.buf.length q534.1, slv Y1.1.iobuf.length q537.1]]⟩)
   replace S := S.cast (σ' := ⟨[(6, .p 1 0), (15, .p 5 0), (117, .v (GT.val ({ (el (f_monAt h m).1.guests g.toNat) with exit := (f_faultExit (f_addrPage (f_address (el (f_monAt h m).1.guests g.toNat))) ((f_wantOf (el (f_monAt h m).1.guests g.toNat)) == 4)) } : TGuest) q713)), (118, .v (pt (q531.2 m.toNat).guests.1.b ((q531.2 m.toNat).guests.1.off + g.toNat * 15)))], [GT.cells h ph, Zc THost, [slv h.mem.length q1.mem.1, slv h.mons.length q1.mons.1, slv h.buf.length q1.buf.1, slv h.iobuf.length q1.iobuf.1], GT.cells (f_monAt h m).1 q23, GT.cells ({ (el (f_monAt h m).1.guests g.toNat) with exit := (f_faultExit (f_addrPage (f_address (el (f_monAt h m).1.guests g.toNat))) ((f_wantOf (el (f_monAt h m).1.guests g.toNat)) == 4)) } : TGuest) q713, [slv Y1.1.mem.length q528.1, slv (Y1.1.mons.set m.toNat ({ el Y1.1.mons m.toNat with guests := ((el Y1.1.mons m.toNat).guests.set g.toNat ({ (el (f_monAt h m).1.guests g.toNat) with exit := (f_faultExit (f_addrPage (f_address (el (f_monAt h m).1.guests g.toNat))) ((f_wantOf (el (f_monAt h m).1.guests g.toNat)) == 4)) } : TGuest)) })).length q531.1, slv Y1.1.buf.length q534.1, slv Y1.1.iobuf.length q537.1]]⟩) (by rw [show (Y1.1.mons.set m.toNat ({ el Y1.1.mons m.toNat with guests := ((el Y1.1.mons m.toNat).guests.set g.toNat ({ (el (f_monAt h m).1.guests g.toNat) with exit := (f_faultExit (f_addrPage (f_address (el (f_monAt h m).1.guests g.toNat))) ((f_wantOf (el (f_monAt h m).1.guests g.toNat)) == 4)) } : TGuest)) })).length = Y1.1.mons.length by omega])
   refine WD.done (by kernel_rfl) ?_ _
   refine S.ex fun S => ?_
   refine S.gr 9 .nil [GT.val (⟨Y1.1.mem, (Y1.1.mons.set m.toNat ({ el Y1.1.mons m.toNat with guests := ((el Y1.1.mons m.toNat).guests.set g.toNat ({ (el (f_monAt h m).1.guests g.toNat) with exit := (f_faultExit (f_addrPage (f_address (el (f_monAt h m).1.guests g.toNat))) ((f_wantOf (el (f_monAt h m).1.guests g.toNat)) == 4)) } : TGuest)) })), Y1.1.buf, Y1.1.iobuf⟩ : THost) (⟨q528, (q531.1, p746), q534, q537⟩ : PHost), B true] fun ac w β S => ?_
   have o750 := ow_Host (x := (⟨Y1.1.mem, (Y1.1.mons.set m.toNat ({ el Y1.1.mons m.toNat with guests := ((el Y1.1.mons m.toNat).guests.set g.toNat ({ (el (f_monAt h m).1.guests g.toNat) with exit := (f_faultExit (f_addrPage (f_address (el (f_monAt h m).1.guests g.toNat))) ((f_wantOf (el (f_monAt h m).1.guests g.toNat)) == 4)) } : TGuest)) })), Y1.1.buf, Y1.1.iobuf⟩ : THost)) (p := (⟨q528, (q531.1, p746), q534, q537⟩ : PHost)) o527 o747 o533 o536 (Disj.symm (Disj.or (Disj.symm d710) (Disj.symm d743))) (Disj.symm d706) (Disj.symm d708) (Disj.symm (Disj.symm (Disj.or (Disj.symm d707) (Disj.symm d744)))) (Disj.symm (Disj.symm (Disj.or (Disj.symm d709) (Disj.symm d745)))) d705 
   exact ret2_of (p' := ()) S (show (f_hostStep h m g).1 = (⟨Y1.1.mem, (Y1.1.mons.set m.toNat ({ el Y1.1.mons m.toNat with guests := ((el Y1.1.mons m.toNat).guests.set g.toNat ({ (el (f_monAt h m).1.guests g.toNat) with exit := (f_faultExit (f_addrPage (f_address (el (f_monAt h m).1.guests g.toNat))) ((f_wantOf (el (f_monAt h m).1.guests g.toNat)) == 4)) } : TGuest)) })), Y1.1.buf, Y1.1.iobuf⟩ : THost) from k0_impl_HostStep) (show (f_hostStep h m g).2 = true from k2_impl_HostStep) rfl rfl o750 trivial
  have h751 := not_f h711
  refine S.go 7 .nil fun ac w β S => ?_
  refine S.lt 97 h452 fun S => ?_
  refine S.go 2 .nil fun ac w β S => ?_
  refine drw ?_
  refine S.draw0 (f := 10) 9 (by kernel_rfl) (by kernel_rfl) fun w S => ?_
  refine S.hq 0 [0] [] [(99, .p 5 0)] .nil fun ac S => ?_
  refine S.hq 1 [1] [] [(100, .v (slv Y1.1.mem.length q528.1))] .nil fun ac S => ?_
  refine S.hq 2 [2] [] [(101, .v (I Y1.2.1))] .nil fun ac S => ?_
  refine S.hq 3 [3] [] [(102, .v (I (f_address (el (f_monAt h m).1.guests g.toNat))))] .nil fun ac S => ?_
  refine S.hq 5 [5] [] [(104, .p 4 1)] .nil fun ac S => ?_
  refine S.hq 6 [6] [] [(105, .v (I (el (f_monAt h m).1.guests g.toNat).acc))] .nil fun ac S => ?_
  refine S.sq 4 [] [(103, .v (I (f_addrCell (f_address (el (f_monAt h m).1.guests g.toNat)))))] 6 [] (.cons (Q_call fun w hw => c_impl_AddrCell w (f_address (el (f_monAt h m).1.guests g.toNat)) (address_in64 (LRd.el (RMon.guests (d := (f_monAt h m).1) o27.rn) g.toNat (by omega)))) .nil) fun ac w β S => ?_
  refine WD.one (i := 7) (by kernel_rfl) ?_
  refine id (S.k1 106 (c_impl_WithCell w Y1.1.mem q528 (S.rd o527.rn) Y1.2.1 (f_addrCell (f_address (el (f_monAt h m).1.guests g.toNat))) (el (f_monAt h m).1.guests g.toNat).acc (RGuest.acc (d := (el (f_monAt h m).1.guests g.toNat)) (LRd.el (RMon.guests (d := (f_monAt h m).1) o27.rn) g.toNat (by omega)))) fun ac w N q752 F753 S up o754 d755 => ?_)
  refine WD.next S up (by kernel_rfl) ?_
  have d762 := Disj.w d755 o530.sub
  have d763 := Disj.w d755 o533.sub
  have d764 := Disj.w d755 o536.sub
  replace o6 := o6.up up
  replace o9 := o9.up up
  replace o12 := o12.up up
  replace o15 := o15.up up
  replace o27 := o27.up up
  replace o530 := o530.up up
  replace o533 := o533.up up
  replace o536 := o536.up up
  clear up d755
  refine S.hq 8 [8] [] [(107, .p 5 0)] .nil fun ac S => ?_
  refine S.sl 9 [] [] 6 [(5, [slv (f_withCell Y1.1.mem Y1.2.1 (f_addrCell (f_address (el (f_monAt h m).1.guests g.toNat))) (el (f_monAt h m).1.guests g.toNat).acc).length q752.1, slv Y1.1.mons.length q531.1, slv Y1.1.buf.length q534.1, slv Y1.1.iobuf.length q537.1])] .nil fun ac w β S => ?_
  refine WD.done (by kernel_rfl) ?_ _
  refine S.ex fun S => ?_
  refine S.go 3 .nil fun ac w β S => S.K1 (r := f_moved (el (f_monAt h m).1.guests g.toNat)) (d := 109) (c_impl_Stored w (el (f_monAt h m).1.guests g.toNat) (q23.guests.2 g.toNat) (S.rd (LRd.el (RMon.guests (d := (f_monAt h m).1) o27.rn) g.toNat (by omega)))) fun ac w N q765 F766 S up o767 d768 => ?_
  have d774 := Disj.w d768 o530.sub
  have d775 := Disj.w d768 o533.sub
  have d776 := Disj.w d768 o536.sub
  have d777 := Disj.w d768 o754.sub
  replace o6 := o6.up up
  replace o9 := o9.up up
  replace o12 := o12.up up
  replace o15 := o15.up up
  replace o530 := o530.up up
  replace o533 := o533.up up
  replace o536 := o536.up up
  replace o754 := o754.up up
  clear up d768
  refine S.go 5 .nil fun ac w β S => ?_
  refine drw ?_
  refine S.draw0 (f := 10) 9 (by kernel_rfl) (by kernel_rfl) fun w S => ?_
  refine S.hq 0 [0] [] [(110, .p 5 1)] .nil fun ac S => ?_
  refine S.hq 1 [1] [] [(111, .v (slv Y1.1.mons.length q531.1))] .nil fun ac S => ?_
  refine S.hq 2 [2] [] [(112, .v (I m))] .nil fun ac S => ?_
  refine S.hq 3 [3] [] [(113, .v (pt q531.1.b (q531.1.off + m.toNat * 9)))] (.cons (qt o530.rn m Tryz.underlying57) .nil) fun ac S => ?_
  refine S.hq 4 [4] [] [(114, .v (pt q531.1.b (q531.1.off + m.toNat * 9 + 3)))] .nil fun ac S => ?_
  refine S.hq 5 [5] [] [(115, .v (slv (el Y1.1.mons m.toNat).guests.length (q531.2 m.toNat).guests.1))] (.cons (qc o530.rn 25 m.toNat 3 (slv (el Y1.1.mons m.toNat).guests.length (q531.2 m.toNat).guests.1)) .nil) fun ac S => ?_
  refine S.hq 6 [6] [] [(116, .v (I g))] .nil fun ac S => ?_
  refine S.hq 7 [7] [] [(117, .v (GT.val (f_moved (el (f_monAt h m).1.guests g.toNat)) q765))] .nil fun ac S => ?_
  refine S.hq 8 [8] [] [(118, .v (pt (q531.2 m.toNat).guests.1.b ((q531.2 m.toNat).guests.1.off + g.toNat * 15)))] (.cons (qt (RMon.guests (d := (el Y1.1.mons m.toNat)) (LRd.el o530.rn m.toNat (by omega))) g Tryz.underlying25) .nil) fun ac S => ?_
  refine WD.one (i := 9) (by kernel_rfl) ?_
  obtain ⟨F778, o779, s780, b781⟩ := foc2_Mon_guests o530 (k := m.toNat) (show m.toNat < Y1.1.mons.length by omega)
  have l782 := LRd.le o779.rn
  have n783 := o779.sub
  refine id (S.sV (α := TGuest) o779 (t := 51) (k := g.toNat) (off := (q531.2 m.toNat).guests.1.off + g.toNat * 15) o767 (Disj.symm (Disj.symm (Disj.part d774 s780))) fun w N F785 q786 S up o784 d787 s788 n789 => ?_)
  refine WD.last (by kernel_rfl) ?_
  have d795 := d787 _ (Disj.symm (Disj.part (Disj.symm d707) s780)) d775 o533.sub
  have d796 := d787 _ (Disj.symm (Disj.part (Disj.symm d709) s780)) d776 o536.sub
  have d797 := d787 _ (Disj.symm (Disj.part d762 s780)) d777 o754.sub
  replace o6 := o6.upF (Disj.symm (Disj.part (Disj.symm d688) s780)) up
  replace o9 := o9.upF (Disj.symm (Disj.part (Disj.symm d692) s780)) up
  replace o12 := o12.upF (Disj.symm (Disj.part (Disj.symm d696) s780)) up
  replace o15 := o15.upF (Disj.symm (Disj.part (Disj.symm d700) s780)) up
  replace o533 := o533.upF (Disj.symm (Disj.part (Disj.symm d707) s780)) up
  replace o536 := o536.upF (Disj.symm (Disj.part (Disj.symm d709) s780)) up
  replace o754 := o754.upF (Disj.symm (Disj.part d762 s780)) up
  clear d787 o779
  obtain ⟨p798, o799, c800⟩ := b781 _ _ _ _ _ F766 up o784 s788 d774 (by show [slv _ _] = [slv _ _]; rw [List.length_set]) (fun b h => n789 b (n783 b h))
  clear up o784 n789
  have l801 : (Y1.1.mons.set m.toNat ({ el Y1.1.mons m.toNat with guests := ((el Y1.1.mons m.toNat).guests.set g.toNat (f_moved (el (f_monAt h m).1.guests g.toNat))) })).length = Y1.1.mons.length := List.length_set
  replace S := S.z (σ' := ⟨[(6, .p 1 0), (15, .p 5 0), (117, .v (GT.val (f_moved (el (f_monAt h m).1.guests g.toNat)) q765)), (118, .v (pt (q531.2 m.toNat).guests.1.b ((q531.2 m.toNat).guests.1.off + g.toNat * 15)))], [GT.cells h ph, Zc THost, [slv h.mem.length q1.mem.1, slv h.mons.length q1.mons.1, slv h.buf.length q1.buf.1, slv h.iobuf.length q1.iobuf.1], GT.cells (f_monAt h m).1 q23, GT.cells (f_moved (el (f_monAt h m).1.guests g.toNat)) q765, [slv (f_withCell Y1.1.mem Y1.2.1 (f_addrCell (f_address (el (f_monAt h m).1.guests g.toNat))) (el (f_monAt h m).1.guests g.toNat).acc).length q752.1, slv Y1.1.mons.length q531.1, slv Y1.1.buf.length q534.1, slv Y1.1.iobuf.length q537.1]]⟩)
  replace S := S.cast (σ' := ⟨[(6, .p 1 0), (15, .p 5 0), (117, .v (GT.val (f_moved (el (f_monAt h m).1.guests g.toNat)) q765)), (118, .v (pt (q531.2 m.toNat).guests.1.b ((q531.2 m.toNat).guests.1.off + g.toNat * 15)))], [GT.cells h ph, Zc THost, [slv h.mem.length q1.mem.1, slv h.mons.length q1.mons.1, slv h.buf.length q1.buf.1, slv h.iobuf.length q1.iobuf.1], GT.cells (f_monAt h m).1 q23, GT.cells (f_moved (el (f_monAt h m).1.guests g.toNat)) q765, [slv (f_withCell Y1.1.mem Y1.2.1 (f_addrCell (f_address (el (f_monAt h m).1.guests g.toNat))) (el (f_monAt h m).1.guests g.toNat).acc).length q752.1, slv (Y1.1.mons.set m.toNat ({ el Y1.1.mons m.toNat with guests := ((el Y1.1.mons m.toNat).guests.set g.toNat (f_moved (el (f_monAt h m).1.guests g.toNat))) })).length q531.1, slv Y1.1.buf.length q534.1, slv Y1.1.iobuf.length q537.1]]⟩) (by rw [show (Y1.1.mons.set m.toNat ({ el Y1.1.mons m.toNat with guests := ((el Y1.1.mons m.toNat).guests.set g.toNat (f_moved (el (f_monAt h m).1.guests g.toNat))) })).length = Y1.1.mons.length by omega])
  refine WD.done (by kernel_rfl) ?_ _
  refine S.ex fun S => ?_
  refine S.gr 9 .nil [GT.val (⟨(f_withCell Y1.1.mem Y1.2.1 (f_addrCell (f_address (el (f_monAt h m).1.guests g.toNat))) (el (f_monAt h m).1.guests g.toNat).acc), (Y1.1.mons.set m.toNat ({ el Y1.1.mons m.toNat with guests := ((el Y1.1.mons m.toNat).guests.set g.toNat (f_moved (el (f_monAt h m).1.guests g.toNat))) })), Y1.1.buf, Y1.1.iobuf⟩ : THost) (⟨q752, (q531.1, p798), q534, q537⟩ : PHost), B true] fun ac w β S => ?_
  have o802 := ow_Host (x := (⟨(f_withCell Y1.1.mem Y1.2.1 (f_addrCell (f_address (el (f_monAt h m).1.guests g.toNat))) (el (f_monAt h m).1.guests g.toNat).acc), (Y1.1.mons.set m.toNat ({ el Y1.1.mons m.toNat with guests := ((el Y1.1.mons m.toNat).guests.set g.toNat (f_moved (el (f_monAt h m).1.guests g.toNat))) })), Y1.1.buf, Y1.1.iobuf⟩ : THost)) (p := (⟨q752, (q531.1, p798), q534, q537⟩ : PHost)) o754 o799 o533 o536 (Disj.symm (Disj.or d762 (Disj.symm d797))) (Disj.symm d763) (Disj.symm d764) (Disj.symm (Disj.symm (Disj.or (Disj.symm d707) (Disj.symm d795)))) (Disj.symm (Disj.symm (Disj.or (Disj.symm d709) (Disj.symm d796)))) d705 
  exact ret2_of (p' := ()) S (show (f_hostStep h m g).1 = (⟨(f_withCell Y1.1.mem Y1.2.1 (f_addrCell (f_address (el (f_monAt h m).1.guests g.toNat))) (el (f_monAt h m).1.guests g.toNat).acc), (Y1.1.mons.set m.toNat ({ el Y1.1.mons m.toNat with guests := ((el Y1.1.mons m.toNat).guests.set g.toNat (f_moved (el (f_monAt h m).1.guests g.toNat))) })), Y1.1.buf, Y1.1.iobuf⟩ : THost) from k0_impl_HostStep) (show (f_hostStep h m g).2 = true from k2_impl_HostStep) rfl rfl o802 trivial
 refine S.gd 8 .nil ((f_wantOf (el (f_monAt h m).1.guests g.toNat)) == 5) (fun ac w β h803 g804 S => ?_) (fun ac w β h803 g804 S => ?_)
 ·refine S.go 12 (.cons (qt o9.rn m Tryz.underlying57) .nil) fun ac w β S => S.KL (d := 129) o9 (c_impl_leave w h.mons q1.mons m.toNat (by omega) F8 (S.ownw o9) (fun b hb => (S.sep b (o9.sub b hb)).1) g (f_wantOf (el (f_monAt h m).1.guests g.toNat)) (by (first | omega | assumption)) (by (first | omega | assumption))) fun ac w N p805 F806 S up o807 d808 => ?_
  have d809 := d808 _ d17 o6.sub
  have d810 := d808 _ (Disj.symm d20) o12.sub
  have d811 := d808 _ (Disj.symm d21) o15.sub
  replace o6 := o6.upF d17 up
  replace o12 := o12.upF (Disj.symm d20) up
  replace o15 := o15.upF (Disj.symm d21) up
  clear up d808 o9
  have l812 : (h.mons.set m.toNat (f_trapMon (el h.mons m.toNat) g (el (el h.mons m.toNat).guests g.toNat) (f_wantOf (el (f_monAt h m).1.guests g.toNat)))).length = h.mons.length := List.length_set
  replace S := S.z (σ' := ⟨[(6, .p 1 0), (8, .p 2 0), (126, .v (pt q1.mons.1.b (q1.mons.1.off + m.toNat * 9))), (127, .v (I g)), (128, .v (I (f_wantOf (el (f_monAt h m).1.guests g.toNat))))], [GT.cells h ph, Zc THost, [slv h.mem.length q1.mem.1, slv h.mons.length q1.mons.1, slv h.buf.length q1.buf.1, slv h.iobuf.length q1.iobuf.1], GT.cells (f_monAt h m).1 q23, GT.cells (el (f_monAt h m).1.guests g.toNat) (q23.guests.2 g.toNat)]⟩)
  replace S := S.cast (σ' := ⟨[(6, .p 1 0), (8, .p 2 0), (126, .v (pt q1.mons.1.b (q1.mons.1.off + m.toNat * 9))), (127, .v (I g)), (128, .v (I (f_wantOf (el (f_monAt h m).1.guests g.toNat))))], [GT.cells h ph, Zc THost, [slv h.mem.length q1.mem.1, slv (h.mons.set m.toNat (f_trapMon (el h.mons m.toNat) g (el (el h.mons m.toNat).guests g.toNat) (f_wantOf (el (f_monAt h m).1.guests g.toNat)))).length q1.mons.1, slv h.buf.length q1.buf.1, slv h.iobuf.length q1.iobuf.1], GT.cells (f_monAt h m).1 q23, GT.cells (el (f_monAt h m).1.guests g.toNat) (q23.guests.2 g.toNat)]⟩) (by rw [show (h.mons.set m.toNat (f_trapMon (el h.mons m.toNat) g (el (el h.mons m.toNat).guests g.toNat) (f_wantOf (el (f_monAt h m).1.guests g.toNat)))).length = h.mons.length by omega])
  refine S.is fun S => ?_
  refine S.gr 10 .nil [GT.val (⟨h.mem, (h.mons.set m.toNat (f_trapMon (el h.mons m.toNat) g (el (el h.mons m.toNat).guests g.toNat) (f_wantOf (el (f_monAt h m).1.guests g.toNat)))), h.buf, h.iobuf⟩ : THost) (⟨q1.mem, ((q1.mons.1, p805) : LP TMon), q1.buf, q1.iobuf⟩ : PHost), B true] fun ac w β S => ?_
  have o813 := ow_Host (x := (⟨h.mem, (h.mons.set m.toNat (f_trapMon (el h.mons m.toNat) g (el (el h.mons m.toNat).guests g.toNat) (f_wantOf (el (f_monAt h m).1.guests g.toNat)))), h.buf, h.iobuf⟩ : THost)) (p := (⟨q1.mem, ((q1.mons.1, p805) : LP TMon), q1.buf, q1.iobuf⟩ : PHost)) o6 o807 o12 o15 d809 d18 d19 (Disj.symm d810) (Disj.symm d811) d22 
  exact ret2_of (p' := ()) S (show (f_hostStep h m g).1 = (⟨h.mem, (h.mons.set m.toNat (f_trapMon (el h.mons m.toNat) g (el (el h.mons m.toNat).guests g.toNat) (f_wantOf (el (f_monAt h m).1.guests g.toNat)))), h.buf, h.iobuf⟩ : THost) from k1_impl_HostStep) (show (f_hostStep h m g).2 = true from k3_impl_HostStep) rfl rfl o813 trivial
 refine S.gd 6 .nil ((f_wantOf (el (f_monAt h m).1.guests g.toNat)) == 7) (fun ac w β h814 g815 S => ?_) (fun ac w β h814 g815 S => ?_)
 ·refine S.go 9 (.cons (qt o9.rn m Tryz.underlying57) .nil) fun ac w β S => S.KL (d := 129) o9 (c_impl_leave w h.mons q1.mons m.toNat (by omega) F8 (S.ownw o9) (fun b hb => (S.sep b (o9.sub b hb)).1) g (f_wantOf (el (f_monAt h m).1.guests g.toNat)) (by (first | omega | assumption)) (by (first | omega | assumption))) fun ac w N p816 F817 S up o818 d819 => ?_
  have d820 := d819 _ d17 o6.sub
  have d821 := d819 _ (Disj.symm d20) o12.sub
  have d822 := d819 _ (Disj.symm d21) o15.sub
  replace o6 := o6.upF d17 up
  replace o12 := o12.upF (Disj.symm d20) up
  replace o15 := o15.upF (Disj.symm d21) up
  clear up d819 o9
  have l823 : (h.mons.set m.toNat (f_trapMon (el h.mons m.toNat) g (el (el h.mons m.toNat).guests g.toNat) (f_wantOf (el (f_monAt h m).1.guests g.toNat)))).length = h.mons.length := List.length_set
  replace S := S.z (σ' := ⟨[(6, .p 1 0), (8, .p 2 0), (126, .v (pt q1.mons.1.b (q1.mons.1.off + m.toNat * 9))), (127, .v (I g)), (128, .v (I (f_wantOf (el (f_monAt h m).1.guests g.toNat))))], [GT.cells h ph, Zc THost, [slv h.mem.length q1.mem.1, slv h.mons.length q1.mons.1, slv h.buf.length q1.buf.1, slv h.iobuf.length q1.iobuf.1], GT.cells (f_monAt h m).1 q23, GT.cells (el (f_monAt h m).1.guests g.toNat) (q23.guests.2 g.toNat)]⟩)
  replace S := S.cast (σ' := ⟨[(6, .p 1 0), (8, .p 2 0), (126, .v (pt q1.mons.1.b (q1.mons.1.off + m.toNat * 9))), (127, .v (I g)), (128, .v (I (f_wantOf (el (f_monAt h m).1.guests g.toNat))))], [GT.cells h ph, Zc THost, [slv h.mem.length q1.mem.1, slv (h.mons.set m.toNat (f_trapMon (el h.mons m.toNat) g (el (el h.mons m.toNat).guests g.toNat) (f_wantOf (el (f_monAt h m).1.guests g.toNat)))).length q1.mons.1, slv h.buf.length q1.buf.1, slv h.iobuf.length q1.iobuf.1], GT.cells (f_monAt h m).1 q23, GT.cells (el (f_monAt h m).1.guests g.toNat) (q23.guests.2 g.toNat)]⟩) (by rw [show (h.mons.set m.toNat (f_trapMon (el h.mons m.toNat) g (el (el h.mons m.toNat).guests g.toNat) (f_wantOf (el (f_monAt h m).1.guests g.toNat)))).length = h.mons.length by omega])
  refine S.is fun S => ?_
  refine S.gr 10 .nil [GT.val (⟨h.mem, (h.mons.set m.toNat (f_trapMon (el h.mons m.toNat) g (el (el h.mons m.toNat).guests g.toNat) (f_wantOf (el (f_monAt h m).1.guests g.toNat)))), h.buf, h.iobuf⟩ : THost) (⟨q1.mem, ((q1.mons.1, p816) : LP TMon), q1.buf, q1.iobuf⟩ : PHost), B true] fun ac w β S => ?_
  have o824 := ow_Host (x := (⟨h.mem, (h.mons.set m.toNat (f_trapMon (el h.mons m.toNat) g (el (el h.mons m.toNat).guests g.toNat) (f_wantOf (el (f_monAt h m).1.guests g.toNat)))), h.buf, h.iobuf⟩ : THost)) (p := (⟨q1.mem, ((q1.mons.1, p816) : LP TMon), q1.buf, q1.iobuf⟩ : PHost)) o6 o818 o12 o15 d820 d18 d19 (Disj.symm d821) (Disj.symm d822) d22 
  exact ret2_of (p' := ()) S (show (f_hostStep h m g).1 = (⟨h.mem, (h.mons.set m.toNat (f_trapMon (el h.mons m.toNat) g (el (el h.mons m.toNat).guests g.toNat) (f_wantOf (el (f_monAt h m).1.guests g.toNat)))), h.buf, h.iobuf⟩ : THost) from k1_impl_HostStep) (show (f_hostStep h m g).2 = true from k3_impl_HostStep) rfl rfl o824 trivial
 refine S.go 8 .nil fun ac w β S => S.K1 (r := f_seenAs h m) (d := 134) (c_impl_SeenAs w h ph (S.rd (S.arg hh)) m) fun ac w N q825 F826 S up o827 d828 => ?_
 replace o6 := o6.up up
 replace o9 := o9.up up
 replace o12 := o12.up up
 replace o15 := o15.up up
 clear up d828
 have i842 : In64 (f_seenAs h m).pend := RBare.pend (d := (f_seenAs h m)) o827.rn
 obtain ⟨F833, F836, F839, o834, o837, o840, _, _, _, _, _, _⟩ := sp_Bare o827
 refine S.go 1 .nil fun ac w β S => S.K2 (r := (f_bareStep (f_seenAs h m) g).1) (r' := (f_bareStep (f_seenAs h m) g).2) (d := 136) (c_impl_BareStep w (f_seenAs h m) q825 (S.rd (show GT.rd KK _ _ (f_seenAs h m) q825 from ⟨o834.rn, o837.rn, o840.rn, i842⟩)) g) fun ac w N q846 q847 F848 F849 S up o850 o851 d852 d853 d854 => ?_
 have d862 := Disj.w d852 o6.sub
 have d863 := Disj.w d852 o9.sub
 have d864 := Disj.w d852 o12.sub
 have d865 := Disj.w d852 o15.sub
 replace o6 := o6.up up
 replace o9 := o9.up up
 replace o12 := o12.up up
 replace o15 := o15.up up
 clear up d852
 clear d853
 obtain ⟨F869, F872, F875, o870, o873, o876, _, s874, _, _, _, _⟩ := sp_Bare o850
 refine S.go 17 (.cons (qt o9.rn m Tryz.underlying57) .nil) fun ac w β S => S.SE (α := TMon) o9 (t := 25) (k := m.toNat) (j := 3) (off := q1.mons.1.off + m.toNat * 9 + 3) (v := slv (f_bareStep (f_seenAs h m) g).1.guests.length q846.guests.1) (y := ({ el h.mons m.toNat with guests := (f_bareStep (f_seenAs h m) g).1.guests } : TMon)) (q := ({ q1.mons.2 m.toNat with guests := q846.guests } : PMon)) (fun G g_ gF => ⟨_, owl_Mon_guests g_ o873.own (fun b h h2 => (Disj.symm (Disj.part (Disj.symm d863) s874)) b (gF b h) h2), fun _ h => h⟩) (Disj.symm (Disj.part (Disj.symm d863) s874)) o873.sub o873.young fun w N F883 q884 S up o882 d885 s886 n887 => ?_
 have d888 := d885 _ d17 (Disj.symm (Disj.part (Disj.symm d862) s874)) o6.sub
 have d889 := d885 _ (Disj.symm d20) (Disj.symm (Disj.part (Disj.symm d864) s874)) o12.sub
 have d890 := d885 _ (Disj.symm d21) (Disj.symm (Disj.part (Disj.symm d865) s874)) o15.sub
 replace o6 := o6.upF d17 up
 replace o12 := o12.upF (Disj.symm d20) up
 replace o15 := o15.upF (Disj.symm d21) up
 clear up d885 o9 n887
 have l891 : (h.mons.set m.toNat ({ el h.mons m.toNat with guests := (f_bareStep (f_seenAs h m) g).1.guests })).length = h.mons.length := List.length_set
 replace S := S.z (σ' := ⟨[(6, .p 1 0), (8, .p 2 0), (143, .v (slv (f_bareStep (f_seenAs h m) g).1.guests.length q846.guests.1)), (145, .v (pt q1.mons.1.b (q1.mons.1.off + m.toNat * 9 + 3)))], [GT.cells h ph, Zc THost, [slv h.mem.length q1.mem.1, slv h.mons.length q1.mons.1, slv h.buf.length q1.buf.1, slv h.iobuf.length q1.iobuf.1], GT.cells (f_monAt h m).1 q23, GT.cells (el (f_monAt h m).1.guests g.toNat) (q23.guests.2 g.toNat), [slv (f_bareStep (f_seenAs h m) g).1.mem.length q846.mem.1, slv (f_bareStep (f_seenAs h m) g).1.guests.length q846.guests.1, slv (f_bareStep (f_seenAs h m) g).1.outs.length q846.outs.1, I (f_bareStep (f_seenAs h m) g).1.pend]]⟩)
 replace S := S.cast (σ' := ⟨[(6, .p 1 0), (8, .p 2 0), (143, .v (slv (f_bareStep (f_seenAs h m) g).1.guests.length q846.guests.1)), (145, .v (pt q1.mons.1.b (q1.mons.1.off + m.toNat * 9 + 3)))], [GT.cells h ph, Zc THost, [slv h.mem.length q1.mem.1, slv (h.mons.set m.toNat ({ el h.mons m.toNat with guests := (f_bareStep (f_seenAs h m) g).1.guests })).length q1.mons.1, slv h.buf.length q1.buf.1, slv h.iobuf.length q1.iobuf.1], GT.cells (f_monAt h m).1 q23, GT.cells (el (f_monAt h m).1.guests g.toNat) (q23.guests.2 g.toNat), [slv (f_bareStep (f_seenAs h m) g).1.mem.length q846.mem.1, slv (f_bareStep (f_seenAs h m) g).1.guests.length q846.guests.1, slv (f_bareStep (f_seenAs h m) g).1.outs.length q846.outs.1, I (f_bareStep (f_seenAs h m) g).1.pend]]⟩) (by rw [show (h.mons.set m.toNat ({ el h.mons m.toNat with guests := (f_bareStep (f_seenAs h m) g).1.guests })).length = h.mons.length by omega])
 refine S.is fun S => ?_
 refine S.gr 10 .nil [GT.val (⟨h.mem, (h.mons.set m.toNat ({ el h.mons m.toNat with guests := (f_bareStep (f_seenAs h m) g).1.guests })), h.buf, h.iobuf⟩ : THost) (⟨q1.mem, (q1.mons.1, q884), q1.buf, q1.iobuf⟩ : PHost), B true] fun ac w β S => ?_
 have o892 := ow_Host (x := (⟨h.mem, (h.mons.set m.toNat ({ el h.mons m.toNat with guests := (f_bareStep (f_seenAs h m) g).1.guests })), h.buf, h.iobuf⟩ : THost)) (p := (⟨q1.mem, (q1.mons.1, q884), q1.buf, q1.iobuf⟩ : PHost)) o6 o882 o12 o15 d888 d18 d19 (Disj.symm d889) (Disj.symm d890) d22 
 exact ret2_of (p' := ()) S (show (f_hostStep h m g).1 = (⟨h.mem, (h.mons.set m.toNat ({ el h.mons m.toNat with guests := (f_bareStep (f_seenAs h m) g).1.guests })), h.buf, h.iobuf⟩ : THost) from k1_impl_HostStep) (show (f_hostStep h m g).2 = true from k3_impl_HostStep) rfl rfl o892 trivial

theorem c_impl_HostSteps (w0 : World) (h : THost) (ph : PHost) (hh : RD w0 h ph) (m : Int) (order : List Int) (porder : LP Int) (horder : RD w0 order porder) : Calls Tryz.prog 23 [GT.val h ph, I m, slv order.length porder.1].toArray w0 (Ret2 NoB w0 ((f_hostSteps h m order).1 : THost) ((f_hostSteps h m order).2 : List Bool)) := by
 refine Calls.run NoB Tryz.func23 ?_
 intro ac β S
 have hleh_mem : h.mem.length ≤ 4194304 := LRd.le (RHost.mem (d := h) hh)
 have hleh_mons : h.mons.length ≤ 4194304 := LRd.le (RHost.mons (d := h) hh)
 have hleh_buf : h.buf.length ≤ 4194304 := LRd.le (RHost.buf (d := h) hh)
 have hleh_iobuf : h.iobuf.length ≤ 4194304 := LRd.le (RHost.iobuf (d := h) hh)
 have hleorder : order.length ≤ 4194304 := LRd.le horder
 refine S.go 10 .nil fun ac w β S => S.K1 (r := h) (d := 15) (c_impl_copyHost w h ph (S.rd (S.arg hh))) fun ac w N q1 F2 S up o3 d4 => ?_
 clear up d4
 refine S.B0 (α := Bool) (d := 16) fun ac w N q5 F6 S up o7 d8 => ?_
 have d9 := Disj.w d8 o3.sub
 replace o3 := o3.up up
 clear up d8
 refine S.go 14 .nil fun ac w β S => ?_
 refine lp (fun mm ac w => ∃ (k : Nat) (Y : THost) (acc : List Bool) (q10 : _) (F11 : _) (q13 : _) (F14 : _) (u : _) (N : _) (β : _), mm = order.length - k ∧ (k ≤ order.length) ∧ (acc.length = k) ∧ ((Y, acc) = f_hostSteps h m (order.take k)) ∧ St Tryz.prog Tryz.f23.ntmps w0 NoB u N β ⟨[(1, .v (I m)), (6, .p 1 0), (8, .p 2 0), (9, .v (slv acc.length q10.1)), (17, .v (slv order.length porder.1)), (18, .v (I (order.length : Int))), (19, .v (I (k : Int)))], [GT.cells h ph, Zc THost, GT.cells Y q13]⟩ ac w ∧ Ow w0 NoB u N F11 acc q10 ∧ Ow w0 NoB u N F14 Y q13 ∧ Disj F11 F14) _ ⟨0, h, ([] : List Bool), q5, F6, q1, F2, _, _, _, rfl, o0, (by rfl), (by rfl), S.z, o7, o3, (Disj.symm d9)⟩ ?_
 clear S o3 o7
 rintro f17 mm hf18 ac w ⟨k, Y, acc, q10, F11, q13, F14, u, N, β, rfl, hk, hl, hf, S, o12, o15, d16⟩
 refine S.rs fun S => ?_
 refine S.gd 6 .nil (decide ((k : Int) < (order.length : Int))) (fun ac w β h19 g20 S => ?_) (fun ac w β h19 g20 S => ?_)
 ·refine S.go 17 (.cons (qn (S.arg horder) k Tryz.underlying26) (.cons (qx (S.arg horder) 3 k) .nil)) fun ac w β S => S.K2 (r := (f_hostStep Y m (el order k)).1) (r' := (f_hostStep Y m (el order k)).2) (d := 27) (c_impl_HostStep w Y q13 (S.rd o15.rn) m (el order k)) fun ac w N q21 q22 F23 F24 S up o25 o26 d27 d28 d29 => ?_
  have d32 := Disj.w d27 o12.sub
  replace o12 := o12.up up
  replace o15 := o15.up up
  clear up d27
  clear d28
  refine S.go 17 .nil fun ac w β S => S.B1 (α := Bool) (x := (f_hostStep Y m (el order k)).2) (p := ()) (F := NoB) trivial (fun b h => False.elim h) (fun b h => False.elim h) (d := 33) fun ac w N q34 F35 S up o36 d37 => ?_
  replace o12 := o12.up up
  replace o25 := o25.up up
  clear up d37
  refine S.AF (α := Bool) o12 o36.rn (fun _ _ h => h) (by' := 1) (d := 34) (lx := acc.length) (ly := 1) rfl rfl (show _ ≤ 4194304 by simp only [List.length_append, List.length_cons, List.length_nil]; omega) fun ac w N q40 F41 S up o42 d43 => ?_
  have d44 := d43 _ (Disj.symm d32) o25.sub
  replace o25 := o25.upF (Disj.symm d32) up
  clear up d43
  refine S.ge 8 (.cons (qp (k : Int) 1) .nil) f17 fun ac w β S => hf18.of (order.length - (k + 1)) _ _ (by omega) ⟨k + 1, (f_hostStep Y m (el order k)).1, (acc ++ [(f_hostStep Y m (el order k)).2]), q40, F41, q21, F23, _, _, _, rfl, ?_, ?_, ?_, S.z, o42, o25, (Disj.symm d44)⟩
  ·exact oz
  ·clear S; (simp; omega)
  ·clear S; exact steps_next (by omega) hf
 refine S.gr 15 .nil [GT.val Y q13, slv acc.length q10.1] fun ac w β S => ?_
 exact ret2_oo S (show (f_hostSteps h m order).1 = Y by clear S; (rw [steps_end (by omega) hf]; done)) (show (f_hostSteps h m order).2 = acc by clear S; (rw [steps_end (by omega) hf]; done)) rfl rfl o15 o12 (Disj.symm d16)

theorem k0_impl_HostPoke {p : Prop} (h : p := by clear S; (first | (rw [hostPoke_out (by assumption)]; done) | (rw [hostPoke_yes (by assumption) (by assumption)]; done))) : p := h
theorem c_impl_HostPoke (w0 : World) (h : THost) (ph : PHost) (hh : RD w0 h ph) (m : Int) (page : Int) (hpage : In64 page) (cell : Int) (hcell : In64 cell) (v : Int) (hv : In64 v) : Calls Tryz.prog 24 [GT.val h ph, I m, I page, I cell, I v].toArray w0 (Ret2 NoB w0 ((f_hostPoke h m page cell v).1 : THost) ((f_hostPoke h m page cell v).2 : Bool)) := by
 refine Calls.run NoB Tryz.func24 ?_
 intro ac β S
 have hleh_mem : h.mem.length ≤ 4194304 := LRd.le (RHost.mem (d := h) hh)
 have hleh_mons : h.mons.length ≤ 4194304 := LRd.le (RHost.mons (d := h) hh)
 have hleh_buf : h.buf.length ≤ 4194304 := LRd.le (RHost.buf (d := h) hh)
 have hleh_iobuf : h.iobuf.length ≤ 4194304 := LRd.le (RHost.iobuf (d := h) hh)
 have hlopage := hpage.lo; have hhipage := hpage.hi
 have hlocell := hcell.lo; have hhicell := hcell.hi
 have hlov := hv.lo; have hhiv := hv.hi
 refine S.go 11 .nil fun ac w β S => ?_
 refine S.Frz 1 page () hpage fun β N b1 F2 S up o3 d4 => ?_
 clear up d4
 refine S.Frz 1 cell () hcell fun β N b5 F6 S up o7 d8 => ?_
 replace o3 := o3.up up
 clear up d8
 refine S.Frz 1 v () hv fun β N b10 F11 S up o12 d13 => ?_
 replace o3 := o3.up up
 replace o7 := o7.up up
 clear up d13
 refine S.go 4 .nil fun ac w β S => S.K2 (r := h) (r' := f_pokeOk h m page cell v) (d := 18) (c_impl_reflected_impl_HostPoke_1 w h ph (S.rd (S.arg hh)) m page (cap1 b1 () : LP Int) (S.rd o3.rn) cell (cap1 b5 () : LP Int) (S.rd o7.rn) v (cap1 b10 () : LP Int) (S.rd o12.rn)) fun ac w N q16 q17 F18 F19 S up o20 o21 d22 d23 d24 => ?_
 have d28 := Disj.w d22 o3.sub
 have d29 := Disj.w d22 o7.sub
 have d30 := Disj.w d22 o12.sub
 replace o3 := o3.up up
 replace o7 := o7.up up
 replace o12 := o12.up up
 clear up d22
 clear d23
 refine S.go 10 .nil fun ac w β S => ?_
 refine S.FrzO 2 o20 fun β N b31 F32 S up o33 d34 => ?_
 have d35 := d34 _ d28 o3.sub
 have d36 := d34 _ d29 o7.sub
 have d37 := d34 _ d30 o12.sub
 replace o3 := o3.up up
 replace o7 := o7.up up
 replace o12 := o12.up up
 clear up d34 o20
 refine S.gb 4 .nil (f_pokeOk h m page cell v) (fun ac w β h38 S => ?_) (fun ac w β h38 S => ?_)
 ·have g39 := pokeOk_t h38
  refine S.lt 13 h38 fun S => ?_
  refine S.go 5 (.cons (Q_el1 o3.rn (t := 3) (k := 0) (Nat.succ_pos 0) rfl (by kernel_rfl)) .nil) fun ac w β S => S.KC (d := 24) o33 (c_impl_mend w h (cap1 b31 q16 : LP THost) F32 (S.ownw o33) (fun b hb => (S.sep b (o33.sub b hb)).1) m page 2 (by (first | assumption | exact (pokeOk_t (by assumption)).1 | omega))) fun ac w N p40 F41 S up o42 d44 hq43 => ?_
  change (p40 0).mons.1 = ((cap1 b31 q16 : LP THost).2 0).mons.1 at hq43
  replace o3 := o3.upF d35 up
  replace o7 := o7.upF d36 up
  replace o12 := o12.upF d37 up
  clear up d44 o33
  obtain ⟨Y48, hY49⟩ : ∃ z, z = (f_mend h m page 2) := ⟨_, rfl⟩
  have o50 : Ow w0 NoB w N F41 [Y48] (((cap1 b31 q16 : LP THost).1, p40) : LP THost) := by rw [hY49]; exact o42
  clear o42
  have l51 := mend_lens hY49 (pokeOk_t (by assumption)).1
  try dsimp only at l51
  refine S.go 2 .nil fun ac w β S => ?_
  refine drw ?_
  refine S.draw0 (f := 17) 16 (by kernel_rfl) (by kernel_rfl) fun w S => ?_
  refine S.hq 0 [0] [] [(25, .v (pt ((cap1 b31 q16 : LP THost).1).b (((cap1 b31 q16 : LP THost).1).off + 0 * 4)))] .nil fun ac S => ?_
  refine S.hq 1 [1] [] [(26, .v (slv Y48.mem.length (p40 0).mem.1))] (.cons (Q_cell o50.rn (t := 24) (k := 0) (j := 0) (v := slv Y48.mem.length (p40 0).mem.1) (Nat.succ_pos 0) (by kernel_rfl) (by kernel_rfl)) .nil) fun ac S => ?_
  refine S.hq 2 [2] [] [(27, .v (pt ((cap1 b31 q16 : LP THost).1).b (((cap1 b31 q16 : LP THost).1).off + 0 * 4 + 1)))] .nil fun ac S => ?_
  refine S.hq 3 [3] [] [(28, .v (slv Y48.mons.length (p40 0).mons.1))] (.cons (Q_cell o50.rn (t := 57) (k := 0) (j := 1) (v := slv Y48.mons.length (p40 0).mons.1) (Nat.succ_pos 0) (by kernel_rfl) (by kernel_rfl)) .nil) fun ac S => ?_
  refine S.hq 4 [4] [] [(29, .v (I m))] .nil fun ac S => ?_
  refine S.hq 5 [5] [] [(30, .v (pt (p40 0).mons.1.b ((p40 0).mons.1.off + m.toNat * 9)))] (.cons (qt (capx_mons o50.rn) m Tryz.underlying57) .nil) fun ac S => ?_
  refine S.hq 6 [6] [] [(31, .v (pt (p40 0).mons.1.b ((p40 0).mons.1.off + m.toNat * 9)))] .nil fun ac S => ?_
  refine S.hq 7 [7] [] [(32, .v (slv (el Y48.mons m.toNat).outer.length ((p40 0).mons.2 m.toNat).outer.1))] (.cons (qc (capx_mons o50.rn) 45 m.toNat 0 (slv (el Y48.mons m.toNat).outer.length ((p40 0).mons.2 m.toNat).outer.1)) .nil) fun ac S => ?_
  refine S.hq 8 [8] [] [(33, .v (I page))] (.cons (Q_el1 o3.rn (t := 3) (k := 0) (Nat.succ_pos 0) rfl (by kernel_rfl)) .nil) fun ac S => ?_
  refine S.hq 9 [9] [] [(34, .v (pt ((p40 0).mons.2 m.toNat).outer.1.b (((p40 0).mons.2 m.toNat).outer.1.off + page.toNat * 2)))] (.cons (qt (RMon.outer (d := (el Y48.mons m.toNat)) (LRd.el (capx_mons o50.rn) m.toNat (by omega))) page Tryz.underlying45) .nil) fun ac S => ?_
  refine S.hq 10 [10] [] [(35, .v (pt ((p40 0).mons.2 m.toNat).outer.1.b (((p40 0).mons.2 m.toNat).outer.1.off + page.toNat * 2)))] .nil fun ac S => ?_
  refine S.hq 11 [11] [] [(36, .v (I (el (el Y48.mons m.toNat).outer page.toNat).page))] (.cons (qc (RMon.outer (d := (el Y48.mons m.toNat)) (LRd.el (capx_mons o50.rn) m.toNat (by omega))) 3 page.toNat 0 (I (el (el Y48.mons m.toNat).outer page.toNat).page)) .nil) fun ac S => ?_
  refine S.hq 12 [12] [] [(37, .v (I cell))] (.cons (Q_el1 o7.rn (t := 3) (k := 0) (Nat.succ_pos 0) rfl (by kernel_rfl)) .nil) fun ac S => ?_
  refine S.hq 13 [13] [] [(38, .v (I v))] (.cons (Q_el1 o12.rn (t := 3) (k := 0) (Nat.succ_pos 0) rfl (by kernel_rfl)) .nil) fun ac S => ?_
  refine WD.one (i := 14) (by kernel_rfl) ?_
  refine id (S.k1 39 (c_impl_WithCell w Y48.mem (p40 0).mem (S.rd (capx_mem o50.rn)) (el (el Y48.mons m.toNat).outer page.toNat).page cell v hv) fun ac w N q53 F54 S up o55 d56 => ?_)
  refine WD.next S up (by kernel_rfl) ?_
  have d57 := Disj.w d56 o50.sub
  replace o50 := o50.up up
  clear up d56
  refine S.hq 15 [15] [] [(40, .v (pt ((cap1 b31 q16 : LP THost).1).b (((cap1 b31 q16 : LP THost).1).off + 0 * 4)))] .nil fun ac S => ?_
  refine WD.one (i := 16) (by kernel_rfl) ?_
  refine id (S.setElE (α := THost) o50 (t := 24) (v := slv (f_withCell Y48.mem (el (el Y48.mons m.toNat).outer page.toNat).page cell v).length q53.1) (k := 0) (j := 0) (off := ((cap1 b31 q16 : LP THost).1).off + 0 * 4) (y := (⟨(f_withCell Y48.mem (el (el Y48.mons m.toNat).outer page.toNat).page cell v), Y48.mons, Y48.buf, Y48.iobuf⟩ : THost)) (q := ({ (p40 0) with mem := q53 } : PHost)) (Fy := F54) (by kernel_rfl) (by kernel_rfl) (Nat.succ_pos 0) (by kernel_rfl) (by kernel_rfl) (Nat.le_of_ble_eq_true (by kernel_rfl)) (by kernel_rfl) (fun G g_ gF => ⟨_, owl_Host_mem g_ o55.own (fun b h h2 => d57 b (gF b h) h2), fun _ h => h⟩) d57 o55.sub o55.young fun w N F59 S up o58 d61 s62 n63 => ?_)
  refine WD.last (by kernel_rfl) ?_
  obtain ⟨q60, o64, hq65⟩ : ∃ q60 : Nat → PHost, Ow w0 NoB _ _ F59 [(⟨(f_withCell Y48.mem (el (el Y48.mons m.toNat).outer page.toNat).page cell v), Y48.mons, Y48.buf, Y48.iobuf⟩ : THost)] ((((cap1 b31 q16 : LP THost).1), q60) : LP THost) ∧ (q60 0).mons.1 = (p40 0).mons.1 := ⟨_, o58, rfl⟩
  clear up d61 o50 o58 s62 n63
  refine WD.done (by kernel_rfl) ?_ _
  refine S.ex fun S => ?_
  refine S.gr 10 (.cons (Q_el o64.rn (t := 60) (k := 0) (Nat.succ_pos 0) rfl (by kernel_rfl) (by kernel_rfl)) .nil) [GT.val (⟨(f_withCell Y48.mem (el (el Y48.mons m.toNat).outer page.toNat).page cell v), Y48.mons, Y48.buf, Y48.iobuf⟩ : THost) (q60 0), B true] fun ac w β S => ?_
  obtain ⟨F66, o67, _, _⟩ := foc2_id o64 (k := 0) (Nat.succ_pos 0)
  change Ow w0 NoB _ _ F66 (⟨(f_withCell Y48.mem (el (el Y48.mons m.toNat).outer page.toNat).page cell v), Y48.mons, Y48.buf, Y48.iobuf⟩ : THost) (q60 0) at o67
  exact ret2_of (p' := ()) S (show (f_hostPoke h m page cell v).1 = (⟨(f_withCell Y48.mem (el (el Y48.mons m.toNat).outer page.toNat).page cell v), Y48.mons, Y48.buf, Y48.iobuf⟩ : THost) from k0_impl_HostPoke) (show (f_hostPoke h m page cell v).2 = true from k0_impl_HostPoke) rfl rfl o67 trivial
 refine S.lt 13 h38 fun S => ?_
 refine S.gr 12 (.cons (Q_el o33.rn (t := 60) (k := 0) (Nat.succ_pos 0) rfl (by kernel_rfl) (by kernel_rfl)) .nil) [GT.val h ((cap1 b31 q16 : LP THost).2 0), B false] fun ac w β S => ?_
 obtain ⟨F69, o70, _, _⟩ := foc2_id o33 (k := 0) (Nat.succ_pos 0)
 change Ow w0 NoB _ _ F69 h ((cap1 b31 q16 : LP THost).2 0) at o70
 exact ret2_of (p' := ()) S (show (f_hostPoke h m page cell v).1 = h from k0_impl_HostPoke) (show (f_hostPoke h m page cell v).2 = false from k0_impl_HostPoke) rfl rfl o70 trivial

theorem k0_spec_l01In {p : Prop} (h : p := by clear S; first | rfl | (simp [f_within, *]; done) | (simp [f_within, *]; omega) | (simp_all [f_within]; done) | (simp_all [f_within]; omega)) : p := h
theorem c_spec_l01In (w0 : World) (x : Int) (a : Int) (b : Int) : Calls Tryz.prog 44 [I x, I a, I b].toArray w0 (fun e w' => e = .returned (B (f_within x a b)) ∧ Chg NoB w0 w') := by
 refine Calls.run NoB Tryz.func44 ?_
 intro ac β S
 refine S.gd 11 .nil (decide (x ≥ a)) (fun ac w β h1 g2 S => ?_) (fun ac w β h1 g2 S => ?_)
 ·exact S.gf 8 .nil [B (decide (x ≤ b))] (retB k0_spec_l01In)
 exact S.gf 8 .nil [B false] (retB k0_spec_l01In)

theorem k0_spec_SlotAt {p : Prop} (h : p := by clear S; (first | (unfold f_slotAt; rw [if_pos (by omega)]) | (unfold f_slotAt; rw [if_neg (by omega)]))) : p := h
theorem c_spec_SlotAt (w0 : World) (t : List TSlot) (pt : LP TSlot) (ht : RD w0 t pt) (page : Int) : Calls Tryz.prog 51 [slv t.length pt.1, I page].toArray w0 (fun e w' => e = .returned (GT.val (f_slotAt t page) ()) ∧ Chg NoB w0 w') := by
 refine Calls.run NoB Tryz.func51 ?_
 intro ac β S
 have hlet : t.length ≤ 4194304 := LRd.le ht
 refine S.gb 16 (.cons (qm (t.length : Int) 1) (.cons (Q_call fun w hw => c_spec_l01In w page 0 ((t.length : Int) - 1)) .nil)) (!(f_within page 0 ((t.length : Int) - 1))) (fun ac w β h1 S => ?_) (fun ac w β h1 S => ?_)
 ·have h2 := not_t h1
  have g3 := within_f h2
  exact S.gf 8 (.cons (Q_call fun w hw => c_spec_NoSlot w ) .nil) [GT.val (⟨-1, 0⟩ : TSlot) ()] (retV (p := ()) k0_spec_SlotAt)
 have h4 := not_f h1
 have g5 := within_t h4
 exact S.gf 13 (.cons (qt (S.arg ht) page Tryz.underlying45) (.cons (qs (S.arg ht) 44 page.toNat) .nil)) [GT.val (el t page.toNat) ()] (retV (p := ()) k0_spec_SlotAt)

theorem k0_spec_PageAt {p : Prop} (h : p := by clear S; (first | (unfold f_pageAt; rw [if_pos (by omega)]; done) | (unfold f_pageAt; rw [if_pos (by omega)]; first | rfl | (simp; done)) | (unfold f_pageAt; rw [if_neg (by omega)]; done) | (unfold f_pageAt; rw [if_neg (by omega)]; first | rfl | (simp; done)))) : p := h
theorem c_spec_PageAt (w0 : World) (m : List (List Int)) (pm : LP (List Int)) (hm : RD w0 m pm) (page : Int) : Calls Tryz.prog 131 [slv m.length pm.1, I page].toArray w0 (Ret1 NoB w0 (f_pageAt m page : List Int)) := by
 refine Calls.run NoB Tryz.func131 ?_
 intro ac β S
 have hlem : m.length ≤ 4194304 := LRd.le hm
 refine S.gb 16 (.cons (qm (m.length : Int) 1) (.cons (Q_call fun w hw => c_spec_l01In w page 0 ((m.length : Int) - 1)) .nil)) (!(f_within page 0 ((m.length : Int) - 1))) (fun ac w β h1 S => ?_) (fun ac w β h1 S => ?_)
 ·have h2 := not_t h1
  have g3 := within_f h2
  refine S.go 3 .nil fun ac w β S => S.Mk (α := Int) (m := 4) (by' := 8) (d := 11) (by omega) (show 4 ≤ 4194304 by omega) fun ac w N q4 F5 S up o6 d7 => ?_
  clear up d7
  refine S.gr 4 .nil [slv 4 q4.1] fun ac w β S => ?_
  exact ret1_of S (show f_pageAt m page = (List.replicate 4 (GT.dflt : Int)) from k0_spec_PageAt) (by rw [show 4 = (List.replicate 4 (GT.dflt : Int)).length from (by simp)]; rfl) o6
 have h8 := not_f h1
 have g9 := within_t h8
 refine S.go 5 .nil fun ac w β S => S.B0 (α := Int) (d := 12) fun ac w N q10 F11 S up o12 d13 => ?_
 clear up d13
 have b18 : (el m page.toNat).length ≤ 4194304 := LRd.le (LRd.el (S.arg hm) page.toNat (by omega))
 refine S.go 4 (.cons (qt (S.arg hm) page Tryz.underlying24) (.cons (qx (S.arg hm) 26 page.toNat) .nil)) fun ac w β S => S.AF0 (α := Int) o12 (LRd.el (S.arg hm) page.toNat (by omega)) (fun _ _ h => h) (by' := 8) (d := 17) (lx := 0) (ly := (el m page.toNat).length) rfl fun ac w N q14 F15 S up o16 d17 => ?_
 clear up d17
 refine S.gr 4 .nil [slv (el m page.toNat).length q14.1] fun ac w β S => ?_
 exact ret1_of S (show f_pageAt m page = (el m page.toNat) from k0_spec_PageAt) rfl o16

theorem k0_spec_PageOf {p : Prop} (h : p := by clear S; (unfold f_pageOf; (repeat' split) <;> first | rfl | (exfalso; omega) | (exfalso; simp_all; done) | (exfalso; simp_all; omega))) : p := h
theorem c_spec_PageOf (w0 : World) (h : THost) (ph : PHost) (hh : RD w0 h ph) (m : Int) (page : Int) : Calls Tryz.prog 69 [GT.val h ph, I m, I page].toArray w0 (Ret1 NoB w0 (f_pageOf h m page : List Int)) := by
 refine Calls.run NoB Tryz.func69 ?_
 intro ac β S
 have hleh_mem : h.mem.length ≤ 4194304 := LRd.le (RHost.mem (d := h) hh)
 have hleh_mons : h.mons.length ≤ 4194304 := LRd.le (RHost.mons (d := h) hh)
 have hleh_buf : h.buf.length ≤ 4194304 := LRd.le (RHost.buf (d := h) hh)
 have hleh_iobuf : h.iobuf.length ≤ 4194304 := LRd.le (RHost.iobuf (d := h) hh)
 refine S.gb 17 (.cons (qm (h.mons.length : Int) 1) (.cons (Q_call fun w hw => c_spec_l01In w m 0 ((h.mons.length : Int) - 1)) .nil)) (!(f_within m 0 ((h.mons.length : Int) - 1))) (fun ac w β h1 S => ?_) (fun ac w β h1 S => ?_)
 ·have h2 := not_t h1
  have g3 := within_f h2
  refine S.go 9 .nil fun ac w β S => S.Mk (α := Int) (m := 4) (by' := 8) (d := 21) (by omega) (show 4 ≤ 4194304 by omega) fun ac w N q4 F5 S up o6 d7 => ?_
  clear up d7
  refine S.gr 4 .nil [slv 4 q4.1] fun ac w β S => ?_
  exact ret1_of S (show f_pageOf h m page = (List.replicate 4 (GT.dflt : Int)) from k0_spec_PageOf) (by rw [show 4 = (List.replicate 4 (GT.dflt : Int)).length from (by simp)]; rfl) o6
 have h8 := not_f h1
 have g9 := within_t h8
 refine S.gb 6 (.cons (Q_call fun w hw => c_spec_l01In w page 0 7) .nil) (!(f_within page 0 7)) (fun ac w β h10 S => ?_) (fun ac w β h10 S => ?_)
 ·have h11 := not_t h10
  have g12 := within_f h11
  refine S.go 3 .nil fun ac w β S => S.Mk (α := Int) (m := 4) (by' := 8) (d := 21) (by omega) (show 4 ≤ 4194304 by omega) fun ac w N q13 F14 S up o15 d16 => ?_
  clear up d16
  refine S.gr 4 .nil [slv 4 q13.1] fun ac w β S => ?_
  exact ret1_of S (show f_pageOf h m page = (List.replicate 4 (GT.dflt : Int)) from k0_spec_PageOf) (by rw [show 4 = (List.replicate 4 (GT.dflt : Int)).length from (by simp)]; rfl) o15
 have h17 := not_f h10
 have g18 := within_t h17
 refine S.gd 32 (.cons (qt (RHost.mons (d := h) (S.arg hh)) m Tryz.underlying57) (.cons (qs (RHost.mons (d := h) (S.arg hh)) 99 m.toNat) (.cons (Q_call fun w hw => c_spec_SlotAt w (el h.mons m.toNat).outer (ph.mons.2 m.toNat).outer (rd_of (RMon.outer (d := (el h.mons m.toNat)) (LRd.el (RHost.mons (d := h) (S.arg hh)) m.toNat (by omega))) hw) page) .nil))) ((f_slotAt (el h.mons m.toNat).outer page).page != (-1)) (fun ac w β h19 g20 S => ?_) (fun ac w β h19 g20 S => ?_)
 ·refine S.go 7 .nil fun ac w β S => S.K1 (r := f_pageAt h.mem (f_slotAt (el h.mons m.toNat).outer page).page) (d := 38) (c_spec_PageAt w h.mem ph.mem (S.rd (RHost.mem (d := h) (S.arg hh))) (f_slotAt (el h.mons m.toNat).outer page).page) fun ac w N q21 F22 S up o23 d24 => ?_
  clear up d24
  refine S.gr 4 .nil [slv (f_pageAt h.mem (f_slotAt (el h.mons m.toNat).outer page).page).length q21.1] fun ac w β S => ?_
  exact ret1_of S (show f_pageOf h m page = (f_pageAt h.mem (f_slotAt (el h.mons m.toNat).outer page).page) from k0_spec_PageOf) rfl o23
 refine S.go 8 .nil fun ac w β S => S.K1 (r := f_pageAt (el h.mons m.toNat).out page) (d := 42) (c_spec_PageAt w (el h.mons m.toNat).out (ph.mons.2 m.toNat).out (S.rd (RMon.out (d := (el h.mons m.toNat)) (LRd.el (RHost.mons (d := h) (S.arg hh)) m.toNat (by omega)))) page) fun ac w N q25 F26 S up o27 d28 => ?_
 clear up d28
 refine S.gr 4 .nil [slv (f_pageAt (el h.mons m.toNat).out page).length q25.1] fun ac w β S => ?_
 exact ret1_of S (show f_pageOf h m page = (f_pageAt (el h.mons m.toNat).out page) from k0_spec_PageOf) rfl o27

theorem k0_spec_l04Has {p : Prop} (h : p := by clear S; (unfold f_hasCell; (repeat' split) <;> first | rfl | (rw [Bool.eq_iff_iff]; simp [f_within]; omega) | (rw [Bool.eq_iff_iff]; simp_all; omega))) : p := h
theorem c_spec_l04Has (w0 : World) (m : List (List Int)) (pm : LP (List Int)) (hm : RD w0 m pm) (page : Int) (cell : Int) : Calls Tryz.prog 54 [slv m.length pm.1, I page, I cell].toArray w0 (fun e w' => e = .returned (B (f_hasCell m page cell)) ∧ Chg NoB w0 w') := by
 refine Calls.run NoB Tryz.func54 ?_
 intro ac β S
 have hlem : m.length ≤ 4194304 := LRd.le hm
 refine S.gb 13 (.cons (qm (m.length : Int) 1) (.cons (Q_call fun w hw => c_spec_l01In w page 0 ((m.length : Int) - 1)) .nil)) (f_within page 0 ((m.length : Int) - 1)) (fun ac w β h1 S => ?_) (fun ac w β h1 S => ?_)
 ·have g2 := within_t h1
  have b3 : (el m page.toNat).length ≤ 4194304 := LRd.le (LRd.el (S.arg hm) page.toNat (by omega))
  exact S.gf 13 (.cons (qt (S.arg hm) page Tryz.underlying24) (.cons (qx (S.arg hm) 26 page.toNat) (.cons (qm ((el m page.toNat).length : Int) 1) (.cons (Q_call fun w hw => c_spec_l01In w cell 0 (((el m page.toNat).length : Int) - 1)) .nil)))) [B (f_within cell 0 (((el m page.toNat).length : Int) - 1))] (retB k0_spec_l04Has)
 have g4 := within_f h1
 exact S.gf 13 .nil [B false] (retB k0_spec_l04Has)

theorem k0_spec_CellAt {p : Prop} (h : p := by clear S; (first | (unfold f_cellAt; rw [if_pos (by omega)]; done) | (unfold f_cellAt; rw [if_pos (by omega)]; first | rfl | (simp; done)) | (unfold f_cellAt; rw [if_neg (by omega)]; done) | (unfold f_cellAt; rw [if_neg (by omega)]; first | rfl | (simp; done)))) : p := h
theorem c_spec_CellAt (w0 : World) (m : List (List Int)) (pm : LP (List Int)) (hm : RD w0 m pm) (page : Int) (cell : Int) : Calls Tryz.prog 18 [slv m.length pm.1, I page, I cell].toArray w0 (fun e w' => e = .returned (I (f_cellAt m page cell)) ∧ Chg NoB w0 w') := by
 refine Calls.run NoB Tryz.func18 ?_
 intro ac β S
 have hlem : m.length ≤ 4194304 := LRd.le hm
 refine S.gb 15 (.cons (Q_call fun w hw => c_spec_l04Has w m pm (rd_of (S.arg hm) hw) page cell) .nil) (!(f_hasCell m page cell)) (fun ac w β h1 S => ?_) (fun ac w β h1 S => ?_)
 ·have h2 := not_t h1
  have g3 := hasCell_f h2
  exact S.gf 7 .nil [I 0] (retI k0_spec_CellAt)
 have h4 := not_f h1
 have g5 := hasCell_t h4
 exact S.gf 16 (.cons (qt (S.arg hm) page Tryz.underlying24) (.cons (qx (S.arg hm) 26 page.toNat) (.cons (qt (LRd.el (S.arg hm) page.toNat (by omega)) cell Tryz.underlying26) (.cons (qx (LRd.el (S.arg hm) page.toNat (by omega)) 3 cell.toNat) .nil)))) [I (el (el m page.toNat) cell.toNat)] (retI k0_spec_CellAt)

theorem c_laws_cellOf (w0 : World) (h : THost) (ph : PHost) (hh : RD w0 h ph) (m : Int) (page : Int) (cell : Int) : Calls Tryz.prog 25 [GT.val h ph, I m, I page, I cell].toArray w0 (fun e w' => e = .returned (I (f_cellAt [f_pageOf h m page] 0 cell)) ∧ Chg NoB w0 w') := by
 refine Calls.run NoB Tryz.func25 ?_
 intro ac β S
 have hleh_mem : h.mem.length ≤ 4194304 := LRd.le (RHost.mem (d := h) hh)
 have hleh_mons : h.mons.length ≤ 4194304 := LRd.le (RHost.mons (d := h) hh)
 have hleh_buf : h.buf.length ≤ 4194304 := LRd.le (RHost.buf (d := h) hh)
 have hleh_iobuf : h.iobuf.length ≤ 4194304 := LRd.le (RHost.iobuf (d := h) hh)
 refine S.go 11 .nil fun ac w β S => S.K1 (r := f_pageOf h m page) (d := 12) (c_spec_PageOf w h ph (S.rd (S.arg hh)) m page) fun ac w N q1 F2 S up o3 d4 => ?_
 clear up d4
 refine S.B1 (α := List Int) (x := (f_pageOf h m page)) (p := q1) o3.own o3.sub o3.young (d := 13) fun ac w N q5 F6 S up o7 d8 => ?_
 clear up d8
 exact S.gf 6 (.cons (Q_call fun w hw => c_spec_CellAt w ([(f_pageOf h m page)]) q5 (rd_of o7.rn hw) 0 cell) .nil) [I (f_cellAt ([(f_pageOf h m page)]) 0 cell)] (retI (by clear S; rfl))

theorem k0_laws_FnStale {p : Prop} (h : p := by clear S; first | rfl | (have hz := stale_ok (by omega) hT1 hT2 hT3 hT4 hT5 hT6 hT7 hT8; obtain ⟨⟨z1, z2⟩, z3⟩ := hz; clear hT1 hT2 hT3 hT4 hT5 hT6 hT7 hT8; simp_all [el]; done)) : p := h
theorem c_laws_FnStale (w0 : World) (code : List TByte) (pcode : LP TByte) (hcode : GT.rd KR (Lt w0.heap.size) w0 code pcode) : Calls Tryz.prog 4 [slv code.length pcode.1].toArray w0 (fun e w' => e = .returned (B true) ∧ Chg NoB w0 w') := by
 refine Calls.run NoB Tryz.func4 ?_
 intro ac β S
 have hlecode : code.length ≤ 9223372036854775807 := LRd.le hcode
 refine S.gb 12 (.cons (Q_call fun w hw => c_laws_big w code pcode (rd_of (S.arg hcode) hw)) .nil) (decide (((code.length : Nat) : Int) > 1048576)) (fun ac w β h1 S => ?_) (fun ac w β h1 S => ?_)
 ·exact S.gf 7 .nil [B true] (retB k0_laws_FnStale)
 have hcl : code.length ≤ 1048576 := by have hx := of_decide_eq_false h1; omega
 have hkcode : RD w0 code pcode := cutB hcode hcl
 refine S.go 6 .nil fun ac w β S => S.KE (d := 10) (c_spec_DrawPlaces w code pcode (S.rd (S.arg hkcode)) (by omega)) fun ac w N p2 q3 F4 ⟨h7, h8⟩ S up o5 d6 => ?_
 clear up d6
 have l9 := el_pl h7 h8 0
 have l10 := el_pl8 h7 h8 0
 refine S.go 20 (.cons (qn o5.rn 0 Tryz.underlying26) (.cons (qx o5.rn 3 0) (.cons (Q_rem (x := (el p2 0)) (y := 16) (by decide)) (.cons (Q_sem (s := Instr.build 40 [(0, I 1), (1, I 7)].toArray) (v := .agg [I 1, I 7].toArray) (fun w => by kernel_rfl)) (.cons (Q_sem (s := Instr.build 40 [(0, I 4), (1, I (Int.tmod (el p2 0) 16))].toArray) (v := .agg [I 4, I (Int.tmod (el p2 0) 16)].toArray) (fun w => by kernel_rfl)) (.cons (Q_sem (s := Instr.build 40 [(0, I 4), (1, I (Int.tmod (el p2 0) 16))].toArray) (v := .agg [I 4, I (Int.tmod (el p2 0) 16)].toArray) (fun w => by kernel_rfl)) (.cons (Q_sem (s := Instr.build 40 [(0, I 7)].toArray) (v := .agg [I 7, I 0].toArray) (fun w => by kernel_rfl)) .nil))))))) fun ac w β S => S.BF ([(⟨1, 7⟩ : TIns), (⟨4, (Int.tmod (el p2 0) 16)⟩ : TIns), (⟨4, (Int.tmod (el p2 0) 16)⟩ : TIns), (⟨7, 0⟩ : TIns)] : List TIns) () (d := 21) (List.forall_mem_cons.2 ⟨fun _ => (show RIns (⟨1, 7⟩ : TIns) from ⟨(show In64 1 from ⟨by decide, by decide⟩), (show In64 7 from ⟨by decide, by decide⟩)⟩), List.forall_mem_cons.2 ⟨fun _ => (show RIns (⟨4, (Int.tmod (el p2 0) 16)⟩ : TIns) from ⟨(show In64 4 from ⟨by decide, by decide⟩), (tmod_in64 (by decide))⟩), List.forall_mem_cons.2 ⟨fun _ => (show RIns (⟨4, (Int.tmod (el p2 0) 16)⟩ : TIns) from ⟨(show In64 4 from ⟨by decide, by decide⟩), (tmod_in64 (by decide))⟩), List.forall_mem_cons.2 ⟨fun _ => (show RIns (⟨7, 0⟩ : TIns) from ⟨(show In64 7 from ⟨by decide, by decide⟩), (show In64 0 from ⟨by decide, by decide⟩)⟩), List.forall_mem_nil _⟩⟩⟩⟩) (show 4 ≤ 4194304 by decide) fun ac w N q11 F12 S up o13 d14 => ?_
 clear up d14
 refine S.B1 (α := List TIns) (x := ([(⟨1, 7⟩ : TIns), (⟨4, (Int.tmod (el p2 0) 16)⟩ : TIns), (⟨4, (Int.tmod (el p2 0) 16)⟩ : TIns), (⟨7, 0⟩ : TIns)] : List TIns)) (p := q11) o13.own o13.sub o13.young (d := 22) fun ac w N q15 F16 S up o17 d18 => ?_
 clear up d18
 refine S.B1 (α := List (List TIns)) (x := [([(⟨1, 7⟩ : TIns), (⟨4, (Int.tmod (el p2 0) 16)⟩ : TIns), (⟨4, (Int.tmod (el p2 0) 16)⟩ : TIns), (⟨7, 0⟩ : TIns)] : List TIns)]) (p := q15) o17.own o17.sub o17.young (d := 23) fun ac w N q19 F20 S up o21 d22 => ?_
 clear up d22
 obtain ⟨Y1, hT1⟩ : ∃ z, z = f_hostNew ([[([(⟨1, 7⟩ : TIns), (⟨4, (Int.tmod (el p2 0) 16)⟩ : TIns), (⟨4, (Int.tmod (el p2 0) 16)⟩ : TIns), (⟨7, 0⟩ : TIns)] : List TIns)]]) := ⟨_, rfl⟩
 refine S.K1 (r := Y1) (d := 24) (by rw [hT1]; exact c_spec_HostNew w ([[([(⟨1, 7⟩ : TIns), (⟨4, (Int.tmod (el p2 0) 16)⟩ : TIns), (⟨4, (Int.tmod (el p2 0) 16)⟩ : TIns), (⟨7, 0⟩ : TIns)] : List TIns)]]) q19 (S.rd o21.rn)) fun ac w N q23 F24 S up o25 d26 => ?_
 clear up d26
 obtain ⟨Y2, hT2⟩ : ∃ z, z = f_hostSet Y1 0 0 (Int.tdiv (Int.tmod (el p2 0) 16) 4) (⟨2, 3⟩ : TSlot) := ⟨_, rfl⟩
 refine S.go 10 (.cons (Q_quo (x := (Int.tmod (el p2 0) 16)) (y := 4) (by decide) (tdiv4_in64 (tmod_in64 (by decide)) (by omega))) (.cons (Q_sem (s := Instr.build 44 [(0, I 2), (1, I 3)].toArray) (v := .agg [I 2, I 3].toArray) (fun w => by kernel_rfl)) .nil)) fun ac w β S => S.K2 (r := Y2.1) (r' := Y2.2) (d := 30) (by rw [hT2]; exact c_impl_HostSet w Y1 q23 (S.rd o25.rn) 0 0 (show In64 0 from ⟨by decide, by decide⟩) (Int.tdiv (Int.tmod (el p2 0) 16) 4) (tdiv4_in64 (tmod_in64 (by decide)) (by omega)) (⟨2, 3⟩ : TSlot) (show RSlot (⟨2, 3⟩ : TSlot) from ⟨(show In64 2 from ⟨by decide, by decide⟩), (show In64 3 from ⟨by decide, by decide⟩)⟩)) fun ac w N q28 q29 F30 F31 S up o32 o33 d34 d35 d36 => ?_
 clear up d34
 clear d35
 obtain ⟨Y3, hT3⟩ : ∃ z, z = f_hostFlush Y2.1 0 0 (Int.tdiv (Int.tmod (el p2 0) 16) 4) := ⟨_, rfl⟩
 refine S.go 11 (.cons (Q_quo (x := (Int.tmod (el p2 0) 16)) (y := 4) (by decide) (tdiv4_in64 (tmod_in64 (by decide)) (by omega))) .nil) fun ac w β S => S.K2 (r := Y3.1) (r' := Y3.2) (d := 37) (by rw [hT3]; exact c_impl_HostFlush w Y2.1 q28 (S.rd o32.rn) 0 0 (show In64 0 from ⟨by decide, by decide⟩) (Int.tdiv (Int.tmod (el p2 0) 16) 4) (tdiv4_in64 (tmod_in64 (by decide)) (by omega))) fun ac w N q39 q40 F41 F42 S up o43 o44 d45 d46 d47 => ?_
 clear up d45
 clear d46
 refine S.go 9 .nil fun ac w β S => S.BF ([0, 0] : List Int) () (d := 42) (List.forall_mem_cons.2 ⟨fun _ => (show In64 0 from ⟨by decide, by decide⟩), List.forall_mem_cons.2 ⟨fun _ => (show In64 0 from ⟨by decide, by decide⟩), List.forall_mem_nil _⟩⟩) (show 2 ≤ 4194304 by decide) fun ac w N q50 F51 S up o52 d53 => ?_
 replace o43 := o43.up up
 clear up d53
 obtain ⟨Y4, hT4⟩ : ∃ z, z = f_hostSteps Y3.1 0 ([0, 0] : List Int) := ⟨_, rfl⟩
 refine S.K2 (r := Y4.1) (r' := Y4.2) (d := 43) (by rw [hT4]; exact c_impl_HostSteps w Y3.1 q39 (S.rd o43.rn) 0 ([0, 0] : List Int) q50 (S.rd o52.rn)) fun ac w N q55 q56 F57 F58 S up o59 o60 d61 d62 d63 => ?_
 clear up d61
 clear d62
 obtain ⟨Y5, hT5⟩ : ∃ z, z = f_hostPoke Y4.1 0 2 (Int.tmod (Int.tmod (el p2 0) 16) 4) 50 := ⟨_, rfl⟩
 refine S.go 11 (.cons (Q_rem (x := (Int.tmod (el p2 0) 16)) (y := 4) (by decide)) .nil) fun ac w β S => S.K2 (r := Y5.1) (r' := Y5.2) (d := 50) (by rw [hT5]; exact c_impl_HostPoke w Y4.1 q55 (S.rd o59.rn) 0 2 (show In64 2 from ⟨by decide, by decide⟩) (Int.tmod (Int.tmod (el p2 0) 16) 4) (tmod_in64 (by decide)) 50 (show In64 50 from ⟨by decide, by decide⟩)) fun ac w N q68 q69 F70 F71 S up o72 o73 d74 d75 d76 => ?_
 clear up d74
 clear d75
 obtain ⟨Y6, hT6⟩ : ∃ z, z = f_hostSet Y5.1 0 0 (Int.tdiv (Int.tmod (el p2 0) 16) 4) (⟨5, 3⟩ : TSlot) := ⟨_, rfl⟩
 refine S.go 12 (.cons (Q_quo (x := (Int.tmod (el p2 0) 16)) (y := 4) (by decide) (tdiv4_in64 (tmod_in64 (by decide)) (by omega))) (.cons (Q_sem (s := Instr.build 44 [(0, I 5), (1, I 3)].toArray) (v := .agg [I 5, I 3].toArray) (fun w => by kernel_rfl)) .nil)) fun ac w β S => S.K2 (r := Y6.1) (r' := Y6.2) (d := 58) (by rw [hT6]; exact c_impl_HostSet w Y5.1 q68 (S.rd o72.rn) 0 0 (show In64 0 from ⟨by decide, by decide⟩) (Int.tdiv (Int.tmod (el p2 0) 16) 4) (tdiv4_in64 (tmod_in64 (by decide)) (by omega)) (⟨5, 3⟩ : TSlot) (show RSlot (⟨5, 3⟩ : TSlot) from ⟨(show In64 5 from ⟨by decide, by decide⟩), (show In64 3 from ⟨by decide, by decide⟩)⟩)) fun ac w N q79 q80 F81 F82 S up o83 o84 d85 d86 d87 => ?_
 clear up d85
 clear d86
 obtain ⟨Y7, hT7⟩ : ∃ z, z = f_hostFlush Y6.1 0 0 (Int.tdiv (Int.tmod (el p2 0) 16) 4) := ⟨_, rfl⟩
 refine S.go 11 (.cons (Q_quo (x := (Int.tmod (el p2 0) 16)) (y := 4) (by decide) (tdiv4_in64 (tmod_in64 (by decide)) (by omega))) .nil) fun ac w β S => S.K2 (r := Y7.1) (r' := Y7.2) (d := 65) (by rw [hT7]; exact c_impl_HostFlush w Y6.1 q79 (S.rd o83.rn) 0 0 (show In64 0 from ⟨by decide, by decide⟩) (Int.tdiv (Int.tmod (el p2 0) 16) 4) (tdiv4_in64 (tmod_in64 (by decide)) (by omega))) fun ac w N q90 q91 F92 F93 S up o94 o95 d96 d97 d98 => ?_
 clear up d96
 clear d97
 refine S.go 9 .nil fun ac w β S => S.B1 (α := Int) (x := 0) (p := ()) (F := NoB) (show In64 0 from ⟨by decide, by decide⟩) (fun b h => False.elim h) (fun b h => False.elim h) (d := 70) fun ac w N q101 F102 S up o103 d104 => ?_
 replace o94 := o94.up up
 clear up d104
 obtain ⟨Y8, hT8⟩ : ∃ z, z = f_hostSteps Y7.1 0 ([0]) := ⟨_, rfl⟩
 refine S.K2 (r := Y8.1) (r' := Y8.2) (d := 71) (by rw [hT8]; exact c_impl_HostSteps w Y7.1 q90 (S.rd o94.rn) 0 ([0]) q101 (S.rd o103.rn)) fun ac w N q106 q107 F108 F109 S up o110 o111 d112 d113 d114 => ?_
 clear up d112
 clear d113
 refine S.gd 13 .nil ((Y8.2.length : Int) == 1) (fun ac w β h119 g120 S => ?_) (fun ac w β h119 g120 S => ?_)
 ·refine S.gb 5 (.cons (qn o111.rn 0 Tryz.underlying66) (.cons (qx o111.rn 4 0) .nil)) (el Y8.2 0) (fun ac w β h121 S => ?_) (fun ac w β h121 S => ?_)
  ·refine S.gd 7 (.cons (Q_rem (x := (Int.tmod (el p2 0) 16)) (y := 4) (by decide)) (.cons (Q_call fun w hw => c_laws_cellOf w Y8.1 q106 (rd_of o110.rn hw) 0 2 (Int.tmod (Int.tmod (el p2 0) 16) 4)) .nil)) ((f_cellAt [f_pageOf Y8.1 0 2] 0 (Int.tmod (Int.tmod (el p2 0) 16) 4)) == 50) (fun ac w β h122 g123 S => ?_) (fun ac w β h122 g123 S => ?_)
   ·exact S.gf 10 (.cons (Q_rem (x := (Int.tmod (el p2 0) 16)) (y := 4) (by decide)) (.cons (Q_call fun w hw => c_laws_cellOf w Y8.1 q106 (rd_of o110.rn hw) 0 5 (Int.tmod (Int.tmod (el p2 0) 16) 4)) .nil)) [B ((f_cellAt [f_pageOf Y8.1 0 5] 0 (Int.tmod (Int.tmod (el p2 0) 16) 4)) == 7)] (retB k0_laws_FnStale)
   exact S.gf 10 .nil [B false] (retB k0_laws_FnStale)
  exact S.gf 17 .nil [B false] (retB k0_laws_FnStale)
 exact S.gf 22 .nil [B false] (retB k0_laws_FnStale)

end Go.Proofs.YtgonaioedbphgaaGreat
