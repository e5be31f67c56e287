/- The walks: what each function that the laws reach computes (part 3). -/
import Derived.Test.YtgonaioedbphgaaGreatA5
import Derived.Test.YtgonaioedbphgaaGreatProg
import Derived.KernelRfl
namespace Go.Proofs.YtgonaioedbphgaaGreat
open Go
set_option linter.unusedVariables false
set_option linter.unusedSimpArgs false
set_option maxRecDepth 100000
set_option maxHeartbeats 2000000

theorem k0_impl_lookup {p : Prop} (h : p := by clear S; (first | (rw [lkO1 (by assumption)]; done) | (rw [lkO2 (by assumption) (by assumption)]; done) | (rw [lkI (by assumption) (by assumption) (by omega) (by omega) (by assumption) hJ3, lkTo_f (by assumption)]; first | done | rfl) | (rw [lkI (by assumption) (by assumption) (by omega) (by omega) (by assumption) hJ3, lkTo_k (by assumption) (by assumption)]; first | done | rfl) | (rw [lkI (by assumption) (by assumption) (by omega) (by omega) (by assumption) hJ3, lkTo_m (by assumption) (by assumption) (by assumption) (by assumption)]; first | done | rfl))) : p := h
theorem c_impl_lookup (w0 : World) (h : THost) (ph : PHost) (hh : RD w0 h ph) (m : Int) (g : Int) (page : Int) (hpage : In64 page) (need : Int) (io : Bool) (pre0 : io = false) : Calls Tryz.prog 142 [GT.val h ph, I m, I g, I page, I need, B io].toArray w0 (Ret3 NoB w0 ((f_lookup h m g page need io).1 : THost) ((f_lookup h m g page need io).2.1 : Int) ((f_lookup h m g page need io).2.2 : Bool)) := by
 refine Calls.run NoB Tryz.func142 ?_
 intro ac β S
 have hlio : io = false := by assumption
 subst hlio
 have hleh_mem : h.mem.length ≤ 4194304 := LRd.le (RHost.mem (d := h) hh)
 have hleh_mons : h.mons.length ≤ 4194304 := LRd.le (RHost.mons (d := h) hh)
 have hleh_buf : h.buf.length ≤ 4194304 := LRd.le (RHost.buf (d := h) hh)
 have hleh_iobuf : h.iobuf.length ≤ 4194304 := LRd.le (RHost.iobuf (d := h) hh)
 have hlopage := hpage.lo; have hhipage := hpage.hi
 refine S.go 11 .nil fun ac w β S => S.K1 (r := h) (d := 28) (c_impl_copyHost w h ph (S.rd (S.arg hh))) fun ac w N q1 F2 S up o3 d4 => ?_
 clear up d4
 refine S.go 5 .nil fun ac w β S => ?_
 refine S.FrzO 2 o3 fun β N b5 F6 S up o7 d8 => ?_
 clear up d8 o3
 refine S.go 3 .nil fun ac w β S => S.K2 (r := (f_monAt h m).1) (r' := (f_monAt h m).2) (d := 32) (c_impl_MonAt w h ph (S.rd (S.arg hh)) m) fun ac w N q9 q10 F11 F12 S up o13 o14 d15 d16 d17 => ?_
 replace o7 := o7.up up
 clear up d15
 clear d16
 refine S.go 10 .nil fun ac w β S => ?_
 refine S.cq ⟨[(1, .v (I m)), (2, .v (I g)), (3, .v (I page)), (4, .v (I need)), (5, .v (B false)), (12, .p 1 0), (15, .v (pt (cap1 b5 q1 : LP THost).1.b ((cap1 b5 q1 : LP THost).1.off + 0 * 4))), (16, .p 2 0), (57, .v (B ((((!(f_hostOk h)) || (!(f_monAt h m).2)) || (!(f_within g 0 (((f_monAt h m).1.guests.length : Int) - 1)))) || ((need != 1) && (need != 2)))))], [GT.cells h ph, Zc THost, GT.cells (f_monAt h m).1 q9]⟩ ?_ ?_
 ·clear S; intro S
  refine S.gb 5 (.cons (Q_call fun w hw => c_impl_HostOk w h ph (rd_of (S.arg hh) hw)) .nil) (!(f_hostOk h)) (fun ac w β h20 S => ?_) (fun ac w β h20 S => ?_)
  ·have h21 := not_t h20
   exact S.gn 20 .nil fun ac w β S => ⟨rfl, _, by rw [h20]; exact S.z⟩
  have h22 := not_f h20
  have g23 := hostOk_t h22
  refine S.gb 4 .nil (!(f_monAt h m).2) (fun ac w β h24 S => ?_) (fun ac w β h24 S => ?_)
  ·have h25 := not_t h24
   exact S.gn 16 .nil fun ac w β S => ⟨rfl, _, by rw [h20, h24]; exact S.z⟩
  have h26 := not_f h24
  have g27 := monAt_tt h26
  refine S.gb 8 (.cons (Q_call fun w hw => c_impl_has w g ((f_monAt h m).1.guests.length : Int) (by omega)) .nil) (!(f_within g 0 (((f_monAt h m).1.guests.length : Int) - 1))) (fun ac w β h28 S => ?_) (fun ac w β h28 S => ?_)
  ·have h29 := not_t h28
   have g30 := within_f h29
   exact S.gn 8 .nil fun ac w β S => ⟨rfl, _, by rw [h20, h24, h28]; exact S.z⟩
  have h31 := not_f h28
  have g32 := within_t h31
  refine S.gd 3 .nil (need != 1) (fun ac w β h33 g34 S => ?_) (fun ac w β h33 g34 S => ?_)
  ·exact S.gn 5 .nil fun ac w β S => ⟨rfl, _, by rw [h20, h24, h28, h33]; exact S.z⟩
  exact S.gn 5 .nil fun ac w β S => ⟨rfl, _, by rw [h20, h24, h28, h33]; exact S.z⟩
 clear S; intro ac w β S
 refine S.gb 1 .nil ((((!(f_hostOk h)) || (!(f_monAt h m).2)) || (!(f_within g 0 (((f_monAt h m).1.guests.length : Int) - 1)))) || ((need != 1) && (need != 2))) (fun ac w β h35 S => ?_) (fun ac w β h35 S => ?_)
 ·refine S.gr 10 (.cons (Q_el o7.rn (t := 60) (k := 0) (Nat.succ_pos 0) rfl (by kernel_rfl) (by kernel_rfl)) .nil) [GT.val h ((cap1 b5 q1 : LP THost).2 0), I (-1), B false] fun ac w β S => ?_
  obtain ⟨F36, o37, _, _⟩ := foc2_id o7 (k := 0) (Nat.succ_pos 0)
  change Ow w0 NoB _ _ F36 h ((cap1 b5 q1 : LP THost).2 0) at o37
  exact ret3_of (p' := ()) (p'' := ()) S (show (f_lookup h m g page need false).1 = h from k0_impl_lookup) (show (f_lookup h m g page need false).2.1 = (-1) from k0_impl_lookup) (show (f_lookup h m g page need false).2.2 = false from k0_impl_lookup) rfl rfl rfl o37 (show In64 (-1) from ⟨by decide, by decide⟩) trivial
 obtain ⟨h39, h40⟩ := or_f h35
 obtain ⟨h41, h42⟩ := or_f h39
 obtain ⟨h43, h44⟩ := or_f h41
 have h45 := not_f h43
 have g46 := hostOk_t h45
 have h47 := not_f h44
 have g48 := monAt_tt h47
 have h49 := not_f h42
 have g50 := within_t h49
 have g51 := ne_or h40
 refine S.gb 28 (.cons (qt (RMon.guests (d := (f_monAt h m).1) o13.rn) g Tryz.underlying25) (.cons (qc (RMon.guests (d := (f_monAt h m).1) o13.rn) 45 g.toNat 4 (slv (el (f_monAt h m).1.guests g.toNat).live.length (q9.guests.2 g.toNat).live.1)) (.cons (Q_call fun w hw => c_impl_WalkInner w (el (f_monAt h m).1.guests g.toNat).live (q9.guests.2 g.toNat).live (rd_of (RGuest.live (d := (el (f_monAt h m).1.guests g.toNat)) (LRd.el (RMon.guests (d := (f_monAt h m).1) o13.rn) g.toNat (by omega))) hw) page need) .nil))) (!(f_walkInner (el (f_monAt h m).1.guests g.toNat).live page need).2) (fun ac w β h52 S => ?_) (fun ac w β h52 S => ?_)
 ·have h53 := not_t h52
  refine S.gr 10 (.cons (Q_el o7.rn (t := 60) (k := 0) (Nat.succ_pos 0) rfl (by kernel_rfl) (by kernel_rfl)) .nil) [GT.val h ((cap1 b5 q1 : LP THost).2 0), I (-1), B false] fun ac w β S => ?_
  obtain ⟨F54, o55, _, _⟩ := foc2_id o7 (k := 0) (Nat.succ_pos 0)
  change Ow w0 NoB _ _ F54 h ((cap1 b5 q1 : LP THost).2 0) at o55
  exact ret3_of (p' := ()) (p'' := ()) S (show (f_lookup h m g page need false).1 = h from k0_impl_lookup) (show (f_lookup h m g page need false).2.1 = (-1) from k0_impl_lookup) (show (f_lookup h m g page need false).2.2 = false from k0_impl_lookup) rfl rfl rfl o55 (show In64 (-1) from ⟨by decide, by decide⟩) trivial
 have h57 := not_f h52
 have g58 := walkI h57
 refine S.go 10 .nil fun ac w β S => ?_
 refine cutC S (fun ac w => ∃ (J3 : THost) (q59 : Nat → PHost) (F60 : Bl) (u : _) (N : _) (β : _), (J3 = f_dirtIf h m (f_walkInner (el (f_monAt h m).1.guests g.toNat).live page need).1 need) ∧ (q59 0).mons.1 = q1.mons.1 ∧ St Tryz.prog Tryz.f142.ntmps w0 NoB u N β ⟨[(1, .v (I m)), (2, .v (I g)), (3, .v (I page)), (4, .v (I need)), (5, .v (B false)), (12, .p 1 0), (15, .v (pt ((cap1 b5 q1 : LP THost).1).b (((cap1 b5 q1 : LP THost).1).off + 0 * 4))), (18, .v (I (f_walkInner (el (f_monAt h m).1.guests g.toNat).live page need).1))], [GT.cells h ph, Zc THost]⟩ ac w ∧ Ow w0 NoB u N F60 ([J3]) (((cap1 b5 q1 : LP THost).1, q59) : LP THost)) ?_ ?_
 ·clear S; intro S
  refine S.gd 0 .nil (need == 2) (fun ac w β h63 g64 S => ?_) (fun ac w β h63 g64 S => ?_)
  ·obtain ⟨F65, o66, _, b68⟩ := foc_cap o7 (fun _ o => foc2_Mon_dirty o (k := m.toNat) (show m.toNat < h.mons.length by omega))
   change Ow w0 NoB _ _ F65 (el h.mons m.toNat).dirty (((cap1 b5 q1 : LP THost).2 0).mons.2 m.toNat).dirty at o66
   have l69 := LRd.le o66.rn
   have n70 := o66.sub
   refine S.go 10 (.cons (Q_cell o7.rn (t := 57) (k := 0) (j := 1) (v := slv h.mons.length ((cap1 b5 q1 : LP THost).2 0).mons.1) (Nat.succ_pos 0) (by kernel_rfl) (by kernel_rfl)) (.cons (qt (capx_mons o7.rn) m Tryz.underlying57) (.cons (qc (capx_mons o7.rn) 66 m.toNat 2 (slv (el h.mons m.toNat).dirty.length (((cap1 b5 q1 : LP THost).2 0).mons.2 m.toNat).dirty.1)) (.cons (Q_idx (RMon.dirty (d := (el h.mons m.toNat)) (LRd.el (capx_mons o7.rn) m.toNat (by omega))) (l := (el h.mons m.toNat).dirty.length) (k := (f_walkInner (el (f_monAt h m).1.guests g.toNat).live page need).1.toNat) (i := (f_walkInner (el (f_monAt h m).1.guests g.toNat).live page need).1) rfl (by omega) (by omega) Tryz.underlying66 (by kernel_rfl)) .nil)))) fun ac w β S => S.SF (α := Bool) o66 (t := 4) (k := (f_walkInner (el (f_monAt h m).1.guests g.toNat).live page need).1.toNat) (j := 0) (off := (((cap1 b5 q1 : LP THost).2 0).mons.2 m.toNat).dirty.1.off + (f_walkInner (el (f_monAt h m).1.guests g.toNat).live page need).1.toNat * 1) (v := B true) (y := true) (q := ()) (fun _ _ _ => ⟨NoB, trivial, fun _ h => False.elim h⟩) fun w N F72 q73 S up o71 d74 s75 n76 => ?_
   clear d74 o66
   obtain ⟨p77, o78, hq80⟩ := b68 _ _ _ _ _ NoB up o71 s75 (fun b _ h => False.elim h) List.length_set n76
   obtain ⟨X82, hX83⟩ : ∃ z, z = h.mons.set m.toNat { el h.mons m.toNat with dirty := ((el h.mons m.toNat).dirty.set (f_walkInner (el (f_monAt h m).1.guests g.toNat).live page need).1.toNat true) } := ⟨_, rfl⟩
   have o81 : Ow w0 NoB w N (Or F6 F72) [(⟨h.mem, X82, h.buf, h.iobuf⟩ : THost)] (((cap1 b5 q1 : LP THost).1, p77) : LP THost) := by rw [hX83]; exact o78
   obtain ⟨l84, e85⟩ := setm_dirty hX83 (show m.toNat < h.mons.length by omega) List.length_set
   change (p77 0).mons.1 = ((cap1 b5 q1 : LP THost).2 0).mons.1 at hq80
   clear up o71 n76 o78
   exact S.gn 1 .nil fun ac w β S => ⟨rfl, (⟨h.mem, X82, h.buf, h.iobuf⟩ : THost), p77, (Or F6 F72), _, _, _, (by clear S; first | exact dirtIf_y (by assumption) (by assumption) | exact dirtIf_n (by assumption)), hq80, S.z, o81⟩
  exact S.gn 2 .nil fun ac w β S => ⟨rfl, h, (cap1 b5 q1 : LP THost).2, F6, _, _, _, (by clear S; first | exact dirtIf_y (by assumption) (by assumption) | exact dirtIf_n (by assumption)), rfl, S.z, o7⟩
 clear S o7 o13 o14
 rintro ac w ⟨J3, q59, F60, u, N, β, hJ3, hq62, S, o61⟩
 have hr := dirtIf_bd hJ3 (walkI (by assumption)).1
 refine S.ex fun S => ?_
 have i86 : REntry (f_findEntry J3.buf (f_tagOf m g) page).1 := (findEntry_r (capx_buf o61.rn) (f_tagOf m g) page)
 refine S.go 42 (.cons (Q_call fun w hw => c_impl_TagOf w m g) (.cons (Q_cell o61.rn (t := 58) (k := 0) (j := 2) (v := slv J3.buf.length (q59 0).buf.1) (Nat.succ_pos 0) (by kernel_rfl) (by kernel_rfl)) (.cons (Q_call fun w hw => c_impl_FindEntry w J3.buf (q59 0).buf (rd_of (capx_buf o61.rn) hw) (f_tagOf m g) page) .nil))) fun ac w β S => ?_
 refine S.cq ⟨[(1, .v (I m)), (2, .v (I g)), (3, .v (I page)), (4, .v (I need)), (12, .p 1 0), (15, .v (pt ((cap1 b5 q1 : LP THost).1).b (((cap1 b5 q1 : LP THost).1).off + 0 * 4))), (18, .v (I (f_walkInner (el (f_monAt h m).1.guests g.toNat).live page need).1)), (20, .v (pt ((cap1 b5 q1 : LP THost).1).b (((cap1 b5 q1 : LP THost).1).off + 0 * 4 + 2))), (21, .v (I (f_tagOf m g))), (22, .p 2 0), (105, .v (B ((f_findEntry J3.buf (f_tagOf m g) page).2 && (f_enough (f_findEntry J3.buf (f_tagOf m g) page).1.rights need))))], [GT.cells h ph, Zc THost, GT.cells (f_findEntry J3.buf (f_tagOf m g) page).1 ()]⟩ ?_ ?_
 ·clear S; intro S
  refine S.gb 3 .nil (f_findEntry J3.buf (f_tagOf m g) page).2 (fun ac w β h87 S => ?_) (fun ac w β h87 S => ?_)
  ·exact S.gn 6 (.cons (Q_call fun w hw => c_impl_Enough w (f_findEntry J3.buf (f_tagOf m g) page).1.rights need) .nil) fun ac w β S => ⟨rfl, _, by rw [h87]; exact S.z⟩
  exact S.gn 6 .nil fun ac w β S => ⟨rfl, _, by rw [h87]; exact S.z⟩
 clear S; intro ac w β S
 refine S.gb 1 .nil ((f_findEntry J3.buf (f_tagOf m g) page).2 && (f_enough (f_findEntry J3.buf (f_tagOf m g) page).1.rights need)) (fun ac w β h88 S => ?_) (fun ac w β h88 S => ?_)
 ·obtain ⟨h89, h90⟩ := and_t h88
  have g91 := enough_t h90
  refine S.go 2 .nil fun ac w β S => ?_
  refine drw ?_
  let σ92 : Sy := ⟨[(1, .v (I m)), (2, .v (I g)), (3, .v (I page)), (4, .v (I need)), (12, .p 1 0), (15, .v (pt ((cap1 b5 q1 : LP THost).1).b (((cap1 b5 q1 : LP THost).1).off + 0 * 4))), (18, .v (I (f_walkInner (el (f_monAt h m).1.guests g.toNat).live page need).1)), (20, .v (pt ((cap1 b5 q1 : LP THost).1).b (((cap1 b5 q1 : LP THost).1).off + 0 * 4 + 2))), (21, .v (I (f_tagOf m g))), (22, .p 2 0), (105, .v (B true))], [GT.cells h ph, Zc THost, GT.cells (f_findEntry J3.buf (f_tagOf m g) page).1 ()]⟩
  obtain ⟨u0, N0, β0, S, o61⟩ : ∃ u0 N0 β0, St Tryz.prog Tryz.f142.ntmps w0 NoB u0 N0 β0 σ92 ac w ∧ Ow w0 NoB u0 N0 F60 ([J3]) (((cap1 b5 q1 : LP THost).1, q59) : LP THost) := ⟨_, _, _, S.z, o61⟩
  refine wp_region_cut (fun ac w => ∃  u N β, St Tryz.prog Tryz.f142.ntmps w0 NoB u N β (σ92.dl [1, 2, 3, 4, 15, 18, 20, 21, 22, 105] [(13, .v (I (f_findEntry J3.buf (f_tagOf m g) page).1.host)), (14, .v (B true))] 2 [(1, [slv J3.mem.length (q59 0).mem.1, slv J3.mons.length (q59 0).mons.1, slv J3.buf.length (q59 0).buf.1, slv J3.iobuf.length (q59 0).iobuf.1])]) ac w ∧ Ow w0 NoB u N F60 ([J3]) (((cap1 b5 q1 : LP THost).1, q59) : LP THost)) ?_ ?_
  ·refine S.draw0 (f := 6) 3 (by kernel_rfl) (by kernel_rfl) fun w S => ?_
   refine S.hq 0 [0] [] [(106, .v (GT.val J3 (q59 0)))] (.cons (Q_el o61.rn (t := 60) (k := 0) (Nat.succ_pos 0) rfl (by kernel_rfl) (by kernel_rfl)) .nil) fun ac S => ?_
   refine WD.nameW fun W hW => ?_
   refine WD.castW (l' := mkL 6 [0]) (by kernel_rfl) ?_
   have hK93 ac w u N β (S : St Tryz.prog Tryz.f142.ntmps w0 NoB u N β (σ92.dl [1, 2, 3, 4, 15, 18, 20, 21, 22, 105] [(13, .v (I (f_findEntry J3.buf (f_tagOf m g) page).1.host)), (14, .v (B true))] 3 [(1, [slv J3.mem.length (q59 0).mem.1, slv J3.mons.length (q59 0).mons.1, slv J3.buf.length (q59 0).buf.1, slv J3.iobuf.length (q59 0).iobuf.1])]) ac w) (o61 : Ow w0 NoB u N F60 ([J3]) (((cap1 b5 q1 : LP THost).1, q59) : LP THost)) : W 0 (mkL 6 [0, 1, 2, 3, 4, 5]) ac w := by
    exact od hW ⟨rfl, _, _, _, S.z, o61⟩
   have hK94 ac w u N β (S : St Tryz.prog Tryz.f142.ntmps w0 NoB u N β (σ92.dl [1, 2, 3, 4, 15, 18, 20, 21, 22, 105] [(106, .v (GT.val J3 (q59 0))), (108, .v (I (f_findEntry J3.buf (f_tagOf m g) page).1.host))] 3 []) ac w) (o61 : Ow w0 NoB u N F60 ([J3]) (((cap1 b5 q1 : LP THost).1, q59) : LP THost)) (hNN : NN N0 u0 N u) (hBB : BB σ92.bx.length β0 β) : W 3 (mkL 6 [0, 1, 2]) ac w := by
    exact ox1 hW 3 (S.wl hW [4, 5] .nil fun _ _ _ S => hK93 _ _ _ _ _ S o61)
   have hK95 ac w u N β (S : St Tryz.prog Tryz.f142.ntmps w0 NoB u N β (σ92.dl [1, 2, 3, 4, 15, 18, 20, 21, 22, 105] [(107, .p 2 2)] 3 [(1, [slv J3.mem.length (q59 0).mem.1, slv J3.mons.length (q59 0).mons.1, slv J3.buf.length (q59 0).buf.1, slv J3.iobuf.length (q59 0).iobuf.1])]) ac w) (o61 : Ow w0 NoB u N F60 ([J3]) (((cap1 b5 q1 : LP THost).1, q59) : LP THost)) : W 3 (mkL 6 [0, 1, 3]) ac w := by
    exact ox1 hW 2 (S.wl hW [4, 5] .nil fun _ _ _ S => hK93 _ _ _ _ _ S o61)
   have hK96 ac w u N β (S : St Tryz.prog Tryz.f142.ntmps w0 NoB u N β (σ92.dl [1, 2, 3, 4, 15, 18, 20, 21, 22, 105] [(106, .v (GT.val J3 (q59 0))), (107, .p 2 2)] 3 []) ac w) (o61 : Ow w0 NoB u N F60 ([J3]) (((cap1 b5 q1 : LP THost).1, q59) : LP THost)) (hNN : NN N0 u0 N u) (hBB : BB σ92.bx.length β0 β) : W 4 (mkL 6 [0, 1]) ac w := by
    exact ox2 hW 2 3 (S.wq hW hNN hBB [] .nil fun _ _ _ S hB => hK94 _ _ _ _ _ S o61 hNN hB) (S.wl hW [] .nil fun _ _ _ S => hK95 _ _ _ _ _ S o61)
   rw [hW]
   exact S.wh hW [1] (fun _ => S.rcx) fun _ S => hK96 _ _ _ _ _ S o61 (fun _ h => ⟨h, rfl⟩) (fun _ _ => rfl)
  clear S o61
  rintro ac w ⟨u, N, β, S, o61⟩
  refine S.ex fun S => ?_
  refine S.gr 2 .nil [GT.val J3 (q59 0), I (f_findEntry J3.buf (f_tagOf m g) page).1.host, B true] fun ac w β S => ?_
  obtain ⟨F97, o98, _, _⟩ := foc2_id o61 (k := 0) (Nat.succ_pos 0)
  change Ow w0 NoB _ _ F97 J3 (q59 0) at o98
  exact ret3_of (p' := ()) (p'' := ()) S (show (f_lookup h m g page need false).1 = J3 from k0_impl_lookup) (show (f_lookup h m g page need false).2.1 = (f_findEntry J3.buf (f_tagOf m g) page).1.host from k0_impl_lookup) (show (f_lookup h m g page need false).2.2 = true from k0_impl_lookup) rfl rfl rfl o98 (REntry.host (d := (f_findEntry J3.buf (f_tagOf m g) page).1) i86) trivial
 have i100 : RSlot (f_ask (el (el J3.mons m.toNat).tables g.toNat) page).1 := (ask_r (LRd.el (RMon.tables (d := (el J3.mons m.toNat)) (LRd.el (capx_mons o61.rn) m.toNat (by omega))) g.toNat (by omega)) page)
 refine S.go 26 (.cons (Q_cell o61.rn (t := 57) (k := 0) (j := 1) (v := slv J3.mons.length (q59 0).mons.1) (Nat.succ_pos 0) (by kernel_rfl) (by kernel_rfl)) (.cons (qt (capx_mons o61.rn) m Tryz.underlying57) (.cons (qc (capx_mons o61.rn) 97 m.toNat 7 (slv (el J3.mons m.toNat).tables.length ((q59 0).mons.2 m.toNat).tables.1)) (.cons (qt (RMon.tables (d := (el J3.mons m.toNat)) (LRd.el (capx_mons o61.rn) m.toNat (by omega))) g Tryz.underlying97) (.cons (qs (RMon.tables (d := (el J3.mons m.toNat)) (LRd.el (capx_mons o61.rn) m.toNat (by omega))) 106 g.toNat) (.cons (Q_call fun w hw => c_impl_Ask w (el (el J3.mons m.toNat).tables g.toNat) (((q59 0).mons.2 m.toNat).tables.2 g.toNat) (rd_of (LRd.el (RMon.tables (d := (el J3.mons m.toNat)) (LRd.el (capx_mons o61.rn) m.toNat (by omega))) g.toNat (by omega)) hw) page) .nil)))))) fun ac w β S => ?_
 refine S.cq ⟨[(1, .v (I m)), (2, .v (I g)), (3, .v (I page)), (4, .v (I need)), (12, .p 1 0), (15, .v (pt ((cap1 b5 q1 : LP THost).1).b (((cap1 b5 q1 : LP THost).1).off + 0 * 4))), (18, .v (I (f_walkInner (el (f_monAt h m).1.guests g.toNat).live page need).1)), (20, .v (pt ((cap1 b5 q1 : LP THost).1).b (((cap1 b5 q1 : LP THost).1).off + 0 * 4 + 2))), (21, .v (I (f_tagOf m g))), (24, .p 3 0), (136, .v (B (((!(f_ask (el (el J3.mons m.toNat).tables g.toNat) page).2) || ((f_ask (el (el J3.mons m.toNat).tables g.toNat) page).1.page == (-1))) || (!(f_enough (f_ask (el (el J3.mons m.toNat).tables g.toNat) page).1.rights need)))))], [GT.cells h ph, Zc THost, GT.cells (f_findEntry J3.buf (f_tagOf m g) page).1 (), GT.cells (f_ask (el (el J3.mons m.toNat).tables g.toNat) page).1 ()]⟩ ?_ ?_
 ·clear S; intro S
  refine S.gb 4 .nil (!(f_ask (el (el J3.mons m.toNat).tables g.toNat) page).2) (fun ac w β h101 S => ?_) (fun ac w β h101 S => ?_)
  ·have h102 := not_t h101
   exact S.gn 12 .nil fun ac w β S => ⟨rfl, _, by rw [h101]; exact S.z⟩
  have h103 := not_f h101
  refine S.gd 5 .nil ((f_ask (el (el J3.mons m.toNat).tables g.toNat) page).1.page == (-1)) (fun ac w β h104 g105 S => ?_) (fun ac w β h104 g105 S => ?_)
  ·exact S.gn 7 .nil fun ac w β S => ⟨rfl, _, by rw [h101, h104]; exact S.z⟩
  exact S.gn 7 (.cons (Q_call fun w hw => c_impl_Enough w (f_ask (el (el J3.mons m.toNat).tables g.toNat) page).1.rights need) .nil) fun ac w β S => ⟨rfl, _, by rw [h101, h104]; exact S.z⟩
 clear S; intro ac w β S
 refine S.gb 1 .nil (((!(f_ask (el (el J3.mons m.toNat).tables g.toNat) page).2) || ((f_ask (el (el J3.mons m.toNat).tables g.toNat) page).1.page == (-1))) || (!(f_enough (f_ask (el (el J3.mons m.toNat).tables g.toNat) page).1.rights need))) (fun ac w β h106 S => ?_) (fun ac w β h106 S => ?_)
 ·refine S.go 6 .nil fun ac w β S => S.KC (d := 140) o61 (c_impl_mend w J3 (((cap1 b5 q1 : LP THost).1, q59) : LP THost) F60 (S.ownw o61) (fun b hb => (S.sep b (o61.sub b hb)).1) m (f_walkInner (el (f_monAt h m).1.guests g.toNat).live page need).1 need (by exact (dirtIf_bd hJ3 (walkI (by assumption)).1).1)) fun ac w N p107 F108 S up o109 d111 hq110 => ?_
  change (p107 0).mons.1 = (q59 0).mons.1 at hq110
  clear up d111 o61
  obtain ⟨Y112, hY113⟩ : ∃ z, z = (f_mend J3 m (f_walkInner (el (f_monAt h m).1.guests g.toNat).live page need).1 need) := ⟨_, rfl⟩
  have o114 : Ow w0 NoB w N F108 [Y112] ((((cap1 b5 q1 : LP THost).1), p107) : LP THost) := by rw [hY113]; exact o109
  clear o109
  have l115 := mend_bd2 hY113 (dirtIf_bd hJ3 (walkI (by assumption)).1).1
  try dsimp only at l115
  refine S.go 12 (.cons (Q_cell o114.rn (t := 57) (k := 0) (j := 1) (v := slv Y112.mons.length (p107 0).mons.1) (Nat.succ_pos 0) (by kernel_rfl) (by kernel_rfl)) (.cons (qt (capx_mons o114.rn) m Tryz.underlying57) .nil)) fun ac w β S => ?_
  refine drw ?_
  refine S.draw0 (f := 28) 27 (by kernel_rfl) (by kernel_rfl) fun w S => ?_
  refine S.hq 0 [0] [] [(145, .v (pt (p107 0).mons.1.b ((p107 0).mons.1.off + m.toNat * 9)))] .nil fun ac S => ?_
  refine S.hq 1 [1] [] [(146, .v (pt (p107 0).mons.1.b ((p107 0).mons.1.off + m.toNat * 9)))] .nil fun ac S => ?_
  refine S.hq 2 [2] [] [(147, .v (pt (p107 0).mons.1.b ((p107 0).mons.1.off + m.toNat * 9 + 7)))] .nil fun ac S => ?_
  refine S.hq 3 [3] [] [(148, .v (slv (el Y112.mons m.toNat).tables.length ((p107 0).mons.2 m.toNat).tables.1))] (.cons (qc (capx_mons o114.rn) 97 m.toNat 7 (slv (el Y112.mons m.toNat).tables.length ((p107 0).mons.2 m.toNat).tables.1)) .nil) fun ac S => ?_
  refine S.hq 4 [4] [] [(149, .v (I g))] .nil fun ac S => ?_
  refine S.hq 5 [5] [] [(150, .v (pt (p107 0).mons.1.b ((p107 0).mons.1.off + m.toNat * 9)))] .nil fun ac S => ?_
  refine S.hq 6 [6] [] [(151, .v (pt (p107 0).mons.1.b ((p107 0).mons.1.off + m.toNat * 9)))] .nil fun ac S => ?_
  refine S.hq 7 [7] [] [(152, .v (pt (p107 0).mons.1.b ((p107 0).mons.1.off + m.toNat * 9 + 7)))] .nil fun ac S => ?_
  refine S.hq 8 [8] [] [(153, .v (slv (el Y112.mons m.toNat).tables.length ((p107 0).mons.2 m.toNat).tables.1))] (.cons (qc (capx_mons o114.rn) 97 m.toNat 7 (slv (el Y112.mons m.toNat).tables.length ((p107 0).mons.2 m.toNat).tables.1)) .nil) fun ac S => ?_
  refine S.hq 9 [9] [] [(154, .v (I g))] .nil fun ac S => ?_
  refine S.hq 10 [10] [] [(155, .v (pt ((p107 0).mons.2 m.toNat).tables.1.b (((p107 0).mons.2 m.toNat).tables.1.off + g.toNat * 2)))] (.cons (qt (RMon.tables (d := (el Y112.mons m.toNat)) (LRd.el (capx_mons o114.rn) m.toNat (by omega))) g Tryz.underlying97) .nil) fun ac S => ?_
  refine S.hq 11 [11] [] [(156, .v (GT.val (el (el Y112.mons m.toNat).tables g.toNat) (((p107 0).mons.2 m.toNat).tables.2 g.toNat)))] (.cons (qs (RMon.tables (d := (el Y112.mons m.toNat)) (LRd.el (capx_mons o114.rn) m.toNat (by omega))) 106 g.toNat) .nil) fun ac S => ?_
  refine S.hq 12 [12] [] [(157, .v (pt (p107 0).mons.1.b ((p107 0).mons.1.off + m.toNat * 9)))] .nil fun ac S => ?_
  refine S.hq 13 [13] [] [(158, .v (pt (p107 0).mons.1.b ((p107 0).mons.1.off + m.toNat * 9)))] .nil fun ac S => ?_
  refine S.hq 14 [14] [] [(159, .v (pt (p107 0).mons.1.b ((p107 0).mons.1.off + m.toNat * 9 + 3)))] .nil fun ac S => ?_
  refine S.hq 15 [15] [] [(160, .v (slv (el Y112.mons m.toNat).guests.length ((p107 0).mons.2 m.toNat).guests.1))] (.cons (qc (capx_mons o114.rn) 25 m.toNat 3 (slv (el Y112.mons m.toNat).guests.length ((p107 0).mons.2 m.toNat).guests.1)) .nil) fun ac S => ?_
  refine S.hq 16 [16] [] [(161, .v (I g))] .nil fun ac S => ?_
  refine S.hq 17 [17] [] [(162, .v (pt ((p107 0).mons.2 m.toNat).guests.1.b (((p107 0).mons.2 m.toNat).guests.1.off + g.toNat * 15)))] (.cons (qt (RMon.guests (d := (el Y112.mons m.toNat)) (LRd.el (capx_mons o114.rn) m.toNat (by omega))) g Tryz.underlying25) .nil) fun ac S => ?_
  refine S.hq 18 [18] [] [(163, .v (pt ((p107 0).mons.2 m.toNat).guests.1.b (((p107 0).mons.2 m.toNat).guests.1.off + g.toNat * 15 + 4)))] .nil fun ac S => ?_
  refine S.hq 19 [19] [] [(164, .v (slv (el (el Y112.mons m.toNat).guests g.toNat).live.length (((p107 0).mons.2 m.toNat).guests.2 g.toNat).live.1))] (.cons (qc (RMon.guests (d := (el Y112.mons m.toNat)) (LRd.el (capx_mons o114.rn) m.toNat (by omega))) 45 g.toNat 4 (slv (el (el Y112.mons m.toNat).guests g.toNat).live.length (((p107 0).mons.2 m.toNat).guests.2 g.toNat).live.1)) .nil) fun ac S => ?_
  refine S.hq 20 [20] [] [(165, .v (pt (p107 0).mons.1.b ((p107 0).mons.1.off + m.toNat * 9)))] .nil fun ac S => ?_
  refine S.hq 21 [21] [] [(166, .v (pt (p107 0).mons.1.b ((p107 0).mons.1.off + m.toNat * 9)))] .nil fun ac S => ?_
  refine S.hq 22 [22] [] [(167, .v (pt (p107 0).mons.1.b ((p107 0).mons.1.off + m.toNat * 9)))] .nil fun ac S => ?_
  refine S.hq 23 [23] [] [(168, .v (slv (el Y112.mons m.toNat).outer.length ((p107 0).mons.2 m.toNat).outer.1))] (.cons (qc (capx_mons o114.rn) 45 m.toNat 0 (slv (el Y112.mons m.toNat).outer.length ((p107 0).mons.2 m.toNat).outer.1)) .nil) fun ac S => ?_
  refine S.hq 24 [24] [] [(169, .v (I page))] .nil fun ac S => ?_
  refine WD.one (i := 25) (by kernel_rfl) ?_
  refine id (S.k1 170 (c_impl_Fill w (el (el Y112.mons m.toNat).tables g.toNat) (((p107 0).mons.2 m.toNat).tables.2 g.toNat) (S.rd (LRd.el (RMon.tables (d := (el Y112.mons m.toNat)) (LRd.el (capx_mons o114.rn) m.toNat (by omega))) g.toNat (by omega))) (el (el Y112.mons m.toNat).guests g.toNat).live (((p107 0).mons.2 m.toNat).guests.2 g.toNat).live (S.rd (RGuest.live (d := (el (el Y112.mons m.toNat).guests g.toNat)) (LRd.el (RMon.guests (d := (el Y112.mons m.toNat)) (LRd.el (capx_mons o114.rn) m.toNat (by omega))) g.toNat (by omega)))) (el Y112.mons m.toNat).outer ((p107 0).mons.2 m.toNat).outer (S.rd (RMon.outer (d := (el Y112.mons m.toNat)) (LRd.el (capx_mons o114.rn) m.toNat (by omega)))) page) fun ac w N q116 F117 S up o118 d119 => ?_)
  refine WD.next S up (by kernel_rfl) ?_
  have d120 := Disj.w d119 o114.sub
  replace o114 := o114.up up
  clear up d119
  refine S.hq 26 [26] [] [(171, .v (pt ((p107 0).mons.2 m.toNat).tables.1.b (((p107 0).mons.2 m.toNat).tables.1.off + g.toNat * 2)))] (.cons (qt (RMon.tables (d := (el Y112.mons m.toNat)) (LRd.el (capx_mons o114.rn) m.toNat (by omega))) g Tryz.underlying97) .nil) fun ac S => ?_
  refine WD.one (i := 27) (by kernel_rfl) ?_
  obtain ⟨F121, o122, s123, b124⟩ := foc_cap o114 (fun _ o => foc2_Mon_tables o (k := m.toNat) (show m.toNat < Y112.mons.length by omega))
  change Ow w0 NoB _ _ F121 (el Y112.mons m.toNat).tables ((p107 0).mons.2 m.toNat).tables at o122
  have l125 := LRd.le o122.rn
  have n126 := o122.sub
  refine id (S.sV (α := TKept) o122 (t := 106) (k := g.toNat) (off := ((p107 0).mons.2 m.toNat).tables.1.off + g.toNat * 2) o118 (Disj.symm (Disj.symm (Disj.part d120 s123))) fun w N F128 q129 S up o127 d130 s131 n132 => ?_)
  refine WD.last (by kernel_rfl) ?_
  clear d130 o122
  obtain ⟨p133, o134, hq136⟩ := b124 _ _ _ _ _ F117 up o127 s131 d120 List.length_set n132
  obtain ⟨X138, hX139⟩ : ∃ z, z = Y112.mons.set m.toNat { el Y112.mons m.toNat with tables := ((el Y112.mons m.toNat).tables.set g.toNat (f_fill (el (el Y112.mons m.toNat).tables g.toNat) (el (el Y112.mons m.toNat).guests g.toNat).live (el Y112.mons m.toNat).outer page)) } := ⟨_, rfl⟩
  have o137 : Ow w0 NoB w N (Or F108 F128) [(⟨Y112.mem, X138, Y112.buf, Y112.iobuf⟩ : THost)] (((((cap1 b5 q1 : LP THost).1)), p133) : LP THost) := by rw [hX139]; exact o134
  obtain ⟨l140, e141⟩ := setm_tables hX139 (show m.toNat < Y112.mons.length by omega) List.length_set
  change (p133 0).mons.1 = (p107 0).mons.1 at hq136
  clear up o127 n132 o134
  refine WD.done (by kernel_rfl) ?_ _
  refine S.ex fun S => ?_
  have i142 : RSlot (f_ask (el (el X138 m.toNat).tables g.toNat) page).1 := (ask_r (LRd.el (RMon.tables (d := (el X138 m.toNat)) (LRd.el (rd_hdr hq136 (cap_mons o137.rn)) m.toNat (by omega))) g.toNat (by omega)) page)
  refine S.go 18 (.cons (qc (rd_hdr hq136 (cap_mons o137.rn)) 97 m.toNat 7 (slv (el X138 m.toNat).tables.length (((p133 0).mons.2) m.toNat).tables.1)) (.cons (qt (RMon.tables (d := (el X138 m.toNat)) (LRd.el (rd_hdr hq136 (cap_mons o137.rn)) m.toNat (by omega))) g Tryz.underlying97) (.cons (qs (RMon.tables (d := (el X138 m.toNat)) (LRd.el (rd_hdr hq136 (cap_mons o137.rn)) m.toNat (by omega))) 106 g.toNat) (.cons (Q_call fun w hw => c_impl_Ask w (el (el X138 m.toNat).tables g.toNat) ((((p133 0).mons.2) m.toNat).tables.2 g.toNat) (rd_of (LRd.el (RMon.tables (d := (el X138 m.toNat)) (LRd.el (rd_hdr hq136 (cap_mons o137.rn)) m.toNat (by omega))) g.toNat (by omega)) hw) page) .nil)))) fun ac w β S => ?_
  refine drw ?_
  refine S.draw0 (f := 14) 13 (by kernel_rfl) (by kernel_rfl) fun w S => ?_
  refine S.hq 0 [0] [] [(184, .v (pt ((((cap1 b5 q1 : LP THost).1))).b (((((cap1 b5 q1 : LP THost).1))).off + 0 * 4 + 2)))] .nil fun ac S => ?_
  refine S.hq 1 [1] [] [(185, .v (pt ((((cap1 b5 q1 : LP THost).1))).b (((((cap1 b5 q1 : LP THost).1))).off + 0 * 4 + 2)))] .nil fun ac S => ?_
  refine S.hq 2 [2] [] [(186, .v (pt ((((cap1 b5 q1 : LP THost).1))).b (((((cap1 b5 q1 : LP THost).1))).off + 0 * 4 + 2)))] .nil fun ac S => ?_
  refine S.hq 3 [3] [] [(187, .v (slv Y112.buf.length (p133 0).buf.1))] (.cons (Q_cell o137.rn (t := 58) (k := 0) (j := 2) (v := slv Y112.buf.length (p133 0).buf.1) (Nat.succ_pos 0) (by kernel_rfl) (by kernel_rfl)) .nil) fun ac S => ?_
  refine S.hq 4 [4] [] [(188, .v (I (f_tagOf m g)))] .nil fun ac S => ?_
  refine S.hq 5 [5] [] [(189, .v (I page))] .nil fun ac S => ?_
  refine S.hq 6 [6] [] [(190, .p 3 0)] .nil fun ac S => ?_
  refine S.hq 7 [7] [] [(191, .v (I (f_ask (el (el X138 m.toNat).tables g.toNat) page).1.page))] .nil fun ac S => ?_
  refine S.hq 8 [8] [] [(192, .p 3 1)] .nil fun ac S => ?_
  refine S.hq 9 [9] [] [(193, .v (I (f_ask (el (el X138 m.toNat).tables g.toNat) page).1.rights))] .nil fun ac S => ?_
  refine S.hq 10 [10] [] [(194, .v (GT.val (⟨(f_tagOf m g), page, (f_ask (el (el X138 m.toNat).tables g.toNat) page).1.page, (f_ask (el (el X138 m.toNat).tables g.toNat) page).1.rights⟩ : TEntry) ()))] (.cons (Q_sem (s := Instr.build 155 [(0, I (f_tagOf m g)), (1, I page), (2, I (f_ask (el (el X138 m.toNat).tables g.toNat) page).1.page), (3, I (f_ask (el (el X138 m.toNat).tables g.toNat) page).1.rights)].toArray) (v := .agg [I (f_tagOf m g), I page, I (f_ask (el (el X138 m.toNat).tables g.toNat) page).1.page, I (f_ask (el (el X138 m.toNat).tables g.toNat) page).1.rights].toArray) (fun w => by kernel_rfl)) .nil) fun ac S => ?_
  refine WD.one (i := 11) (by kernel_rfl) ?_
  refine id (S.k1 195 (c_impl_PutEntry w Y112.buf (p133 0).buf (S.rd (cap_buf o137.rn)) (⟨(f_tagOf m g), page, (f_ask (el (el X138 m.toNat).tables g.toNat) page).1.page, (f_ask (el (el X138 m.toNat).tables g.toNat) page).1.rights⟩ : TEntry) (show REntry (⟨(f_tagOf m g), page, (f_ask (el (el X138 m.toNat).tables g.toNat) page).1.page, (f_ask (el (el X138 m.toNat).tables g.toNat) page).1.rights⟩ : TEntry) from ⟨(tagOf_in64 m g), hpage, (RSlot.page (d := (f_ask (el (el X138 m.toNat).tables g.toNat) page).1) i142), (RSlot.rights (d := (f_ask (el (el X138 m.toNat).tables g.toNat) page).1) i142)⟩) (by (first | omega | (dsimp only; omega)))) fun ac w N q143 F144 S up o145 d146 => ?_)
  refine WD.next S up (by kernel_rfl) ?_
  have d147 := Disj.w d146 o137.sub
  replace o137 := o137.up up
  clear up d146
  refine S.hq 12 [12] [] [(196, .v (pt ((((cap1 b5 q1 : LP THost).1))).b (((((cap1 b5 q1 : LP THost).1))).off + 0 * 4 + 2)))] .nil fun ac S => ?_
  refine WD.one (i := 13) (by kernel_rfl) ?_
  refine id (S.setElE (α := THost) o137 (t := 58) (v := slv (f_putEntry Y112.buf (⟨(f_tagOf m g), page, (f_ask (el (el X138 m.toNat).tables g.toNat) page).1.page, (f_ask (el (el X138 m.toNat).tables g.toNat) page).1.rights⟩ : TEntry)).length q143.1) (k := 0) (j := 2) (off := ((((cap1 b5 q1 : LP THost).1))).off + 0 * 4 + 2) (y := (⟨Y112.mem, X138, (f_putEntry Y112.buf (⟨(f_tagOf m g), page, (f_ask (el (el X138 m.toNat).tables g.toNat) page).1.page, (f_ask (el (el X138 m.toNat).tables g.toNat) page).1.rights⟩ : TEntry)), Y112.iobuf⟩ : THost)) (q := ({ (p133 0) with buf := q143 } : PHost)) (Fy := F144) (by kernel_rfl) (by kernel_rfl) (Nat.succ_pos 0) (by kernel_rfl) (by kernel_rfl) (Nat.le_of_ble_eq_true (by kernel_rfl)) (by kernel_rfl) (fun G g_ gF => ⟨_, owl_Host_buf g_ o145.own (fun b h h2 => d147 b (gF b h) h2), fun _ h => h⟩) d147 o145.sub o145.young fun w N F149 S up o148 d151 s152 n153 => ?_)
  refine WD.last (by kernel_rfl) ?_
  obtain ⟨q150, o154, hq155⟩ : ∃ q150 : Nat → PHost, Ow w0 NoB _ _ F149 [(⟨Y112.mem, X138, (f_putEntry Y112.buf (⟨(f_tagOf m g), page, (f_ask (el (el X138 m.toNat).tables g.toNat) page).1.page, (f_ask (el (el X138 m.toNat).tables g.toNat) page).1.rights⟩ : TEntry)), Y112.iobuf⟩ : THost)] ((((((cap1 b5 q1 : LP THost).1))), q150) : LP THost) ∧ (q150 0).mons.1 = (p133 0).mons.1 := ⟨_, o148, rfl⟩
  clear up d151 o137 o148 s152 n153
  refine WD.done (by kernel_rfl) ?_ _
  refine S.ex fun S => ?_
  refine S.go 2 .nil fun ac w β S => ?_
  refine drw ?_
  let σ156 : Sy := ⟨[(12, .p 1 0), (15, .v (pt (((((cap1 b5 q1 : LP THost).1)))).b ((((((cap1 b5 q1 : LP THost).1)))).off + 0 * 4))), (24, .p 3 0)], [GT.cells h ph, Zc THost, GT.cells (f_findEntry J3.buf (f_tagOf m g) page).1 (), GT.cells (f_ask (el (el X138 m.toNat).tables g.toNat) page).1 ()]⟩
  obtain ⟨u0, N0, β0, S, o154⟩ : ∃ u0 N0 β0, St Tryz.prog Tryz.f142.ntmps w0 NoB u0 N0 β0 σ156 ac w ∧ Ow w0 NoB u0 N0 F149 ([(⟨Y112.mem, X138, (f_putEntry Y112.buf (⟨(f_tagOf m g), page, (f_ask (el (el X138 m.toNat).tables g.toNat) page).1.page, (f_ask (el (el X138 m.toNat).tables g.toNat) page).1.rights⟩ : TEntry)), Y112.iobuf⟩ : THost)]) ((((((cap1 b5 q1 : LP THost).1))), q150) : LP THost) := ⟨_, _, _, S.z, o154⟩
  refine wp_region_cut (fun ac w => ∃  u N β, St Tryz.prog Tryz.f142.ntmps w0 NoB u N β (σ156.dl [15, 24] [(13, .v (I (f_ask (el (el X138 m.toNat).tables g.toNat) page).1.page)), (14, .v (B true))] 2 [(1, [slv Y112.mem.length (q150 0).mem.1, slv X138.length (q150 0).mons.1, slv (f_putEntry Y112.buf (⟨(f_tagOf m g), page, (f_ask (el (el X138 m.toNat).tables g.toNat) page).1.page, (f_ask (el (el X138 m.toNat).tables g.toNat) page).1.rights⟩ : TEntry)).length (q150 0).buf.1, slv Y112.iobuf.length (q150 0).iobuf.1])]) ac w ∧ Ow w0 NoB u N F149 ([(⟨Y112.mem, X138, (f_putEntry Y112.buf (⟨(f_tagOf m g), page, (f_ask (el (el X138 m.toNat).tables g.toNat) page).1.page, (f_ask (el (el X138 m.toNat).tables g.toNat) page).1.rights⟩ : TEntry)), Y112.iobuf⟩ : THost)]) ((((((cap1 b5 q1 : LP THost).1))), q150) : LP THost)) ?_ ?_
  ·refine S.draw0 (f := 6) 3 (by kernel_rfl) (by kernel_rfl) fun w S => ?_
   refine S.hq 0 [0] [] [(197, .v (GT.val (⟨Y112.mem, X138, (f_putEntry Y112.buf (⟨(f_tagOf m g), page, (f_ask (el (el X138 m.toNat).tables g.toNat) page).1.page, (f_ask (el (el X138 m.toNat).tables g.toNat) page).1.rights⟩ : TEntry)), Y112.iobuf⟩ : THost) (q150 0)))] (.cons (Q_el o154.rn (t := 60) (k := 0) (Nat.succ_pos 0) rfl (by kernel_rfl) (by kernel_rfl)) .nil) fun ac S => ?_
   refine WD.nameW fun W hW => ?_
   refine WD.castW (l' := mkL 6 [0]) (by kernel_rfl) ?_
   have hK157 ac w u N β (S : St Tryz.prog Tryz.f142.ntmps w0 NoB u N β (σ156.dl [15, 24] [(13, .v (I (f_ask (el (el X138 m.toNat).tables g.toNat) page).1.page)), (14, .v (B true))] 4 [(1, [slv Y112.mem.length (q150 0).mem.1, slv X138.length (q150 0).mons.1, slv (f_putEntry Y112.buf (⟨(f_tagOf m g), page, (f_ask (el (el X138 m.toNat).tables g.toNat) page).1.page, (f_ask (el (el X138 m.toNat).tables g.toNat) page).1.rights⟩ : TEntry)).length (q150 0).buf.1, slv Y112.iobuf.length (q150 0).iobuf.1])]) ac w) (o154 : Ow w0 NoB u N F149 ([(⟨Y112.mem, X138, (f_putEntry Y112.buf (⟨(f_tagOf m g), page, (f_ask (el (el X138 m.toNat).tables g.toNat) page).1.page, (f_ask (el (el X138 m.toNat).tables g.toNat) page).1.rights⟩ : TEntry)), Y112.iobuf⟩ : THost)]) ((((((cap1 b5 q1 : LP THost).1))), q150) : LP THost)) : W 0 (mkL 6 [0, 1, 2, 3, 4, 5]) ac w := by
    exact od hW ⟨rfl, _, _, _, S.z, o154⟩
   have hK158 ac w u N β (S : St Tryz.prog Tryz.f142.ntmps w0 NoB u N β (σ156.dl [15, 24] [(197, .v (GT.val (⟨Y112.mem, X138, (f_putEntry Y112.buf (⟨(f_tagOf m g), page, (f_ask (el (el X138 m.toNat).tables g.toNat) page).1.page, (f_ask (el (el X138 m.toNat).tables g.toNat) page).1.rights⟩ : TEntry)), Y112.iobuf⟩ : THost) (q150 0))), (199, .v (I (f_ask (el (el X138 m.toNat).tables g.toNat) page).1.page))] 4 []) ac w) (o154 : Ow w0 NoB u N F149 ([(⟨Y112.mem, X138, (f_putEntry Y112.buf (⟨(f_tagOf m g), page, (f_ask (el (el X138 m.toNat).tables g.toNat) page).1.page, (f_ask (el (el X138 m.toNat).tables g.toNat) page).1.rights⟩ : TEntry)), Y112.iobuf⟩ : THost)]) ((((((cap1 b5 q1 : LP THost).1))), q150) : LP THost)) (hNN : NN N0 u0 N u) (hBB : BB σ156.bx.length β0 β) : W 3 (mkL 6 [0, 1, 2]) ac w := by
    exact ox1 hW 3 (S.wl hW [4, 5] .nil fun _ _ _ S => hK157 _ _ _ _ _ S o154)
   have hK159 ac w u N β (S : St Tryz.prog Tryz.f142.ntmps w0 NoB u N β (σ156.dl [15, 24] [(198, .p 3 0)] 4 [(1, [slv Y112.mem.length (q150 0).mem.1, slv X138.length (q150 0).mons.1, slv (f_putEntry Y112.buf (⟨(f_tagOf m g), page, (f_ask (el (el X138 m.toNat).tables g.toNat) page).1.page, (f_ask (el (el X138 m.toNat).tables g.toNat) page).1.rights⟩ : TEntry)).length (q150 0).buf.1, slv Y112.iobuf.length (q150 0).iobuf.1])]) ac w) (o154 : Ow w0 NoB u N F149 ([(⟨Y112.mem, X138, (f_putEntry Y112.buf (⟨(f_tagOf m g), page, (f_ask (el (el X138 m.toNat).tables g.toNat) page).1.page, (f_ask (el (el X138 m.toNat).tables g.toNat) page).1.rights⟩ : TEntry)), Y112.iobuf⟩ : THost)]) ((((((cap1 b5 q1 : LP THost).1))), q150) : LP THost)) : W 3 (mkL 6 [0, 1, 3]) ac w := by
    exact ox1 hW 2 (S.wl hW [4, 5] .nil fun _ _ _ S => hK157 _ _ _ _ _ S o154)
   have hK160 ac w u N β (S : St Tryz.prog Tryz.f142.ntmps w0 NoB u N β (σ156.dl [15, 24] [(197, .v (GT.val (⟨Y112.mem, X138, (f_putEntry Y112.buf (⟨(f_tagOf m g), page, (f_ask (el (el X138 m.toNat).tables g.toNat) page).1.page, (f_ask (el (el X138 m.toNat).tables g.toNat) page).1.rights⟩ : TEntry)), Y112.iobuf⟩ : THost) (q150 0))), (198, .p 3 0)] 4 []) ac w) (o154 : Ow w0 NoB u N F149 ([(⟨Y112.mem, X138, (f_putEntry Y112.buf (⟨(f_tagOf m g), page, (f_ask (el (el X138 m.toNat).tables g.toNat) page).1.page, (f_ask (el (el X138 m.toNat).tables g.toNat) page).1.rights⟩ : TEntry)), Y112.iobuf⟩ : THost)]) ((((((cap1 b5 q1 : LP THost).1))), q150) : LP THost)) (hNN : NN N0 u0 N u) (hBB : BB σ156.bx.length β0 β) : W 4 (mkL 6 [0, 1]) ac w := by
    exact ox2 hW 2 3 (S.wq hW hNN hBB [] .nil fun _ _ _ S hB => hK158 _ _ _ _ _ S o154 hNN hB) (S.wl hW [] .nil fun _ _ _ S => hK159 _ _ _ _ _ S o154)
   rw [hW]
   exact S.wh hW [1] (fun _ => S.rcx) fun _ S => hK160 _ _ _ _ _ S o154 (fun _ h => ⟨h, rfl⟩) (fun _ _ => rfl)
  clear S o154
  rintro ac w ⟨u, N, β, S, o154⟩
  refine S.ex fun S => ?_
  refine S.gr 2 .nil [GT.val (⟨Y112.mem, X138, (f_putEntry Y112.buf (⟨(f_tagOf m g), page, (f_ask (el (el X138 m.toNat).tables g.toNat) page).1.page, (f_ask (el (el X138 m.toNat).tables g.toNat) page).1.rights⟩ : TEntry)), Y112.iobuf⟩ : THost) (q150 0), I (f_ask (el (el X138 m.toNat).tables g.toNat) page).1.page, B true] fun ac w β S => ?_
  obtain ⟨F161, o162, _, _⟩ := foc2_id o154 (k := 0) (Nat.succ_pos 0)
  change Ow w0 NoB _ _ F161 (⟨Y112.mem, X138, (f_putEntry Y112.buf (⟨(f_tagOf m g), page, (f_ask (el (el X138 m.toNat).tables g.toNat) page).1.page, (f_ask (el (el X138 m.toNat).tables g.toNat) page).1.rights⟩ : TEntry)), Y112.iobuf⟩ : THost) (q150 0) at o162
  exact ret3_of (p' := ()) (p'' := ()) S (show (f_lookup h m g page need false).1 = (⟨Y112.mem, X138, (f_putEntry Y112.buf (⟨(f_tagOf m g), page, (f_ask (el (el X138 m.toNat).tables g.toNat) page).1.page, (f_ask (el (el X138 m.toNat).tables g.toNat) page).1.rights⟩ : TEntry)), Y112.iobuf⟩ : THost) from k0_impl_lookup) (show (f_lookup h m g page need false).2.1 = (f_ask (el (el X138 m.toNat).tables g.toNat) page).1.page from k0_impl_lookup) (show (f_lookup h m g page need false).2.2 = true from k0_impl_lookup) rfl rfl rfl o162 (RSlot.page (d := (f_ask (el (el X138 m.toNat).tables g.toNat) page).1) i142) trivial
 obtain ⟨h164, h165⟩ := or_f h106
 obtain ⟨h166, h167⟩ := or_f h164
 have h168 := not_f h166
 have g169 : ¬ ((f_ask (el (el J3.mons m.toNat).tables g.toNat) page).1.page = (-1)) := ne_of_beq_false h167
 have h170 := not_f h165
 have g171 := enough_t h170
 refine S.go 4 .nil fun ac w β S => ?_
 refine drw ?_
 refine S.draw0 (f := 14) 13 (by kernel_rfl) (by kernel_rfl) fun w S => ?_
 refine S.hq 0 [0] [] [(184, .v (pt ((cap1 b5 q1 : LP THost).1).b (((cap1 b5 q1 : LP THost).1).off + 0 * 4 + 2)))] .nil fun ac S => ?_
 refine S.hq 1 [1] [] [(185, .v (pt ((cap1 b5 q1 : LP THost).1).b (((cap1 b5 q1 : LP THost).1).off + 0 * 4 + 2)))] .nil fun ac S => ?_
 refine S.hq 2 [2] [] [(186, .v (pt ((cap1 b5 q1 : LP THost).1).b (((cap1 b5 q1 : LP THost).1).off + 0 * 4 + 2)))] .nil fun ac S => ?_
 refine S.hq 3 [3] [] [(187, .v (slv J3.buf.length (q59 0).buf.1))] (.cons (Q_cell o61.rn (t := 58) (k := 0) (j := 2) (v := slv J3.buf.length (q59 0).buf.1) (Nat.succ_pos 0) (by kernel_rfl) (by kernel_rfl)) .nil) fun ac S => ?_
 refine S.hq 4 [4] [] [(188, .v (I (f_tagOf m g)))] .nil fun ac S => ?_
 refine S.hq 5 [5] [] [(189, .v (I page))] .nil fun ac S => ?_
 refine S.hq 6 [6] [] [(190, .p 3 0)] .nil fun ac S => ?_
 refine S.hq 7 [7] [] [(191, .v (I (f_ask (el (el J3.mons m.toNat).tables g.toNat) page).1.page))] .nil fun ac S => ?_
 refine S.hq 8 [8] [] [(192, .p 3 1)] .nil fun ac S => ?_
 refine S.hq 9 [9] [] [(193, .v (I (f_ask (el (el J3.mons m.toNat).tables g.toNat) page).1.rights))] .nil fun ac S => ?_
 refine S.hq 10 [10] [] [(194, .v (GT.val (⟨(f_tagOf m g), page, (f_ask (el (el J3.mons m.toNat).tables g.toNat) page).1.page, (f_ask (el (el J3.mons m.toNat).tables g.toNat) page).1.rights⟩ : TEntry) ()))] (.cons (Q_sem (s := Instr.build 155 [(0, I (f_tagOf m g)), (1, I page), (2, I (f_ask (el (el J3.mons m.toNat).tables g.toNat) page).1.page), (3, I (f_ask (el (el J3.mons m.toNat).tables g.toNat) page).1.rights)].toArray) (v := .agg [I (f_tagOf m g), I page, I (f_ask (el (el J3.mons m.toNat).tables g.toNat) page).1.page, I (f_ask (el (el J3.mons m.toNat).tables g.toNat) page).1.rights].toArray) (fun w => by kernel_rfl)) .nil) fun ac S => ?_
 refine WD.one (i := 11) (by kernel_rfl) ?_
 refine id (S.k1 195 (c_impl_PutEntry w J3.buf (q59 0).buf (S.rd (capx_buf o61.rn)) (⟨(f_tagOf m g), page, (f_ask (el (el J3.mons m.toNat).tables g.toNat) page).1.page, (f_ask (el (el J3.mons m.toNat).tables g.toNat) page).1.rights⟩ : TEntry) (show REntry (⟨(f_tagOf m g), page, (f_ask (el (el J3.mons m.toNat).tables g.toNat) page).1.page, (f_ask (el (el J3.mons m.toNat).tables g.toNat) page).1.rights⟩ : TEntry) from ⟨(tagOf_in64 m g), hpage, (RSlot.page (d := (f_ask (el (el J3.mons m.toNat).tables g.toNat) page).1) i100), (RSlot.rights (d := (f_ask (el (el J3.mons m.toNat).tables g.toNat) page).1) i100)⟩) (by (first | omega | (dsimp only; omega)))) fun ac w N q172 F173 S up o174 d175 => ?_)
 refine WD.next S up (by kernel_rfl) ?_
 have d176 := Disj.w d175 o61.sub
 replace o61 := o61.up up
 clear up d175
 refine S.hq 12 [12] [] [(196, .v (pt ((cap1 b5 q1 : LP THost).1).b (((cap1 b5 q1 : LP THost).1).off + 0 * 4 + 2)))] .nil fun ac S => ?_
 refine WD.one (i := 13) (by kernel_rfl) ?_
 refine id (S.setElE (α := THost) o61 (t := 58) (v := slv (f_putEntry J3.buf (⟨(f_tagOf m g), page, (f_ask (el (el J3.mons m.toNat).tables g.toNat) page).1.page, (f_ask (el (el J3.mons m.toNat).tables g.toNat) page).1.rights⟩ : TEntry)).length q172.1) (k := 0) (j := 2) (off := ((cap1 b5 q1 : LP THost).1).off + 0 * 4 + 2) (y := (⟨J3.mem, J3.mons, (f_putEntry J3.buf (⟨(f_tagOf m g), page, (f_ask (el (el J3.mons m.toNat).tables g.toNat) page).1.page, (f_ask (el (el J3.mons m.toNat).tables g.toNat) page).1.rights⟩ : TEntry)), J3.iobuf⟩ : THost)) (q := ({ (q59 0) with buf := q172 } : PHost)) (Fy := F173) (by kernel_rfl) (by kernel_rfl) (Nat.succ_pos 0) (by kernel_rfl) (by kernel_rfl) (Nat.le_of_ble_eq_true (by kernel_rfl)) (by kernel_rfl) (fun G g_ gF => ⟨_, owl_Host_buf g_ o174.own (fun b h h2 => d176 b (gF b h) h2), fun _ h => h⟩) d176 o174.sub o174.young fun w N F178 S up o177 d180 s181 n182 => ?_)
 refine WD.last (by kernel_rfl) ?_
 obtain ⟨q179, o183, hq184⟩ : ∃ q179 : Nat → PHost, Ow w0 NoB _ _ F178 [(⟨J3.mem, J3.mons, (f_putEntry J3.buf (⟨(f_tagOf m g), page, (f_ask (el (el J3.mons m.toNat).tables g.toNat) page).1.page, (f_ask (el (el J3.mons m.toNat).tables g.toNat) page).1.rights⟩ : TEntry)), J3.iobuf⟩ : THost)] ((((cap1 b5 q1 : LP THost).1), q179) : LP THost) ∧ (q179 0).mons.1 = (q59 0).mons.1 := ⟨_, o177, rfl⟩
 clear up d180 o61 o177 s181 n182
 refine WD.done (by kernel_rfl) ?_ _
 refine S.ex fun S => ?_
 refine S.go 2 .nil fun ac w β S => ?_
 refine drw ?_
 let σ185 : Sy := ⟨[(12, .p 1 0), (15, .v (pt (((cap1 b5 q1 : LP THost).1)).b ((((cap1 b5 q1 : LP THost).1)).off + 0 * 4))), (24, .p 3 0)], [GT.cells h ph, Zc THost, GT.cells (f_findEntry J3.buf (f_tagOf m g) page).1 (), GT.cells (f_ask (el (el J3.mons m.toNat).tables g.toNat) page).1 ()]⟩
 obtain ⟨u0, N0, β0, S, o183⟩ : ∃ u0 N0 β0, St Tryz.prog Tryz.f142.ntmps w0 NoB u0 N0 β0 σ185 ac w ∧ Ow w0 NoB u0 N0 F178 ([(⟨J3.mem, J3.mons, (f_putEntry J3.buf (⟨(f_tagOf m g), page, (f_ask (el (el J3.mons m.toNat).tables g.toNat) page).1.page, (f_ask (el (el J3.mons m.toNat).tables g.toNat) page).1.rights⟩ : TEntry)), J3.iobuf⟩ : THost)]) ((((cap1 b5 q1 : LP THost).1), q179) : LP THost) := ⟨_, _, _, S.z, o183⟩
 refine wp_region_cut (fun ac w => ∃  u N β, St Tryz.prog Tryz.f142.ntmps w0 NoB u N β (σ185.dl [15, 24] [(13, .v (I (f_ask (el (el J3.mons m.toNat).tables g.toNat) page).1.page)), (14, .v (B true))] 2 [(1, [slv J3.mem.length (q179 0).mem.1, slv J3.mons.length (q179 0).mons.1, slv (f_putEntry J3.buf (⟨(f_tagOf m g), page, (f_ask (el (el J3.mons m.toNat).tables g.toNat) page).1.page, (f_ask (el (el J3.mons m.toNat).tables g.toNat) page).1.rights⟩ : TEntry)).length (q179 0).buf.1, slv J3.iobuf.length (q179 0).iobuf.1])]) ac w ∧ Ow w0 NoB u N F178 ([(⟨J3.mem, J3.mons, (f_putEntry J3.buf (⟨(f_tagOf m g), page, (f_ask (el (el J3.mons m.toNat).tables g.toNat) page).1.page, (f_ask (el (el J3.mons m.toNat).tables g.toNat) page).1.rights⟩ : TEntry)), J3.iobuf⟩ : THost)]) ((((cap1 b5 q1 : LP THost).1), q179) : LP THost)) ?_ ?_
 ·refine S.draw0 (f := 6) 3 (by kernel_rfl) (by kernel_rfl) fun w S => ?_
  refine S.hq 0 [0] [] [(197, .v (GT.val (⟨J3.mem, J3.mons, (f_putEntry J3.buf (⟨(f_tagOf m g), page, (f_ask (el (el J3.mons m.toNat).tables g.toNat) page).1.page, (f_ask (el (el J3.mons m.toNat).tables g.toNat) page).1.rights⟩ : TEntry)), J3.iobuf⟩ : THost) (q179 0)))] (.cons (Q_el o183.rn (t := 60) (k := 0) (Nat.succ_pos 0) rfl (by kernel_rfl) (by kernel_rfl)) .nil) fun ac S => ?_
  refine WD.nameW fun W hW => ?_
  refine WD.castW (l' := mkL 6 [0]) (by kernel_rfl) ?_
  have hK186 ac w u N β (S : St Tryz.prog Tryz.f142.ntmps w0 NoB u N β (σ185.dl [15, 24] [(13, .v (I (f_ask (el (el J3.mons m.toNat).tables g.toNat) page).1.page)), (14, .v (B true))] 4 [(1, [slv J3.mem.length (q179 0).mem.1, slv J3.mons.length (q179 0).mons.1, slv (f_putEntry J3.buf (⟨(f_tagOf m g), page, (f_ask (el (el J3.mons m.toNat).tables g.toNat) page).1.page, (f_ask (el (el J3.mons m.toNat).tables g.toNat) page).1.rights⟩ : TEntry)).length (q179 0).buf.1, slv J3.iobuf.length (q179 0).iobuf.1])]) ac w) (o183 : Ow w0 NoB u N F178 ([(⟨J3.mem, J3.mons, (f_putEntry J3.buf (⟨(f_tagOf m g), page, (f_ask (el (el J3.mons m.toNat).tables g.toNat) page).1.page, (f_ask (el (el J3.mons m.toNat).tables g.toNat) page).1.rights⟩ : TEntry)), J3.iobuf⟩ : THost)]) ((((cap1 b5 q1 : LP THost).1), q179) : LP THost)) : W 0 (mkL 6 [0, 1, 2, 3, 4, 5]) ac w := by
   exact od hW ⟨rfl, _, _, _, S.z, o183⟩
  have hK187 ac w u N β (S : St Tryz.prog Tryz.f142.ntmps w0 NoB u N β (σ185.dl [15, 24] [(197, .v (GT.val (⟨J3.mem, J3.mons, (f_putEntry J3.buf (⟨(f_tagOf m g), page, (f_ask (el (el J3.mons m.toNat).tables g.toNat) page).1.page, (f_ask (el (el J3.mons m.toNat).tables g.toNat) page).1.rights⟩ : TEntry)), J3.iobuf⟩ : THost) (q179 0))), (199, .v (I (f_ask (el (el J3.mons m.toNat).tables g.toNat) page).1.page))] 4 []) ac w) (o183 : Ow w0 NoB u N F178 ([(⟨J3.mem, J3.mons, (f_putEntry J3.buf (⟨(f_tagOf m g), page, (f_ask (el (el J3.mons m.toNat).tables g.toNat) page).1.page, (f_ask (el (el J3.mons m.toNat).tables g.toNat) page).1.rights⟩ : TEntry)), J3.iobuf⟩ : THost)]) ((((cap1 b5 q1 : LP THost).1), q179) : LP THost)) (hNN : NN N0 u0 N u) (hBB : BB σ185.bx.length β0 β) : W 3 (mkL 6 [0, 1, 2]) ac w := by
   exact ox1 hW 3 (S.wl hW [4, 5] .nil fun _ _ _ S => hK186 _ _ _ _ _ S o183)
  have hK188 ac w u N β (S : St Tryz.prog Tryz.f142.ntmps w0 NoB u N β (σ185.dl [15, 24] [(198, .p 3 0)] 4 [(1, [slv J3.mem.length (q179 0).mem.1, slv J3.mons.length (q179 0).mons.1, slv (f_putEntry J3.buf (⟨(f_tagOf m g), page, (f_ask (el (el J3.mons m.toNat).tables g.toNat) page).1.page, (f_ask (el (el J3.mons m.toNat).tables g.toNat) page).1.rights⟩ : TEntry)).length (q179 0).buf.1, slv J3.iobuf.length (q179 0).iobuf.1])]) ac w) (o183 : Ow w0 NoB u N F178 ([(⟨J3.mem, J3.mons, (f_putEntry J3.buf (⟨(f_tagOf m g), page, (f_ask (el (el J3.mons m.toNat).tables g.toNat) page).1.page, (f_ask (el (el J3.mons m.toNat).tables g.toNat) page).1.rights⟩ : TEntry)), J3.iobuf⟩ : THost)]) ((((cap1 b5 q1 : LP THost).1), q179) : LP THost)) : W 3 (mkL 6 [0, 1, 3]) ac w := by
   exact ox1 hW 2 (S.wl hW [4, 5] .nil fun _ _ _ S => hK186 _ _ _ _ _ S o183)
  have hK189 ac w u N β (S : St Tryz.prog Tryz.f142.ntmps w0 NoB u N β (σ185.dl [15, 24] [(197, .v (GT.val (⟨J3.mem, J3.mons, (f_putEntry J3.buf (⟨(f_tagOf m g), page, (f_ask (el (el J3.mons m.toNat).tables g.toNat) page).1.page, (f_ask (el (el J3.mons m.toNat).tables g.toNat) page).1.rights⟩ : TEntry)), J3.iobuf⟩ : THost) (q179 0))), (198, .p 3 0)] 4 []) ac w) (o183 : Ow w0 NoB u N F178 ([(⟨J3.mem, J3.mons, (f_putEntry J3.buf (⟨(f_tagOf m g), page, (f_ask (el (el J3.mons m.toNat).tables g.toNat) page).1.page, (f_ask (el (el J3.mons m.toNat).tables g.toNat) page).1.rights⟩ : TEntry)), J3.iobuf⟩ : THost)]) ((((cap1 b5 q1 : LP THost).1), q179) : LP THost)) (hNN : NN N0 u0 N u) (hBB : BB σ185.bx.length β0 β) : W 4 (mkL 6 [0, 1]) ac w := by
   exact ox2 hW 2 3 (S.wq hW hNN hBB [] .nil fun _ _ _ S hB => hK187 _ _ _ _ _ S o183 hNN hB) (S.wl hW [] .nil fun _ _ _ S => hK188 _ _ _ _ _ S o183)
  rw [hW]
  exact S.wh hW [1] (fun _ => S.rcx) fun _ S => hK189 _ _ _ _ _ S o183 (fun _ h => ⟨h, rfl⟩) (fun _ _ => rfl)
 clear S o183
 rintro ac w ⟨u, N, β, S, o183⟩
 refine S.ex fun S => ?_
 refine S.gr 2 .nil [GT.val (⟨J3.mem, J3.mons, (f_putEntry J3.buf (⟨(f_tagOf m g), page, (f_ask (el (el J3.mons m.toNat).tables g.toNat) page).1.page, (f_ask (el (el J3.mons m.toNat).tables g.toNat) page).1.rights⟩ : TEntry)), J3.iobuf⟩ : THost) (q179 0), I (f_ask (el (el J3.mons m.toNat).tables g.toNat) page).1.page, B true] fun ac w β S => ?_
 obtain ⟨F190, o191, _, _⟩ := foc2_id o183 (k := 0) (Nat.succ_pos 0)
 change Ow w0 NoB _ _ F190 (⟨J3.mem, J3.mons, (f_putEntry J3.buf (⟨(f_tagOf m g), page, (f_ask (el (el J3.mons m.toNat).tables g.toNat) page).1.page, (f_ask (el (el J3.mons m.toNat).tables g.toNat) page).1.rights⟩ : TEntry)), J3.iobuf⟩ : THost) (q179 0) at o191
 exact ret3_of (p' := ()) (p'' := ()) S (show (f_lookup h m g page need false).1 = (⟨J3.mem, J3.mons, (f_putEntry J3.buf (⟨(f_tagOf m g), page, (f_ask (el (el J3.mons m.toNat).tables g.toNat) page).1.page, (f_ask (el (el J3.mons m.toNat).tables g.toNat) page).1.rights⟩ : TEntry)), J3.iobuf⟩ : THost) from k0_impl_lookup) (show (f_lookup h m g page need false).2.1 = (f_ask (el (el J3.mons m.toNat).tables g.toNat) page).1.page from k0_impl_lookup) (show (f_lookup h m g page need false).2.2 = true from k0_impl_lookup) rfl rfl rfl o191 (RSlot.page (d := (f_ask (el (el J3.mons m.toNat).tables g.toNat) page).1) i100) trivial

theorem c_impl_Lookup (w0 : World) (h : THost) (ph : PHost) (hh : RD w0 h ph) (m : Int) (g : Int) (page : Int) (hpage : In64 page) (need : Int) : Calls Tryz.prog 79 [GT.val h ph, I m, I g, I page, I need].toArray w0 (Ret3 NoB w0 ((f_lookup h m g page need false).1 : THost) ((f_lookup h m g page need false).2.1 : Int) ((f_lookup h m g page need false).2.2 : Bool)) := by
 refine Calls.run NoB Tryz.func79 ?_
 intro ac β S
 have hleh_mem : h.mem.length ≤ 4194304 := LRd.le (RHost.mem (d := h) hh)
 have hleh_mons : h.mons.length ≤ 4194304 := LRd.le (RHost.mons (d := h) hh)
 have hleh_buf : h.buf.length ≤ 4194304 := LRd.le (RHost.buf (d := h) hh)
 have hleh_iobuf : h.iobuf.length ≤ 4194304 := LRd.le (RHost.iobuf (d := h) hh)
 have hlopage := hpage.lo; have hhipage := hpage.hi
 refine S.go 15 .nil fun ac w β S => S.K3 (r := (f_lookup h m g page need false).1) (r' := (f_lookup h m g page need false).2.1) (r'' := (f_lookup h m g page need false).2.2) (d := 18) (c_impl_lookup w h ph (S.rd (S.arg hh)) m g page hpage need false (by rfl)) fun ac w N q1 F2 S up o3 d4 i5 => ?_
 clear up d4
 refine S.gr 9 .nil [GT.val (f_lookup h m g page need false).1 q1, I (f_lookup h m g page need false).2.1, B (f_lookup h m g page need false).2.2] fun ac w β S => ?_
 exact ret3_of (p' := ()) (p'' := ()) S (show (f_lookup h m g page need false).1 = (f_lookup h m g page need false).1 by clear S; rfl) (show (f_lookup h m g page need false).2.1 = (f_lookup h m g page need false).2.1 by clear S; rfl) (show (f_lookup h m g page need false).2.2 = (f_lookup h m g page need false).2.2 by clear S; rfl) rfl rfl rfl o3 i5 trivial

theorem c_impl_FaultExit (w0 : World) (page : Int) (hpage : In64 page) (write : Bool) : Calls Tryz.prog 83 [I page, B write].toArray w0 (fun e w' => e = .returned (GT.val (f_faultExit page write) ()) ∧ Chg NoB w0 w') := by
 refine Calls.run NoB Tryz.func83 ?_
 intro ac β S
 have hlopage := hpage.lo; have hhipage := hpage.hi
 exact S.gf 14 (.cons (Q_sem (s := Instr.build 49 [(0, I 1), (1, I page), (2, B write)].toArray) (v := .agg [I 1, I page, B write, I 0].toArray) (fun w => by kernel_rfl)) .nil) [GT.val (⟨1, page, write, 0⟩ : TExit) ()] (retV (p := ()) (by clear S; rfl))

theorem c_impl_Stopped (w0 : World) (g : TGuest) (pg : PGuest) (hg : RD w0 g pg) (e : TExit) (he : RExit e) : Calls Tryz.prog 82 [GT.val g pg, GT.val e ()].toArray w0 (Ret1 NoB w0 (({ g with exit := e } : TGuest) : TGuest)) := by
 refine Calls.run NoB Tryz.func82 ?_
 intro ac β S
 have hleg_prog : g.prog.length ≤ 4194304 := LRd.le (RGuest.prog (d := g) hg)
 have hleg_written : g.written.length ≤ 4194304 := LRd.le (RGuest.written (d := g) hg)
 have hleg_live : g.live.length ≤ 4194304 := LRd.le (RGuest.live (d := g) hg)
 have hleg_seen : g.seen.length ≤ 4194304 := LRd.le (RGuest.seen (d := g) hg)
 refine S.go 10 .nil fun ac w β S => S.K1 (r := g) (d := 7) (c_impl_copyGuest w g pg (S.rd (S.arg hg))) fun ac w N q1 F2 S up o3 d4 => ?_
 clear up d4
 have i8 : In64 g.acc := RGuest.acc (d := g) o3.rn
 have i9 : In64 g.pc := RGuest.pc (d := g) o3.rn
 have i16 : RCtl g.ctl := RGuest.ctl (d := g) o3.rn
 have i17 : In64 g.pend := RGuest.pend (d := g) o3.rn
 obtain ⟨F5, F10, F13, F19, o6, o11, o14, o20, _, _, _, _, d22, d23, d24, d25, d26, d27⟩ := sp_Guest o3
 refine S.gr 18 .nil [GT.val (⟨g.prog, g.acc, g.pc, g.written, g.live, g.ctl, g.pend, e, g.halted, g.seen⟩ : TGuest) (⟨q1.prog, q1.written, q1.live, q1.seen⟩ : PGuest)] fun ac w β S => ?_
 have o28 := ow_Guest (x := (⟨g.prog, g.acc, g.pc, g.written, g.live, g.ctl, g.pend, e, g.halted, g.seen⟩ : TGuest)) (p := (⟨q1.prog, q1.written, q1.live, q1.seen⟩ : PGuest)) o6 o11 o14 o20 d22 d23 d24 d25 d26 d27 i8 i9 i16 i17 he
 exact ret1_of S (show ({ g with exit := e } : TGuest) = (⟨g.prog, g.acc, g.pc, g.written, g.live, g.ctl, g.pend, e, g.halted, g.seen⟩ : TGuest) by clear S; rfl) rfl o28

theorem k0_impl_AddrCell {p : Prop} (h : p := by clear S; (first | (unfold f_addrCell; rw [if_pos (by omega)]; done) | (unfold f_addrCell; rw [if_pos (by omega)]; first | rfl | (simp; done)) | (unfold f_addrCell; rw [if_neg (by omega)]; done) | (unfold f_addrCell; rw [if_neg (by omega)]; first | rfl | (simp; done)))) : p := h
theorem c_impl_AddrCell (w0 : World) (addr : Int) (haddr : In64 addr) : Calls Tryz.prog 84 [I addr].toArray w0 (fun e w' => e = .returned (I (f_addrCell addr)) ∧ Chg NoB w0 w') := by
 refine Calls.run NoB Tryz.func84 ?_
 intro ac β S
 have hloaddr := haddr.lo; have hhiaddr := haddr.hi
 refine S.gd 12 .nil (decide (addr < 0)) (fun ac w β h1 g2 S => ?_) (fun ac w β h1 g2 S => ?_)
 ·exact S.gf 7 .nil [I (-1)] (retI k0_impl_AddrCell)
 exact S.gf 11 (.cons (Q_rem (x := addr) (y := 4) (by decide)) .nil) [I (Int.tmod addr 4)] (retI k0_impl_AddrCell)

theorem k0_impl_Moved {p : Prop} (h : p := by clear S; (unfold f_moved; first | (rw [if_pos (by omega)]; done) | (rw [if_neg (by omega)]; done))) : p := h
theorem c_impl_Moved (w0 : World) (g : TGuest) (pg : PGuest) (hg : RD w0 g pg) : Calls Tryz.prog 144 [GT.val g pg].toArray w0 (Ret1 NoB w0 (f_moved g : TGuest)) := by
 refine Calls.run NoB Tryz.func144 ?_
 intro ac β S
 have hpc := RGuest.pc (d := g) hg
 have hpl := hpc.lo
 have hph := hpc.hi
 have hleg_prog : g.prog.length ≤ 4194304 := LRd.le (RGuest.prog (d := g) hg)
 have hleg_written : g.written.length ≤ 4194304 := LRd.le (RGuest.written (d := g) hg)
 have hleg_live : g.live.length ≤ 4194304 := LRd.le (RGuest.live (d := g) hg)
 have hleg_seen : g.seen.length ≤ 4194304 := LRd.le (RGuest.seen (d := g) hg)
 refine S.go 9 .nil fun ac w β S => S.K1 (r := g) (d := 5) (c_impl_copyGuest w g pg (S.rd (S.arg hg))) fun ac w N q1 F2 S up o3 d4 => ?_
 clear up d4
 have i8 : In64 g.acc := RGuest.acc (d := g) o3.rn
 have i16 : RCtl g.ctl := RGuest.ctl (d := g) o3.rn
 have i17 : In64 g.pend := RGuest.pend (d := g) o3.rn
 have i18 : RExit g.exit := RGuest.exit (d := g) o3.rn
 obtain ⟨F5, F10, F13, F19, o6, o11, o14, o20, _, _, _, _, d22, d23, d24, d25, d26, d27⟩ := sp_Guest o3
 refine S.gd 12 .nil (decide (g.pc ≥ 12)) (fun ac w β h28 g29 S => ?_) (fun ac w β h28 g29 S => ?_)
 ·refine S.gr 13 .nil [GT.val (⟨g.prog, g.acc, 12, g.written, g.live, g.ctl, g.pend, g.exit, g.halted, g.seen⟩ : TGuest) (⟨q1.prog, q1.written, q1.live, q1.seen⟩ : PGuest)] fun ac w β S => ?_
  have o30 := ow_Guest (x := (⟨g.prog, g.acc, 12, g.written, g.live, g.ctl, g.pend, g.exit, g.halted, g.seen⟩ : TGuest)) (p := (⟨q1.prog, q1.written, q1.live, q1.seen⟩ : PGuest)) o6 o11 o14 o20 d22 d23 d24 d25 d26 d27 i8 (show In64 12 from ⟨by decide, by decide⟩) i16 i17 i18
  exact ret1_of S (show f_moved g = (⟨g.prog, g.acc, 12, g.written, g.live, g.ctl, g.pend, g.exit, g.halted, g.seen⟩ : TGuest) from k0_impl_Moved) rfl o30
 refine S.gr 16 (.cons (qp g.pc 1) .nil) [GT.val (⟨g.prog, g.acc, (g.pc + 1), g.written, g.live, g.ctl, g.pend, g.exit, g.halted, g.seen⟩ : TGuest) (⟨q1.prog, q1.written, q1.live, q1.seen⟩ : PGuest)] fun ac w β S => ?_
 have o31 := ow_Guest (x := (⟨g.prog, g.acc, (g.pc + 1), g.written, g.live, g.ctl, g.pend, g.exit, g.halted, g.seen⟩ : TGuest)) (p := (⟨q1.prog, q1.written, q1.live, q1.seen⟩ : PGuest)) o6 o11 o14 o20 d22 d23 d24 d25 d26 d27 i8 (show In64 (g.pc + 1) from ⟨by omega, by omega⟩) i16 i17 i18
 exact ret1_of S (show f_moved g = (⟨g.prog, g.acc, (g.pc + 1), g.written, g.live, g.ctl, g.pend, g.exit, g.halted, g.seen⟩ : TGuest) from k0_impl_Moved) rfl o31

theorem c_impl_Stored (w0 : World) (g : TGuest) (pg : PGuest) (hg : RD w0 g pg) : Calls Tryz.prog 85 [GT.val g pg].toArray w0 (Ret1 NoB w0 (f_moved g : TGuest)) := by
 refine Calls.run NoB Tryz.func85 ?_
 intro ac β S
 have hleg_prog : g.prog.length ≤ 4194304 := LRd.le (RGuest.prog (d := g) hg)
 have hleg_written : g.written.length ≤ 4194304 := LRd.le (RGuest.written (d := g) hg)
 have hleg_live : g.live.length ≤ 4194304 := LRd.le (RGuest.live (d := g) hg)
 have hleg_seen : g.seen.length ≤ 4194304 := LRd.le (RGuest.seen (d := g) hg)
 refine S.go 9 .nil fun ac w β S => S.K1 (r := f_moved g) (d := 4) (c_impl_Moved w g pg (S.rd (S.arg hg))) fun ac w N q1 F2 S up o3 d4 => ?_
 clear up d4
 refine S.gr 4 .nil [GT.val (f_moved g) q1] fun ac w β S => ?_
 exact ret1_of S (show f_moved g = (f_moved g) by clear S; rfl) rfl o3

theorem k0_impl_CellAt {p : Prop} (h : p := by clear S; (first | (unfold f_cellAt; rw [if_pos (by omega)]; done) | (unfold f_cellAt; rw [if_pos (by omega)]; first | rfl | (simp; done)) | (unfold f_cellAt; rw [if_neg (by omega)]; done) | (unfold f_cellAt; rw [if_neg (by omega)]; first | rfl | (simp; done)))) : p := h
theorem c_impl_CellAt (w0 : World) (m : List (List Int)) (pm : LP (List Int)) (hm : RD w0 m pm) (page : Int) (cell : Int) : Calls Tryz.prog 47 [slv m.length pm.1, I page, I cell].toArray w0 (fun e w' => e = .returned (I (f_cellAt m page cell)) ∧ Chg NoB w0 w') := by
 refine Calls.run NoB Tryz.func47 ?_
 intro ac β S
 have hlem : m.length ≤ 4194304 := LRd.le hm
 refine S.gb 14 (.cons (Q_call fun w hw => c_impl_has w page (m.length : Int) (by omega)) .nil) (!(f_within page 0 ((m.length : Int) - 1))) (fun ac w β h1 S => ?_) (fun ac w β h1 S => ?_)
 ·have h2 := not_t h1
  have g3 := within_f h2
  exact S.gf 18 .nil [I 0] (retI k0_impl_CellAt)
 have h4 := not_f h1
 have g5 := within_t h4
 have b6 : (el m page.toNat).length ≤ 4194304 := LRd.le (LRd.el (S.arg hm) page.toNat (by omega))
 refine S.gb 11 (.cons (qt (S.arg hm) page Tryz.underlying24) (.cons (qx (S.arg hm) 26 page.toNat) (.cons (Q_call fun w hw => c_impl_has w cell ((el m page.toNat).length : Int) (by omega)) .nil))) (!(f_within cell 0 (((el m page.toNat).length : Int) - 1))) (fun ac w β h7 S => ?_) (fun ac w β h7 S => ?_)
 ·have h8 := not_t h7
  have g9 := within_f h8
  exact S.gf 7 .nil [I 0] (retI k0_impl_CellAt)
 have h10 := not_f h7
 have g11 := within_t h10
 exact S.gf 16 (.cons (qt (S.arg hm) page Tryz.underlying24) (.cons (qx (S.arg hm) 26 page.toNat) (.cons (qt (LRd.el (S.arg hm) page.toNat (by omega)) cell Tryz.underlying26) (.cons (qx (LRd.el (S.arg hm) page.toNat (by omega)) 3 cell.toNat) .nil)))) [I (el (el m page.toNat) cell.toNat)] (retI k0_impl_CellAt)

theorem k0_impl_Saw {p : Prop} (h : p := by clear S; (first | (unfold f_saw; rw [if_pos (by omega)]; done) | (unfold f_saw; rw [if_pos (by omega)]; first | rfl | (simp; done)) | (unfold f_saw; rw [if_neg (by omega)]; done) | (unfold f_saw; rw [if_neg (by omega)]; first | rfl | (simp; done)))) : p := h
theorem c_impl_Saw (w0 : World) (g : TGuest) (pg : PGuest) (hg : RD w0 g pg) (n : Int) (hn : In64 n) : Calls Tryz.prog 145 [GT.val g pg, I n].toArray w0 (Ret1 NoB w0 (f_saw g n : TGuest)) := by
 refine Calls.run NoB Tryz.func145 ?_
 intro ac β S
 have hleg_prog : g.prog.length ≤ 4194304 := LRd.le (RGuest.prog (d := g) hg)
 have hleg_written : g.written.length ≤ 4194304 := LRd.le (RGuest.written (d := g) hg)
 have hleg_live : g.live.length ≤ 4194304 := LRd.le (RGuest.live (d := g) hg)
 have hleg_seen : g.seen.length ≤ 4194304 := LRd.le (RGuest.seen (d := g) hg)
 have hlon := hn.lo; have hhin := hn.hi
 refine S.go 9 .nil fun ac w β S => S.K1 (r := g) (d := 7) (c_impl_copyGuest w g pg (S.rd (S.arg hg))) fun ac w N q1 F2 S up o3 d4 => ?_
 clear up d4
 have i8 : In64 g.acc := RGuest.acc (d := g) o3.rn
 have i9 : In64 g.pc := RGuest.pc (d := g) o3.rn
 have i16 : RCtl g.ctl := RGuest.ctl (d := g) o3.rn
 have i17 : In64 g.pend := RGuest.pend (d := g) o3.rn
 have i18 : RExit g.exit := RGuest.exit (d := g) o3.rn
 obtain ⟨F5, F10, F13, F19, o6, o11, o14, o20, _, _, _, _, d22, d23, d24, d25, d26, d27⟩ := sp_Guest o3
 refine S.gd 13 .nil (decide ((g.seen.length : Int) < 40)) (fun ac w β h28 g29 S => ?_) (fun ac w β h28 g29 S => ?_)
 ·refine S.go 5 .nil fun ac w β S => S.B1 (α := Int) (x := n) (p := ()) (F := NoB) hn (fun b h => False.elim h) (fun b h => False.elim h) (d := 15) fun ac w N q30 F31 S up o32 d33 => ?_
  replace o6 := o6.up up
  replace o11 := o11.up up
  replace o14 := o14.up up
  replace o20 := o20.up up
  clear up d33
  refine S.AF (α := Int) o20 o32.rn (fun _ _ h => h) (by' := 8) (d := 16) (lx := g.seen.length) (ly := 1) rfl rfl (show _ ≤ 4194304 by simp only [List.length_append, List.length_cons, List.length_nil]; omega) fun ac w N q38 F39 S up o40 d41 => ?_
  have d42 := d41 _ d24 o6.sub
  have d43 := d41 _ d26 o11.sub
  have d44 := d41 _ d27 o14.sub
  replace o6 := o6.upF d24 up
  replace o11 := o11.upF d26 up
  replace o14 := o14.upF d27 up
  clear up d41
  refine S.gr 11 .nil [GT.val (⟨g.prog, g.acc, g.pc, g.written, g.live, g.ctl, g.pend, g.exit, g.halted, (g.seen ++ [n])⟩ : TGuest) (⟨q1.prog, q1.written, q1.live, q38⟩ : PGuest)] fun ac w β S => ?_
  have o46 := ow_Guest (x := (⟨g.prog, g.acc, g.pc, g.written, g.live, g.ctl, g.pend, g.exit, g.halted, (g.seen ++ [n])⟩ : TGuest)) (p := (⟨q1.prog, q1.written, q1.live, q38⟩ : PGuest)) o6 o11 o14 o40 d22 d23 d42 d25 d43 d44 i8 i9 i16 i17 i18
  exact ret1_of S (show f_saw g n = (⟨g.prog, g.acc, g.pc, g.written, g.live, g.ctl, g.pend, g.exit, g.halted, (g.seen ++ [n])⟩ : TGuest) from k0_impl_Saw) rfl o46
 refine S.gr 10 .nil [GT.val g q1] fun ac w β S => ?_
 have o47 := ow_Guest (x := g) (p := q1) o6 o11 o14 o20 d22 d23 d24 d25 d26 d27 i8 i9 i16 i17 i18
 exact ret1_of S (show f_saw g n = g from k0_impl_Saw) rfl o47

theorem c_impl_Loaded (w0 : World) (g : TGuest) (pg : PGuest) (hg : RD w0 g pg) (v : Int) (hv : In64 v) : Calls Tryz.prog 86 [GT.val g pg, I v].toArray w0 (Ret1 NoB w0 (f_loaded g v : TGuest)) := by
 refine Calls.run NoB Tryz.func86 ?_
 intro ac β S
 have hleg_prog : g.prog.length ≤ 4194304 := LRd.le (RGuest.prog (d := g) hg)
 have hleg_written : g.written.length ≤ 4194304 := LRd.le (RGuest.written (d := g) hg)
 have hleg_live : g.live.length ≤ 4194304 := LRd.le (RGuest.live (d := g) hg)
 have hleg_seen : g.seen.length ≤ 4194304 := LRd.le (RGuest.seen (d := g) hg)
 have hlov := hv.lo; have hhiv := hv.hi
 refine S.go 17 .nil fun ac w β S => S.K1 (r := f_saw (⟨g.prog, v, g.pc, g.written, g.live, g.ctl, g.pend, g.exit, g.halted, g.seen⟩ : TGuest) v) (d := 9) (c_impl_Saw w (⟨g.prog, v, g.pc, g.written, g.live, g.ctl, g.pend, g.exit, g.halted, g.seen⟩ : TGuest) (⟨pg.prog, pg.written, pg.live, pg.seen⟩ : PGuest) (S.rd (show GT.rd KK _ _ (⟨g.prog, v, g.pc, g.written, g.live, g.ctl, g.pend, g.exit, g.halted, g.seen⟩ : TGuest) (⟨pg.prog, pg.written, pg.live, pg.seen⟩ : PGuest) from ⟨(RGuest.prog (p := pg) (d := g) (S.arg hg)), hv, (RGuest.pc (d := g) (S.arg hg)), (RGuest.written (p := pg) (d := g) (S.arg hg)), (RGuest.live (p := pg) (d := g) (S.arg hg)), (RGuest.ctl (d := g) (S.arg hg)), (RGuest.pend (d := g) (S.arg hg)), (RGuest.exit (d := g) (S.arg hg)), (RGuest.seen (p := pg) (d := g) (S.arg hg))⟩)) v hv) fun ac w N q1 F2 S up o3 d4 => ?_
 clear up d4
 refine S.K1 (r := f_moved (f_saw (⟨g.prog, v, g.pc, g.written, g.live, g.ctl, g.pend, g.exit, g.halted, g.seen⟩ : TGuest) v)) (d := 10) (c_impl_Moved w (f_saw (⟨g.prog, v, g.pc, g.written, g.live, g.ctl, g.pend, g.exit, g.halted, g.seen⟩ : TGuest) v) q1 (S.rd o3.rn)) fun ac w N q5 F6 S up o7 d8 => ?_
 clear up d8
 refine S.gr 4 .nil [GT.val (f_moved (f_saw (⟨g.prog, v, g.pc, g.written, g.live, g.ctl, g.pend, g.exit, g.halted, g.seen⟩ : TGuest) v)) q5] fun ac w β S => ?_
 exact ret1_of S (show f_loaded g v = (f_moved (f_saw (⟨g.prog, v, g.pc, g.written, g.live, g.ctl, g.pend, g.exit, g.halted, g.seen⟩ : TGuest) v)) by clear S; rfl) rfl o7

theorem k0_impl_trapOf {p : Prop} (h : p := by clear S; (unfold f_trapOf; (repeat' split) <;> first | rfl | (exfalso; omega) | (exfalso; simp_all; done) | (exfalso; simp_all; omega) | (simp_all; done))) : p := h
theorem c_impl_trapOf (w0 : World) (want : Int) : Calls Tryz.prog 147 [I want].toArray w0 (fun e w' => e = .returned (I (f_trapOf want)) ∧ Chg NoB w0 w') := by
 refine Calls.run NoB Tryz.func147 ?_
 intro ac β S
 refine S.gd 12 .nil (want == 5) (fun ac w β h1 g2 S => ?_) (fun ac w β h1 g2 S => ?_)
 ·exact S.gf 7 .nil [I 1] (retI k0_impl_trapOf)
 exact S.gf 9 .nil [I 2] (retI k0_impl_trapOf)

theorem k0_impl_HasTrap {p : Prop} (h : p := by clear S; (unfold f_hasTrap; first | (rw [Bool.eq_iff_iff]; simp_all; done) | (rw [Bool.eq_iff_iff]; simp_all [f_within]; omega) | (simp_all; done))) : p := h
theorem c_impl_HasTrap (w0 : World) (traps : Int) (trap : Int) : Calls Tryz.prog 154 [I traps, I trap].toArray w0 (fun e w' => e = .returned (B (f_hasTrap traps trap)) ∧ Chg NoB w0 w') := by
 refine Calls.run NoB Tryz.func154 ?_
 intro ac β S
 refine S.gb 10 (.cons (Q_call fun w hw => c_impl_within w traps 0 3) .nil) (f_within traps 0 3) (fun ac w β h1 S => ?_) (fun ac w β h1 S => ?_)
 ·have g2 := within_t h1
  refine S.gd 3 .nil (trap == 1) (fun ac w β h3 g4 S => ?_) (fun ac w β h3 g4 S => ?_)
  ·exact S.gf 14 (.cons (Q_land64 (x := traps) (y := trap)) .nil) [B ((land64 traps trap) != 0)] (retB k0_impl_HasTrap)
  refine S.gd 5 .nil (trap == 2) (fun ac w β h5 g6 S => ?_) (fun ac w β h5 g6 S => ?_)
  ·exact S.gf 9 (.cons (Q_land64 (x := traps) (y := trap)) .nil) [B ((land64 traps trap) != 0)] (retB k0_impl_HasTrap)
  exact S.gf 9 .nil [B false] (retB k0_impl_HasTrap)
 have g7 := within_f h1
 exact S.gf 17 .nil [B false] (retB k0_impl_HasTrap)

theorem c_impl_OwnerOf (w0 : World) (outer : Int) (inner : Int) (trap : Int) : Calls Tryz.prog 146 [I outer, I inner, I trap].toArray w0 (fun e w' => e = .returned (I (f_ownerIs outer inner trap)) ∧ Chg NoB w0 w') := by
 refine Calls.run NoB Tryz.func146 ?_
 intro ac β S
 refine S.gb 15 (.cons (Q_call fun w hw => c_impl_HasTrap w inner trap) .nil) (f_hasTrap inner trap) (fun ac w β h1 S => ?_) (fun ac w β h1 S => ?_)
 ·exact S.gf 7 .nil [I 1] (retI (by clear S; (simp [f_ownerIs, *])))
 refine S.gb 9 (.cons (Q_call fun w hw => c_impl_HasTrap w outer trap) .nil) (f_hasTrap outer trap) (fun ac w β h2 S => ?_) (fun ac w β h2 S => ?_)
 ·exact S.gf 7 .nil [I 2] (retI (by clear S; (simp [f_ownerIs, *])))
 exact S.gf 10 .nil [I 0] (retI (by clear S; (simp [f_ownerIs, *])))

theorem c_impl_OutExit (w0 : World) (n : Int) (hn : In64 n) : Calls Tryz.prog 190 [I n].toArray w0 (fun e w' => e = .returned (GT.val (f_outExit n) ()) ∧ Chg NoB w0 w') := by
 refine Calls.run NoB Tryz.func190 ?_
 intro ac β S
 have hlon := hn.lo; have hhin := hn.hi
 exact S.gf 13 (.cons (Q_sem (s := Instr.build 49 [(0, I 3), (3, I n)].toArray) (v := .agg [I 3, I 0, B false, I n].toArray) (fun w => by kernel_rfl)) .nil) [GT.val (⟨3, 0, false, n⟩ : TExit) ()] (retV (p := ()) (by clear S; rfl))

theorem k0_impl_trapped {p : Prop} (h : p := by clear S; (unfold f_trapped; (repeat' split) <;> first | rfl | (exfalso; omega) | (exfalso; simp_all; done) | (exfalso; simp_all; omega) | (simp_all; done))) : p := h
theorem c_impl_trapped (w0 : World) (x : TGuest) (px : PGuest) (hx : RD w0 x px) (want : Int) : Calls Tryz.prog 148 [GT.val x px, I want].toArray w0 (Ret1 NoB w0 (f_trapped x want : TGuest)) := by
 refine Calls.run NoB Tryz.func148 ?_
 intro ac β S
 have hlex_prog : x.prog.length ≤ 4194304 := LRd.le (RGuest.prog (d := x) hx)
 have hlex_written : x.written.length ≤ 4194304 := LRd.le (RGuest.written (d := x) hx)
 have hlex_live : x.live.length ≤ 4194304 := LRd.le (RGuest.live (d := x) hx)
 have hlex_seen : x.seen.length ≤ 4194304 := LRd.le (RGuest.seen (d := x) hx)
 refine S.gd 13 .nil (want == 5) (fun ac w β h1 g2 S => ?_) (fun ac w β h1 g2 S => ?_)
 ·refine S.go 2 .nil fun ac w β S => ?_
  refine drw ?_
  refine S.draw0 (f := 10) 9 (by kernel_rfl) (by kernel_rfl) fun w S => ?_
  refine S.hq 0 [0] [] [(7, .v (GT.val x px))] .nil fun ac S => ?_
  refine S.hq 1 [1] [] [(8, .p 0 0)] .nil fun ac S => ?_
  refine S.hq 2 [2] [] [(9, .v (slv x.prog.length px.prog.1))] .nil fun ac S => ?_
  refine S.hq 3 [3] [] [(10, .p 0 2)] .nil fun ac S => ?_
  refine S.hq 4 [4] [] [(11, .v (I x.pc))] .nil fun ac S => ?_
  refine S.sq 5 [] [(12, .v (GT.val (f_insAt x.prog x.pc) ()))] 2 [] (.cons (Q_call fun w hw => c_impl_InsAt w x.prog px.prog (rd_of (RGuest.prog (d := x) (S.arg hx)) hw) x.pc) .nil) fun ac w β S => ?_
  refine S.hq 6 [6] [] [(13, .v (I (f_insAt x.prog x.pc).x))] .nil fun ac S => ?_
  refine S.sq 7 [] [(14, .v (GT.val (f_outExit (f_insAt x.prog x.pc).x) ()))] 2 [] (.cons (Q_call fun w hw => c_impl_OutExit w (f_insAt x.prog x.pc).x (RIns.x (d := (f_insAt x.prog x.pc)) (insAt_r (RGuest.prog (d := x) (S.arg hx)) x.pc))) .nil) fun ac w β S => ?_
  refine WD.one (i := 8) (by kernel_rfl) ?_
  refine id (S.k1 15 (c_impl_Stopped w x px (S.rd (S.arg hx)) (f_outExit (f_insAt x.prog x.pc).x) (outExit_r (RIns.x (d := (f_insAt x.prog x.pc)) (insAt_r (RGuest.prog (d := x) (S.arg hx)) x.pc)))) fun ac w N q3 F4 S up o5 d6 => ?_)
  refine WD.next S up (by kernel_rfl) ?_
  clear up d6
  refine S.sl 9 [] [] 2 [(1, GT.cells ({ x with exit := (f_outExit (f_insAt x.prog x.pc).x) } : TGuest) q3)] .nil fun ac w β S => ?_
  refine WD.done (by kernel_rfl) ?_ _
  refine S.ex fun S => ?_
  refine S.gr 2 .nil [GT.val ({ x with exit := (f_outExit (f_insAt x.prog x.pc).x) } : TGuest) q3] fun ac w β S => ?_
  exact ret1_of S (show f_trapped x want = ({ x with exit := (f_outExit (f_insAt x.prog x.pc).x) } : TGuest) from k0_impl_trapped) rfl o5
 refine S.go 7 (.cons (Q_sem (s := Instr.build 49 [(0, I 4)].toArray) (v := .agg [I 4, I 0, B false, I 0].toArray) (fun w => by kernel_rfl)) .nil) fun ac w β S => S.K1 (r := ({ x with exit := (⟨4, 0, false, 0⟩ : TExit) } : TGuest)) (d := 18) (c_impl_Stopped w x px (S.rd (S.arg hx)) (⟨4, 0, false, 0⟩ : TExit) (show RExit (⟨4, 0, false, 0⟩ : TExit) from ⟨(show In64 4 from ⟨by decide, by decide⟩), (show In64 0 from ⟨by decide, by decide⟩), (show In64 0 from ⟨by decide, by decide⟩)⟩)) fun ac w N q7 F8 S up o9 d10 => ?_
 clear up d10
 refine S.gr 4 .nil [GT.val ({ x with exit := (⟨4, 0, false, 0⟩ : TExit) } : TGuest) q7] fun ac w β S => ?_
 exact ret1_of S (show f_trapped x want = ({ x with exit := (⟨4, 0, false, 0⟩ : TExit) } : TGuest) from k0_impl_trapped) rfl o9

theorem c_impl_Held (w0 : World) (g : TGuest) (pg : PGuest) (hg : RD w0 g pg) : Calls Tryz.prog 149 [GT.val g pg].toArray w0 (Ret1 NoB w0 (f_held g : TGuest)) := by
 refine Calls.run NoB Tryz.func149 ?_
 intro ac β S
 have hleg_prog : g.prog.length ≤ 4194304 := LRd.le (RGuest.prog (d := g) hg)
 have hleg_written : g.written.length ≤ 4194304 := LRd.le (RGuest.written (d := g) hg)
 have hleg_live : g.live.length ≤ 4194304 := LRd.le (RGuest.live (d := g) hg)
 have hleg_seen : g.seen.length ≤ 4194304 := LRd.le (RGuest.seen (d := g) hg)
 refine S.go 15 .nil fun ac w β S => S.K1 (r := f_moved (⟨g.prog, g.acc, g.pc, g.written, g.live, g.ctl, g.pend, g.exit, true, g.seen⟩ : TGuest)) (d := 5) (c_impl_Moved w (⟨g.prog, g.acc, g.pc, g.written, g.live, g.ctl, g.pend, g.exit, true, g.seen⟩ : TGuest) (⟨pg.prog, pg.written, pg.live, pg.seen⟩ : PGuest) (S.rd (show GT.rd KK _ _ (⟨g.prog, g.acc, g.pc, g.written, g.live, g.ctl, g.pend, g.exit, true, g.seen⟩ : TGuest) (⟨pg.prog, pg.written, pg.live, pg.seen⟩ : PGuest) from ⟨(RGuest.prog (p := pg) (d := g) (S.arg hg)), (RGuest.acc (d := g) (S.arg hg)), (RGuest.pc (d := g) (S.arg hg)), (RGuest.written (p := pg) (d := g) (S.arg hg)), (RGuest.live (p := pg) (d := g) (S.arg hg)), (RGuest.ctl (d := g) (S.arg hg)), (RGuest.pend (d := g) (S.arg hg)), (RGuest.exit (d := g) (S.arg hg)), (RGuest.seen (p := pg) (d := g) (S.arg hg))⟩))) fun ac w N q1 F2 S up o3 d4 => ?_
 clear up d4
 refine S.gr 4 .nil [GT.val (f_moved (⟨g.prog, g.acc, g.pc, g.written, g.live, g.ctl, g.pend, g.exit, true, g.seen⟩ : TGuest)) q1] fun ac w β S => ?_
 exact ret1_of S (show f_held g = (f_moved (⟨g.prog, g.acc, g.pc, g.written, g.live, g.ctl, g.pend, g.exit, true, g.seen⟩ : TGuest)) by clear S; rfl) rfl o3

theorem c_impl_leave (w0 : World) (xs : List TMon) (qx : LP TMon) (xk : Nat) (kx : xk < xs.length) (F : Bl) (hx : GT.own KK F w0 xs qx) (hF : ∀ b, F b → b < w0.heap.size) (g : Int) (want : Int) (pre0 : 0 ≤ g ∧ g < (el xs xk).guests.length) (pre1 : want = 5 ∨ want = 7) : Calls Tryz.prog 87 [pt qx.1.b (qx.1.off + xk * 9), I g, I want].toArray w0 (RetL F qx w0 (xs.set xk (f_trapMon (el xs xk) g (el (el xs xk).guests g.toNat) want))) := by
 refine Calls.run F Tryz.func87 ?_
 intro ac β S
 have ox : Ow w0 F w0 (Lt w0.heap.size) F xs ((qx.1, qx.2) : LP TMon) := ⟨hx, hF, fun b hb => .inr hb⟩
 have hlex : xs.length ≤ 4194304 := LOwn.le hx
 have hgk : g.toNat < (el xs xk).guests.length := by omega
 have hown : In64 (el xs xk).owned := RMon.owned (d := (el xs xk)) (LRd.el ox.rn xk kx)
 refine S.gd 23 (.cons (Q_cell ox.rn (t := 25) (k := xk) (j := 3) (v := slv (el xs xk).guests.length (qx.2 xk).guests.1) kx (by kernel_rfl) (by kernel_rfl)) (.cons (qt (RMon.guests (d := (el xs xk)) (LRd.el ox.rn xk kx)) g Tryz.underlying25) (.cons (qs (RMon.guests (d := (el xs xk)) (LRd.el ox.rn xk kx)) 51 g.toNat) (.cons (Q_cell ox.rn (t := 3) (k := xk) (j := 6) (v := I (el xs xk).traps) kx (by kernel_rfl) (by kernel_rfl)) (.cons (Q_call fun w hw => c_impl_trapOf w want) (.cons (Q_call fun w hw => c_impl_OwnerOf w (el xs xk).traps (el (el xs xk).guests g.toNat).ctl.traps (f_trapOf want)) .nil)))))) ((f_ownerIs (el xs xk).traps (el (el xs xk).guests g.toNat).ctl.traps (f_trapOf want)) == 1) (fun ac w β h1 g2 S => ?_) (fun ac w β h1 g2 S => ?_)
 ·clear h1
  refine S.go 2 .nil fun ac w β S => ?_
  refine drw ?_
  refine S.draw0 (f := 10) 9 (by kernel_rfl) (by kernel_rfl) fun w S => ?_
  refine S.hq 0 [0] [] [(27, .v (pt qx.1.b (qx.1.off + xk * 9)))] .nil fun ac S => ?_
  refine S.hq 1 [1] [] [(28, .v (pt qx.1.b (qx.1.off + xk * 9)))] .nil fun ac S => ?_
  refine S.hq 2 [2] [] [(29, .v (pt qx.1.b (qx.1.off + xk * 9 + 3)))] .nil fun ac S => ?_
  refine S.hq 3 [3] [] [(30, .v (slv (el xs xk).guests.length (qx.2 xk).guests.1))] (.cons (Q_cell ox.rn (t := 25) (k := xk) (j := 3) (v := slv (el xs xk).guests.length (qx.2 xk).guests.1) kx (by kernel_rfl) (by kernel_rfl)) .nil) fun ac S => ?_
  refine S.hq 4 [4] [] [(31, .v (I g))] .nil fun ac S => ?_
  refine S.hq 5 [5] [] [(32, .v (GT.val (el (el xs xk).guests g.toNat) ((qx.2 xk).guests.2 g.toNat)))] .nil fun ac S => ?_
  refine S.hq 6 [6] [] [(33, .v (I want))] .nil fun ac S => ?_
  refine WD.one (i := 7) (by kernel_rfl) ?_
  refine id (S.k1 34 (c_impl_trapped w (el (el xs xk).guests g.toNat) ((qx.2 xk).guests.2 g.toNat) (S.rd (LRd.el (RMon.guests (d := (el xs xk)) (LRd.el ox.rn xk kx)) g.toNat hgk)) want) fun ac w N q1 F1y S up o1y d1y => ?_)
  refine WD.next S up (by kernel_rfl) ?_
  have d2y := Disj.w d1y ox.sub
  replace ox := ox.up up
  refine S.hq 8 [8] [] [(34, .v (GT.val (f_trapped (el (el xs xk).guests g.toNat) want) q1)), (35, .v (pt (qx.2 xk).guests.1.b ((qx.2 xk).guests.1.off + g.toNat * 15)))] (.cons (qt (RMon.guests (d := (el xs xk)) (LRd.el ox.rn xk kx)) g Tryz.underlying25 (hi := hgk)) .nil) fun ac S => ?_
  refine WD.one (i := 9) (by kernel_rfl) ?_
  obtain ⟨F3y, o3y, s3y, b3y⟩ := foc2_Mon_guests ox (k := xk) kx
  have n3y := o3y.sub
  refine id (S.sV (α := TGuest) o3y (t := 51) (k := g.toNat) (off := (qx.2 xk).guests.1.off + g.toNat * 15) o1y (Disj.part d2y s3y) (hk := hgk) fun w N F4y q4y S up o4y d4y s4y n4y => ?_)
  refine WD.last (by kernel_rfl) ?_
  obtain ⟨p5y, o5y, c5y⟩ := b3y _ _ _ _ _ F1y up o4y s4y d2y (by show [slv _ _] = [slv _ _]; rw [List.length_set]) (fun b h => n4y b (n3y b h))
  replace S := S.z (σ' := ⟨[(34, .v (GT.val (f_trapped (el (el xs xk).guests g.toNat) want) q1))], [GT.cells (el (el xs xk).guests g.toNat) ((qx.2 xk).guests.2 g.toNat)]⟩)
  refine WD.done (by kernel_rfl) ?_ _
  refine S.ex fun S => ?_
  refine S.gr 2 .nil [] fun ac w β S => ?_
  exact retL_of S (show (xs.set xk (f_trapMon (el xs xk) g (el (el xs xk).guests g.toNat) want)) = (xs.set xk ({ el xs xk with guests := (el xs xk).guests.set g.toNat (f_trapped (el (el xs xk).guests g.toNat) want) })) from leave_trapped pre1 g2) o5y
 refine S.go 4 .nil fun ac w β S => ?_
 refine cutC S (fun ac w => ∃ (o1 : Int) (pf : Nat → PMon) (F1 : Bl) (u : _) (N : _) (β : _), o1 = f_ownUp (el xs xk) (el (el xs xk).guests g.toNat) want ∧ St Tryz.prog Tryz.f87.ntmps w0 F u N β ⟨[(0, .v (pt qx.1.b (qx.1.off + xk * 9))), (1, .v (I g)), (2, .v (I want)), (6, .p 0 0)], [GT.cells (el (el xs xk).guests g.toNat) ((qx.2 xk).guests.2 g.toNat)]⟩ ac w ∧ Ow w0 F u N F1 (xs.set xk ({ el xs xk with owned := o1 } : TMon)) ((qx.1, pf) : LP TMon) ∧ pf xk = qx.2 xk) ?_ ?_
 ·clear S; intro S
  refine S.gd 5 .nil ((f_ownerIs (el xs xk).traps (el (el xs xk).guests g.toNat).ctl.traps (f_trapOf want)) == 2) (fun ac w β h3 g3 S => ?_) (fun ac w β h3 g3 S => ?_)
  ·refine S.gd 8 (.cons (Q_cell ox.rn (t := 3) (k := xk) (j := 8) (v := I (el xs xk).owned) kx (by kernel_rfl) (by kernel_rfl)) .nil) (decide ((el xs xk).owned < 1000000000)) (fun ac w β h4 g4 S => ?_) (fun ac w β h4 g4 S => ?_)
   ·refine S.go 9 (.cons (Q_cell ox.rn (t := 3) (k := xk) (j := 8) (v := I (el xs xk).owned) kx (by kernel_rfl) (by kernel_rfl)) (.cons (qp ((el xs xk).owned) 1 ⟨by have := hown.lo; omega, by omega⟩) .nil)) fun ac w β S => S.SLE (α := TMon) (Fy := NoB) (t := 3) (k := xk) (j := 8) (off := qx.1.off + xk * 9 + 8) (v := I ((el xs xk).owned + 1)) (y := ({ el xs xk with owned := (el xs xk).owned + 1 } : TMon)) (q := qx.2 xk) ox kx (show 8 + 1 ≤ 9 by decide) (fun G g_ _ => ⟨G, ows_Mon_owned g_ (⟨by have := hown.lo; omega, by omega⟩), fun _ h => .inl h⟩) Disj.nob.symm (fun _ h => False.elim h) (fun _ h => False.elim h) fun w N F' S up o d s n => ?_
    exact S.gn 30 .nil fun ac w β S => ⟨rfl, (el xs xk).owned + 1, _, F', _, _, _, (ownUp_yes pre1 g3 g4).symm, S.z, o, if_pos rfl⟩
   exact S.gn 30 .nil fun ac w β S => ⟨rfl, (el xs xk).owned, qx.2, F, _, _, _, (ownUp_no (.inr g4)).symm, S.z, by rw [set_own kx]; exact ox, rfl⟩
  exact S.gn 30 .nil fun ac w β S => ⟨rfl, (el xs xk).owned, qx.2, F, _, _, _, (ownUp_no (.inl g3)).symm, S.z, by rw [set_own kx]; exact ox, rfl⟩
 clear S ox
 rintro ac w ⟨o1, pf, F1, u, N, β, ho1, S, ox, hpf⟩
 obtain ⟨X, hX⟩ : ∃ X, X = xs.set xk ({ el xs xk with owned := o1 } : TMon) := ⟨_, rfl⟩
 rw [← hX] at ox
 have hXl : X.length = xs.length := by rw [hX, List.length_set]
 have kX : xk < X.length := by omega
 have he : el X xk = ({ el xs xk with owned := o1 } : TMon) := by rw [hX, el_set_self kx]
 have hmg : (el X xk).guests = (el xs xk).guests := by rw [he]
 have hpg : (pf xk).guests = (qx.2 xk).guests := by rw [hpf]
 have hgX : g.toNat < (el X xk).guests.length := by rw [hmg]; exact hgk
 refine S.ex fun S => ?_
 refine S.gd 8 .nil (want == 7) (fun ac w β h5 g5 S => ?_) (fun ac w β h5 g5 S => ?_)
 ·clear h5
  refine S.go 2 .nil fun ac w β S => ?_
  refine drw ?_
  refine S.draw0 (f := 9) 8 (by kernel_rfl) (by kernel_rfl) fun w S => ?_
  refine S.hq 0 [0] [] [(54, .v (pt qx.1.b (qx.1.off + xk * 9)))] .nil fun ac S => ?_
  refine S.hq 1 [1] [] [(55, .v (pt qx.1.b (qx.1.off + xk * 9)))] .nil fun ac S => ?_
  refine S.hq 2 [2] [] [(56, .v (pt qx.1.b (qx.1.off + xk * 9 + 3)))] .nil fun ac S => ?_
  refine S.hq 3 [3] [] [(57, .v (slv (el X xk).guests.length (pf xk).guests.1))] (.cons (Q_cell ox.rn (t := 25) (k := xk) (j := 3) (v := slv (el X xk).guests.length (pf xk).guests.1) kX (by kernel_rfl) (by kernel_rfl)) .nil) fun ac S => ?_
  refine S.hq 4 [4] [] [(58, .v (I g))] .nil fun ac S => ?_
  refine S.hq 5 [5] [] [(59, .v (GT.val (el (el xs xk).guests g.toNat) ((qx.2 xk).guests.2 g.toNat)))] .nil fun ac S => ?_
  refine WD.one (i := 6) (by kernel_rfl) ?_
  refine id (S.k1 60 (c_impl_Held w (el (el xs xk).guests g.toNat) ((qx.2 xk).guests.2 g.toNat) (S.rd (rdG ox hmg hpg kX hgk))) fun ac w N q1 F1y S up o1y d1y => ?_)
  refine WD.next S up (by kernel_rfl) ?_
  have d2y := Disj.w d1y ox.sub
  replace ox := ox.up up
  refine S.hq 7 [7] [] [(60, .v (GT.val (f_held (el (el xs xk).guests g.toNat)) q1)), (61, .v (pt (pf xk).guests.1.b ((pf xk).guests.1.off + g.toNat * 15)))] (.cons (qt (RMon.guests (d := (el X xk)) (LRd.el ox.rn xk kX)) g Tryz.underlying25 (hi := hgX)) .nil) fun ac S => ?_
  refine WD.one (i := 8) (by kernel_rfl) ?_
  obtain ⟨F3y, o3y, s3y, b3y⟩ := foc2_Mon_guests ox (k := xk) kX
  have n3y := o3y.sub
  refine id (S.sV (α := TGuest) o3y (t := 51) (k := g.toNat) (off := (pf xk).guests.1.off + g.toNat * 15) o1y (Disj.part d2y s3y) (hk := hgX) fun w N F4y q4y S up o4y d4y s4y n4y => ?_)
  refine WD.last (by kernel_rfl) ?_
  obtain ⟨p5y, o5y, c5y⟩ := b3y _ _ _ _ _ F1y up o4y s4y d2y (by show [slv _ _] = [slv _ _]; rw [List.length_set]) (fun b h => n4y b (n3y b h))
  replace S := S.z (σ' := ⟨[(60, .v (GT.val (f_held (el (el xs xk).guests g.toNat)) q1))], [GT.cells (el (el xs xk).guests g.toNat) ((qx.2 xk).guests.2 g.toNat)]⟩)
  refine WD.done (by kernel_rfl) ?_ _
  refine S.ex fun S => ?_
  refine S.gr 2 .nil [] fun ac w β S => ?_
  exact retL_of S (show (xs.set xk (f_trapMon (el xs xk) g (el (el xs xk).guests g.toNat) want)) = (X.set xk ({ el X xk with guests := (el X xk).guests.set g.toNat (f_held (el (el xs xk).guests g.toNat)) })) from leave_held hX he ho1 g2 g5) o5y
 have hw5 : want = 5 := by omega
 have hmo : (el X xk).outs = (el xs xk).outs := by rw [he]
 refine S.go 4 .nil fun ac w β S => ?_
 refine cutC S (fun ac w => ∃ (os : List Int) (pf2 : Nat → PMon) (F2 : Bl) (u : _) (N : _) (β : _), os = (if (el xs xk).outs.length < 40 then (el xs xk).outs ++ [(f_insAt (el (el xs xk).guests g.toNat).prog (el (el xs xk).guests g.toNat).pc).x] else (el xs xk).outs) ∧ St Tryz.prog Tryz.f87.ntmps w0 F u N β ⟨[(0, .v (pt qx.1.b (qx.1.off + xk * 9))), (1, .v (I g)), (6, .p 0 0)], [GT.cells (el (el xs xk).guests g.toNat) ((qx.2 xk).guests.2 g.toNat)]⟩ ac w ∧ Ow w0 F u N F2 (xs.set xk ({ el xs xk with owned := o1, outs := os } : TMon)) ((qx.1, pf2) : LP TMon) ∧ (pf2 xk).guests = (qx.2 xk).guests) ?_ ?_
 ·clear S; intro S
  have b0 : (el X xk).outs.length ≤ 4194304 := LRd.le (RMon.outs (d := (el X xk)) (LRd.el ox.rn xk kX))
  refine S.gd 10 (.cons (Q_cell ox.rn (t := 26) (k := xk) (j := 4) (v := slv (el X xk).outs.length (pf xk).outs.1) kX (by kernel_rfl) (by kernel_rfl)) .nil) (decide (((el X xk).outs.length : Int) < 40)) (fun ac w β h6 g6 S => ?_) (fun ac w β h6 g6 S => ?_)
  ·refine S.go 1 .nil fun ac w β S => ?_
   refine drw ?_
   let σ109 : Sy := ⟨[(0, .v (pt qx.1.b (qx.1.off + xk * 9))), (1, .v (I g)), (6, .p 0 0), (67, .v (B true))], [GT.cells (el (el xs xk).guests g.toNat) ((qx.2 xk).guests.2 g.toNat)]⟩
   obtain ⟨u0, N0, β0, S, ox⟩ : ∃ u0 N0 β0, St Tryz.prog Tryz.f87.ntmps w0 F u0 N0 β0 σ109 ac w ∧ Ow w0 F u0 N0 F1 X ((qx.1, pf) : LP TMon) := ⟨_, _, _, S.z, ox⟩
   refine wp_region_cut (fun ac w => ∃ (pf2 : Nat → PMon) (F143 : Bl) (u : _) (N : _) (β : _), St Tryz.prog Tryz.f87.ntmps w0 F u N β ⟨[(0, .v (pt qx.1.b (qx.1.off + xk * 9))), (1, .v (I g)), (6, .p 0 0)], [GT.cells (el (el xs xk).guests g.toNat) ((qx.2 xk).guests.2 g.toNat)]⟩ ac w ∧ Ow w0 F u N F143 (X.set xk (({ el X xk with outs := ((el X xk).outs ++ [(f_insAt (el (el xs xk).guests g.toNat).prog (el (el xs xk).guests g.toNat).pc).x]) }) : TMon)) ((qx.1, pf2) : LP TMon) ∧ (pf2 xk).guests = (pf xk).guests) ?_ ?_
   ·refine S.draw0 (f := 16) 12 (by kernel_rfl) (by kernel_rfl) fun w S => ?_
    refine S.hq 1 [4, 3, 2, 1] [] [(69, .v (pt qx.1.b (qx.1.off + xk * 9)))] .nil fun ac S => ?_
    refine S.hq 2 [4, 3, 2] [] [(70, .v (pt qx.1.b (qx.1.off + xk * 9)))] .nil fun ac S => ?_
    refine S.hq 3 [4, 3] [] [(71, .v (pt qx.1.b (qx.1.off + xk * 9 + 4)))] .nil fun ac S => ?_
    refine S.hq 4 [4] [] [(72, .v (slv (el X xk).outs.length (pf xk).outs.1))] (.cons (Q_cell ox.rn (t := 26) (k := xk) (j := 4) (v := slv (el X xk).outs.length (pf xk).outs.1) kX (by kernel_rfl) (by kernel_rfl)) .nil) fun ac S => ?_
    refine S.hq 5 [9, 6, 5] [] [(73, .p 0 0)] .nil fun ac S => ?_
    refine S.hq 6 [9, 6] [] [(74, .v (slv (el (el xs xk).guests g.toNat).prog.length ((qx.2 xk).guests.2 g.toNat).prog.1))] .nil fun ac S => ?_
    refine S.hq 7 [9, 8, 7] [] [(75, .p 0 2)] .nil fun ac S => ?_
    refine S.hq 8 [9, 8] [] [(76, .v (I (el (el xs xk).guests g.toNat).pc))] .nil fun ac S => ?_
    refine WD.nameW fun W hW => ?_
    refine WD.castW (l' := mkL 16 [1, 2, 3, 4, 5, 6, 7, 8]) (by kernel_rfl) ?_
    have hK144 ac w (pf2 : Nat → PMon) F143 u N β (S : St Tryz.prog Tryz.f87.ntmps w0 F u N β ⟨[(0, .v (pt qx.1.b (qx.1.off + xk * 9))), (1, .v (I g)), (6, .p 0 0)], [GT.cells (el (el xs xk).guests g.toNat) ((qx.2 xk).guests.2 g.toNat)]⟩ ac w) (o141 : Ow w0 F u N F143 (X.set xk (({ el X xk with outs := ((el X xk).outs ++ [(f_insAt (el (el xs xk).guests g.toNat).prog (el (el xs xk).guests g.toNat).pc).x]) }) : TMon)) ((qx.1, pf2) : LP TMon)) (hp2 : (pf2 xk).guests = (pf xk).guests) : W 0 (mkL 16 [0, 1, 2, 3, 4, 5, 6, 7, 8, 9, 10, 11, 12, 13, 14, 15]) ac w := by
     exact od hW ⟨rfl, pf2, F143, _, _, _, S.z, o141, hp2⟩
    have hK145 ac w q117 F118 u N β (S : St Tryz.prog Tryz.f87.ntmps w0 F u N β (σ109.dl [67] [(68, .v (pt qx.1.b (qx.1.off + xk * 9))), (72, .v (slv (el X xk).outs.length (pf xk).outs.1)), (79, .v (slv 1 q117.1))] 1 []) ac w) (ox : Ow w0 F u N F1 X ((qx.1, pf) : LP TMon)) (o116 : Ow w0 F u N F118 ([(f_insAt (el (el xs xk).guests g.toNat).prog (el (el xs xk).guests g.toNat).pc).x]) q117) (d146 : Disj F1 F118) (hNN : NN N0 u0 N u) (hBB : BB σ109.bx.length β0 β) : W 4 (mkL 16 [0, 1, 2, 3, 4, 5, 6, 7, 8, 9, 10, 11]) ac w := by
     refine ox1 hW 12 ?_
     have b159 : (el X xk).outs.length ≤ 4194304 := LRd.le (RMon.outs (d := (el X xk)) (LRd.el ox.rn xk kX))
     refine id (S.appOutsO ox xk o116.rn (by' := 8) (d := 80) kX (show (el X xk).outs.length + ([(f_insAt (el (el xs xk).guests g.toNat).prog (el (el xs xk).guests g.toNat).pc).x]).length ≤ 4194304 by simp only [List.length_cons, List.length_nil]; omega) fun ac w N q151 F152 S up o153 r154 y155 z156 n157 y158 => ?_)
     refine WD.sl fun hC => ?_
     have d160 := z156 _ o116.sub
     have d161 := z156 _ ox.sub
     replace o116 := o116.upF (Disj.symm d146) up
     clear up z156 ox
     refine S.wh (σ' := ⟨[(0, .v (pt qx.1.b (qx.1.off + xk * 9))), (1, .v (I g)), (6, .p 0 0), (80, .v (slv ((el X xk).outs ++ [(f_insAt (el (el xs xk).guests g.toNat).prog (el (el xs xk).guests g.toNat).pc).x]).length q151.1)), (82, .v (pt qx.1.b (qx.1.off + xk * 9 + 4)))], [GT.cells (el (el xs xk).guests g.toNat) ((qx.2 xk).guests.2 g.toNat)]⟩) (f := 1) (l2 := mkL 16 [0, 1, 2, 3, 4, 5, 6, 7, 8, 9, 10, 11, 12, 13, 14]) hW [13, 14] hC fun _ S => ?_
     refine ox1 hW 15 ?_
     refine id (St.setElE S (hx := o153) (t := 26) (k := xk) (j := 4) (off := qx.1.off + xk * 9 + 4) (v := slv ((el X xk).outs ++ [(f_insAt (el (el xs xk).guests g.toNat).prog (el (el xs xk).guests g.toNat).pc).x]).length q151.1) (y := ({ el X xk with outs := ((el X xk).outs ++ [(f_insAt (el (el xs xk).guests g.toNat).prog (el (el xs xk).guests g.toNat).pc).x]) } : TMon)) (q := ({ pf xk with outs := q151 } : PMon)) (hop := by kernel_rfl) (hoff := by kernel_rfl) (hk := kX) (hs := by kernel_rfl) (hpl := by kernel_rfl) (hjw := show 4 + 1 ≤ 9 by decide) (hc := by kernel_rfl) (hy := y155) (hd := d161) (hyN := n157) (hyY := y158) (K := fun w N F163 S up o162 d165 s166 n167 => ?_))
     refine WD.sl fun hC => ?_
     replace S := S.z (σ' := ⟨[(0, .v (pt qx.1.b (qx.1.off + xk * 9))), (1, .v (I g)), (6, .p 0 0)], [GT.cells (el (el xs xk).guests g.toNat) ((qx.2 xk).guests.2 g.toNat)]⟩)
     exact S.wh hW [] hC fun _ S => hK144 _ _ _ F163 _ _ _ S o162 (by simp)
    have hK169 ac w u N β (S : St Tryz.prog Tryz.f87.ntmps w0 F u N β (σ109.dl [67] [(68, .v (pt qx.1.b (qx.1.off + xk * 9))), (72, .v (slv (el X xk).outs.length (pf xk).outs.1)), (78, .v (I (f_insAt (el (el xs xk).guests g.toNat).prog (el (el xs xk).guests g.toNat).pc).x))] 1 []) ac w) (ox : Ow w0 F u N F1 X ((qx.1, pf) : LP TMon)) (hNN : NN N0 u0 N u) (hBB : BB σ109.bx.length β0 β) : W 5 (mkL 16 [0, 1, 2, 3, 4, 5, 6, 7, 8, 9, 10]) ac w := by
     refine ox1 hW 11 ?_
     refine id (S.bs1 (α := Int) (x := (f_insAt (el (el xs xk).guests g.toNat).prog (el (el xs xk).guests g.toNat).pc).x) (p := ()) (F := NoB) (RIns.x (d := (f_insAt (el (el xs xk).guests g.toNat).prog (el (el xs xk).guests g.toNat).pc)) (insAt_r (RGuest.prog (d := (el (el xs xk).guests g.toNat)) (rdG ox hmg hpg kX hgk)) (el (el xs xk).guests g.toNat).pc)) (fun b h => False.elim h) (fun b h => False.elim h) (d := 79) (by kernel_rfl) fun ac w N q170 F171 S up o172 d173 => ?_)
     have hb174 := fun b h => (⟨(up b (hNN b h).1).1, (up b (hNN b h).1).2.trans (hNN b h).2⟩ : _ ∧ _)
     refine WD.sc S hb174 hBB fun hC => ?_
     have d175 := d173 _ (fun b _ h => False.elim h) ox.sub
     replace ox := ox.up up
     clear up d173
     exact S.wh hW [] hC fun _ S => hK145 _ _ q170 F171 _ _ _ S ox o172 d175 hb174 hBB
    have hK176 ac w u N β (S : St Tryz.prog Tryz.f87.ntmps w0 F u N β (σ109.dl [67] [(68, .v (pt qx.1.b (qx.1.off + xk * 9))), (72, .v (slv (el X xk).outs.length (pf xk).outs.1)), (74, .v (slv (el (el xs xk).guests g.toNat).prog.length ((qx.2 xk).guests.2 g.toNat).prog.1)), (76, .v (I (el (el xs xk).guests g.toNat).pc))] 1 []) ac w) (ox : Ow w0 F u N F1 X ((qx.1, pf) : LP TMon)) (hNN : NN N0 u0 N u) (hBB : BB σ109.bx.length β0 β) : W 7 (mkL 16 [0, 1, 2, 3, 4, 5, 6, 7, 8]) ac w := by
     exact ox1 hW 9 (S.wq hW hNN hBB [10] (.cons (Q_call fun w hw => c_impl_InsAt w (el (el xs xk).guests g.toNat).prog ((qx.2 xk).guests.2 g.toNat).prog (rd_of (RGuest.prog (d := (el (el xs xk).guests g.toNat)) (rdG ox hmg hpg kX hgk)) hw) (el (el xs xk).guests g.toNat).pc) .nil) fun _ _ _ S hB => hK169 _ _ _ _ _ S ox hNN hB)
    rw [hW]
    exact S.wh hW [0] (fun _ => S.rcx) fun _ S => hK176 _ _ _ _ _ S ox (fun _ h => ⟨h, rfl⟩) (fun _ _ => rfl)
   clear S ox
   rintro ac w ⟨pf2, F2, u, N, β, S, o2, hp2⟩
   refine S.ex fun S => ?_
   rw [hmo] at o2
   exact S.gn 30 .nil fun ac w β S => ⟨rfl, _, pf2, F2, _, _, _, (if_pos (by rw [← hmo]; omega)).symm, S.z, by rw [he, hX, List.set_set] at o2; exact o2, hp2.trans hpg⟩
  exact S.gn 30 .nil fun ac w β S => ⟨rfl, _, pf, F1, _, _, _, (if_neg (by rw [← hmo]; omega)).symm, S.z, by rw [hX] at ox; exact ox, hpg⟩
 clear S ox
 rintro ac w ⟨os, pf2, F2, u, N, β, hos, S, ox, hpg2⟩
 obtain ⟨X2, hX2⟩ : ∃ X2, X2 = xs.set xk ({ el xs xk with owned := o1, outs := os } : TMon) := ⟨_, rfl⟩
 rw [← hX2] at ox
 have kX2 : xk < X2.length := by rw [hX2, List.length_set]; exact kx
 have he2 : el X2 xk = ({ el xs xk with owned := o1, outs := os } : TMon) := by rw [hX2, el_set_self kx]
 have hmg2 : (el X2 xk).guests = (el xs xk).guests := by rw [he2]
 have hgX2 : g.toNat < (el X2 xk).guests.length := by rw [hmg2]; exact hgk
 refine S.ex fun S => ?_
 refine S.go 1 .nil fun ac w β S => ?_
 refine drw ?_
 refine S.draw0 (f := 9) 8 (by kernel_rfl) (by kernel_rfl) fun w S => ?_
 refine S.hq 0 [0] [] [(83, .v (pt qx.1.b (qx.1.off + xk * 9)))] .nil fun ac S => ?_
 refine S.hq 1 [1] [] [(84, .v (pt qx.1.b (qx.1.off + xk * 9)))] .nil fun ac S => ?_
 refine S.hq 2 [2] [] [(85, .v (pt qx.1.b (qx.1.off + xk * 9 + 3)))] .nil fun ac S => ?_
 refine S.hq 3 [3] [] [(86, .v (slv (el X2 xk).guests.length (pf2 xk).guests.1))] (.cons (Q_cell ox.rn (t := 25) (k := xk) (j := 3) (v := slv (el X2 xk).guests.length (pf2 xk).guests.1) kX2 (by kernel_rfl) (by kernel_rfl)) .nil) fun ac S => ?_
 refine S.hq 4 [4] [] [(87, .v (I g))] .nil fun ac S => ?_
 refine S.hq 5 [5] [] [(88, .v (GT.val (el (el xs xk).guests g.toNat) ((qx.2 xk).guests.2 g.toNat)))] .nil fun ac S => ?_
 refine WD.one (i := 6) (by kernel_rfl) ?_
 refine id (S.k1 89 (c_impl_Moved w (el (el xs xk).guests g.toNat) ((qx.2 xk).guests.2 g.toNat) (S.rd (rdG ox hmg2 hpg2 kX2 hgk))) fun ac w N q1 F1y S up o1y d1y => ?_)
 refine WD.next S up (by kernel_rfl) ?_
 have d2y := Disj.w d1y ox.sub
 replace ox := ox.up up
 refine S.hq 7 [7] [] [(89, .v (GT.val (f_moved (el (el xs xk).guests g.toNat)) q1)), (90, .v (pt (pf2 xk).guests.1.b ((pf2 xk).guests.1.off + g.toNat * 15)))] (.cons (qt (RMon.guests (d := (el X2 xk)) (LRd.el ox.rn xk kX2)) g Tryz.underlying25 (hi := hgX2)) .nil) fun ac S => ?_
 refine WD.one (i := 8) (by kernel_rfl) ?_
 obtain ⟨F3y, o3y, s3y, b3y⟩ := foc2_Mon_guests ox (k := xk) kX2
 have n3y := o3y.sub
 refine id (S.sV (α := TGuest) o3y (t := 51) (k := g.toNat) (off := (pf2 xk).guests.1.off + g.toNat * 15) o1y (Disj.part d2y s3y) (hk := hgX2) fun w N F4y q4y S up o4y d4y s4y n4y => ?_)
 refine WD.last (by kernel_rfl) ?_
 obtain ⟨p5y, o5y, c5y⟩ := b3y _ _ _ _ _ F1y up o4y s4y d2y (by show [slv _ _] = [slv _ _]; rw [List.length_set]) (fun b h => n4y b (n3y b h))
 replace S := S.z (σ' := ⟨[(89, .v (GT.val (f_moved (el (el xs xk).guests g.toNat)) q1))], [GT.cells (el (el xs xk).guests g.toNat) ((qx.2 xk).guests.2 g.toNat)]⟩)
 refine WD.done (by kernel_rfl) ?_ _
 refine S.ex fun S => ?_
 refine S.gr 0 .nil [] fun ac w β S => ?_
 exact retL_of S (show (xs.set xk (f_trapMon (el xs xk) g (el (el xs xk).guests g.toNat) want)) = (X2.set xk ({ el X2 xk with guests := (el X2 xk).guests.set g.toNat (f_moved (el (el xs xk).guests g.toNat)) })) from leave_moved hX2 he2 ho1 g2 hw5 hos) o5y

theorem k0_impl_TakeIrq {p : Prop} (h : p := by clear S; (first | (unfold f_takeIrq; rw [if_pos (by assumption)]; done) | (unfold f_takeIrq; rw [if_neg (by assumption)]; done) | (unfold f_takeIrq; rw [if_neg (by assumption)]; exact take_eq (by assumption)) | (unfold f_takeIrq; rw [if_neg (by assumption)]; exact (take_eq (by assumption)).symm))) : p := h
theorem c_impl_TakeIrq (w0 : World) (p : Int) (hp : In64 p) : Calls Tryz.prog 157 [I p].toArray w0 (fun e w' => e = .returned (.tuple #[I (f_takeIrq p).1, I (f_takeIrq p).2.1, B (f_takeIrq p).2.2]) ∧ Chg NoB w0 w') := by
 refine Calls.run NoB Tryz.func157 ?_
 intro ac β S
 have hlop := hp.lo; have hhip := hp.hi
 have b1 := topIrq_bd p
 refine S.gd 21 (.cons (Q_call fun w hw => c_impl_TopIrq w p) .nil) (decide ((f_topIrq p) < 0)) (fun ac w β h2 g3 S => ?_) (fun ac w β h2 g3 S => ?_)
 ·exact S.gf 10 .nil [I p, I (-1), B false] (ret3v (eqI (show p = (f_takeIrq p).1 from k0_impl_TakeIrq)) (eqI (show (-1) = (f_takeIrq p).2.1 from k0_impl_TakeIrq)) (eqB (show false = (f_takeIrq p).2.2 from k0_impl_TakeIrq)))
 exact S.gf 16 (.cons (Q_shl (yk := .i64) (x := 1) (y := (f_topIrq p)) (by omega)) (.cons (Q_landn64 (x := p) (y := (shl64 1 (f_topIrq p)))) .nil)) [I (landn64 p (shl64 1 (f_topIrq p))), I (f_topIrq p), B true] (ret3v (eqI (show (landn64 p (shl64 1 (f_topIrq p))) = (f_takeIrq p).1 from k0_impl_TakeIrq)) (eqI (show (f_topIrq p) = (f_takeIrq p).2.1 from k0_impl_TakeIrq)) (eqB (show true = (f_takeIrq p).2.2 from k0_impl_TakeIrq)))

theorem k0_impl_Interrupted {p : Prop} (h : p := by clear S; (unfold f_interrupted; first | (rw [if_pos (by assumption)]; done) | (rw [if_neg (by simp [*])]; done))) : p := h
theorem c_impl_Interrupted (w0 : World) (g : TGuest) (pg : PGuest) (hg : RD w0 g pg) : Calls Tryz.prog 151 [GT.val g pg].toArray w0 (Ret1 NoB w0 (f_interrupted g : TGuest)) := by
 refine Calls.run NoB Tryz.func151 ?_
 intro ac β S
 have hleg_prog : g.prog.length ≤ 4194304 := LRd.le (RGuest.prog (d := g) hg)
 have hleg_written : g.written.length ≤ 4194304 := LRd.le (RGuest.written (d := g) hg)
 have hleg_live : g.live.length ≤ 4194304 := LRd.le (RGuest.live (d := g) hg)
 have hleg_seen : g.seen.length ≤ 4194304 := LRd.le (RGuest.seen (d := g) hg)
 refine S.gb 14 (.cons (Q_call fun w hw => c_impl_TakesIrq w g pg (rd_of (S.arg hg) hw)) .nil) (!(f_takesIrq g)) (fun ac w β h1 S => ?_) (fun ac w β h1 S => ?_)
 ·have h2 := not_t h1
  refine S.go 4 .nil fun ac w β S => S.K1 (r := g) (d := 10) (c_impl_copyGuest w g pg (S.rd (S.arg hg))) fun ac w N q3 F4 S up o5 d6 => ?_
  clear up d6
  refine S.gr 4 .nil [GT.val g q3] fun ac w β S => ?_
  exact ret1_of S (show f_interrupted g = g from k0_impl_Interrupted) rfl o5
 have h7 := not_f h1
 have b8 := takeIrq_bd g.pend
 refine S.go 29 (.cons (Q_call fun w hw => c_impl_TakeIrq w g.pend (RGuest.pend (d := g) (S.arg hg))) (.cons (qp 100 ((f_takeIrq g.pend).2.1)) .nil)) fun ac w β S => S.K1 (r := f_saw (⟨g.prog, g.acc, g.pc, g.written, g.live, g.ctl, (f_takeIrq g.pend).1, g.exit, g.halted, g.seen⟩ : TGuest) (100 + (f_takeIrq g.pend).2.1)) (d := 23) (c_impl_Saw w (⟨g.prog, g.acc, g.pc, g.written, g.live, g.ctl, (f_takeIrq g.pend).1, g.exit, g.halted, g.seen⟩ : TGuest) (⟨pg.prog, pg.written, pg.live, pg.seen⟩ : PGuest) (S.rd (show GT.rd KK _ _ (⟨g.prog, g.acc, g.pc, g.written, g.live, g.ctl, (f_takeIrq g.pend).1, g.exit, g.halted, g.seen⟩ : TGuest) (⟨pg.prog, pg.written, pg.live, pg.seen⟩ : PGuest) from ⟨(RGuest.prog (p := pg) (d := g) (S.arg hg)), (RGuest.acc (d := g) (S.arg hg)), (RGuest.pc (d := g) (S.arg hg)), (RGuest.written (p := pg) (d := g) (S.arg hg)), (RGuest.live (p := pg) (d := g) (S.arg hg)), (RGuest.ctl (d := g) (S.arg hg)), (takeIrq_in64 (RGuest.pend (d := g) (S.arg hg))), (RGuest.exit (d := g) (S.arg hg)), (RGuest.seen (p := pg) (d := g) (S.arg hg))⟩)) (100 + (f_takeIrq g.pend).2.1) ⟨by omega, by omega⟩) fun ac w N q9 F10 S up o11 d12 => ?_
 clear up d12
 refine S.gr 4 .nil [GT.val (f_saw (⟨g.prog, g.acc, g.pc, g.written, g.live, g.ctl, (f_takeIrq g.pend).1, g.exit, g.halted, g.seen⟩ : TGuest) (100 + (f_takeIrq g.pend).2.1)) q9] fun ac w β S => ?_
 exact ret1_of S (show f_interrupted g = (f_saw (⟨g.prog, g.acc, g.pc, g.written, g.live, g.ctl, (f_takeIrq g.pend).1, g.exit, g.halted, g.seen⟩ : TGuest) (100 + (f_takeIrq g.pend).2.1)) from k0_impl_Interrupted) rfl o11

theorem k0_impl_Plainly {p : Prop} (h : p := by clear S; (unfold f_plainly; first | (rw [if_neg (by assumption)]; done) | (rw [if_pos (by assumption)]; unfold f_plainTo; (repeat' split) <;> first | rfl | (exfalso; omega) | (exfalso; simp_all; done) | (exfalso; simp_all; omega) | (simp_all; done) | (simp_all [f_moved]; done)))) : p := h
theorem c_impl_Plainly (w0 : World) (g : TGuest) (pg : PGuest) (hg : RD w0 g pg) : Calls Tryz.prog 152 [GT.val g pg].toArray w0 (Ret1 NoB w0 (f_plainly g : TGuest)) := by
 refine Calls.run NoB Tryz.func152 ?_
 intro ac β S
 have hleg_prog : g.prog.length ≤ 4194304 := LRd.le (RGuest.prog (d := g) hg)
 have hleg_written : g.written.length ≤ 4194304 := LRd.le (RGuest.written (d := g) hg)
 have hleg_live : g.live.length ≤ 4194304 := LRd.le (RGuest.live (d := g) hg)
 have hleg_seen : g.seen.length ≤ 4194304 := LRd.le (RGuest.seen (d := g) hg)
 have b1 := wantOf_bd g
 refine S.gd 14 (.cons (Q_call fun w hw => c_impl_WantOf w g pg (rd_of (S.arg hg) hw)) .nil) ((f_wantOf g) != 2) (fun ac w β h2 g3 S => ?_) (fun ac w β h2 g3 S => ?_)
 ·refine S.go 4 .nil fun ac w β S => S.K1 (r := g) (d := 9) (c_impl_copyGuest w g pg (S.rd (S.arg hg))) fun ac w N q4 F5 S up o6 d7 => ?_
  clear up d7
  have i11 : In64 g.acc := RGuest.acc (d := g) o6.rn
  have i12 : In64 g.pc := RGuest.pc (d := g) o6.rn
  have i19 : RCtl g.ctl := RGuest.ctl (d := g) o6.rn
  have i20 : In64 g.pend := RGuest.pend (d := g) o6.rn
  have i21 : RExit g.exit := RGuest.exit (d := g) o6.rn
  obtain ⟨F8, F13, F16, F22, o9, o14, o17, o23, _, _, _, _, d25, d26, d27, d28, d29, d30⟩ := sp_Guest o6
  refine S.gr 4 .nil [GT.val g q4] fun ac w β S => ?_
  have o31 := ow_Guest (x := g) (p := q4) o9 o14 o17 o23 d25 d26 d27 d28 d29 d30 i11 i12 i19 i20 i21
  exact ret1_of S (show f_plainly g = g from k0_impl_Plainly) rfl o31
 refine S.go 17 (.cons (Q_call fun w hw => c_impl_InsAt w g.prog pg.prog (rd_of (RGuest.prog (d := g) (S.arg hg)) hw) g.pc) .nil) fun ac w β S => S.K1 (r := f_moved g) (d := 16) (c_impl_Moved w g pg (S.rd (S.arg hg))) fun ac w N q32 F33 S up o34 d35 => ?_
 clear up d35
 have i39 : In64 (f_moved g).acc := RGuest.acc (d := (f_moved g)) o34.rn
 have i40 : In64 (f_moved g).pc := RGuest.pc (d := (f_moved g)) o34.rn
 have i47 : RCtl (f_moved g).ctl := RGuest.ctl (d := (f_moved g)) o34.rn
 have i48 : In64 (f_moved g).pend := RGuest.pend (d := (f_moved g)) o34.rn
 have i49 : RExit (f_moved g).exit := RGuest.exit (d := (f_moved g)) o34.rn
 obtain ⟨F36, F41, F44, F50, o37, o42, o45, o51, _, _, _, _, d53, d54, d55, d56, d57, d58⟩ := sp_Guest o34
 refine S.gb 12 (.cons (Q_call fun w hw => c_impl_within w g.acc 0 99) .nil) (!(f_within g.acc 0 99)) (fun ac w β h59 S => ?_) (fun ac w β h59 S => ?_)
 ·have h60 := not_t h59
  have g61 := within_f h60
  refine S.gr 15 .nil [GT.val (f_moved g) q32] fun ac w β S => ?_
  have o62 := ow_Guest (x := (f_moved g)) (p := q32) o37 o42 o45 o51 d53 d54 d55 d56 d57 d58 i39 i40 i47 i48 i49
  exact ret1_of S (show f_plainly g = (f_moved g) from k0_impl_Plainly) rfl o62
 have h63 := not_f h59
 have g64 := within_t h63
 refine S.gb 7 (.cons (Q_call fun w hw => c_impl_within w (f_insAt g.prog g.pc).x 0 99) .nil) (!(f_within (f_insAt g.prog g.pc).x 0 99)) (fun ac w β h65 S => ?_) (fun ac w β h65 S => ?_)
 ·have h66 := not_t h65
  have g67 := within_f h66
  refine S.gr 8 .nil [GT.val (f_moved g) q32] fun ac w β S => ?_
  have o68 := ow_Guest (x := (f_moved g)) (p := q32) o37 o42 o45 o51 d53 d54 d55 d56 d57 d58 i39 i40 i47 i48 i49
  exact ret1_of S (show f_plainly g = (f_moved g) from k0_impl_Plainly) rfl o68
 have h69 := not_f h65
 have g70 := within_t h69
 refine S.gd 13 .nil ((f_insAt g.prog g.pc).opc == 1) (fun ac w β h71 g72 S => ?_) (fun ac w β h71 g72 S => ?_)
 ·refine S.gr 16 .nil [GT.val (⟨(f_moved g).prog, (f_insAt g.prog g.pc).x, (f_moved g).pc, (f_moved g).written, (f_moved g).live, (f_moved g).ctl, (f_moved g).pend, (f_moved g).exit, (f_moved g).halted, (f_moved g).seen⟩ : TGuest) (⟨q32.prog, q32.written, q32.live, q32.seen⟩ : PGuest)] fun ac w β S => ?_
  have o73 := ow_Guest (x := (⟨(f_moved g).prog, (f_insAt g.prog g.pc).x, (f_moved g).pc, (f_moved g).written, (f_moved g).live, (f_moved g).ctl, (f_moved g).pend, (f_moved g).exit, (f_moved g).halted, (f_moved g).seen⟩ : TGuest)) (p := (⟨q32.prog, q32.written, q32.live, q32.seen⟩ : PGuest)) o37 o42 o45 o51 d53 d54 d55 d56 d57 d58 (RIns.x (d := (f_insAt g.prog g.pc)) (insAt_r (RGuest.prog (d := g) (S.arg hg)) g.pc)) i40 i47 i48 i49
  exact ret1_of S (show f_plainly g = (⟨(f_moved g).prog, (f_insAt g.prog g.pc).x, (f_moved g).pc, (f_moved g).written, (f_moved g).live, (f_moved g).ctl, (f_moved g).pend, (f_moved g).exit, (f_moved g).halted, (f_moved g).seen⟩ : TGuest) from k0_impl_Plainly) rfl o73
 refine S.gd 9 .nil ((f_insAt g.prog g.pc).opc == 2) (fun ac w β h74 g75 S => ?_) (fun ac w β h74 g75 S => ?_)
 ·refine S.gr 20 (.cons (qp g.acc ((f_insAt g.prog g.pc).x)) (.cons (Q_rem (x := (g.acc + (f_insAt g.prog g.pc).x)) (y := 100) (by decide)) .nil)) [GT.val (⟨(f_moved g).prog, (Int.tmod (g.acc + (f_insAt g.prog g.pc).x) 100), (f_moved g).pc, (f_moved g).written, (f_moved g).live, (f_moved g).ctl, (f_moved g).pend, (f_moved g).exit, (f_moved g).halted, (f_moved g).seen⟩ : TGuest) (⟨q32.prog, q32.written, q32.live, q32.seen⟩ : PGuest)] fun ac w β S => ?_
  have o76 := ow_Guest (x := (⟨(f_moved g).prog, (Int.tmod (g.acc + (f_insAt g.prog g.pc).x) 100), (f_moved g).pc, (f_moved g).written, (f_moved g).live, (f_moved g).ctl, (f_moved g).pend, (f_moved g).exit, (f_moved g).halted, (f_moved g).seen⟩ : TGuest)) (p := (⟨q32.prog, q32.written, q32.live, q32.seen⟩ : PGuest)) o37 o42 o45 o51 d53 d54 d55 d56 d57 d58 (tmod_in64 (by decide)) i40 i47 i48 i49
  exact ret1_of S (show f_plainly g = (⟨(f_moved g).prog, (Int.tmod (g.acc + (f_insAt g.prog g.pc).x) 100), (f_moved g).pc, (f_moved g).written, (f_moved g).live, (f_moved g).ctl, (f_moved g).pend, (f_moved g).exit, (f_moved g).halted, (f_moved g).seen⟩ : TGuest) from k0_impl_Plainly) rfl o76
 refine S.gd 7 .nil ((f_insAt g.prog g.pc).opc == 8) (fun ac w β h77 g78 S => ?_) (fun ac w β h77 g78 S => ?_)
 ·refine S.gd 7 .nil (g.acc == 0) (fun ac w β h79 g80 S => ?_) (fun ac w β h79 g80 S => ?_)
  ·refine S.gr 16 .nil [GT.val (⟨(f_moved g).prog, (f_moved g).acc, (f_insAt g.prog g.pc).x, (f_moved g).written, (f_moved g).live, (f_moved g).ctl, (f_moved g).pend, (f_moved g).exit, (f_moved g).halted, (f_moved g).seen⟩ : TGuest) (⟨q32.prog, q32.written, q32.live, q32.seen⟩ : PGuest)] fun ac w β S => ?_
   have o81 := ow_Guest (x := (⟨(f_moved g).prog, (f_moved g).acc, (f_insAt g.prog g.pc).x, (f_moved g).written, (f_moved g).live, (f_moved g).ctl, (f_moved g).pend, (f_moved g).exit, (f_moved g).halted, (f_moved g).seen⟩ : TGuest)) (p := (⟨q32.prog, q32.written, q32.live, q32.seen⟩ : PGuest)) o37 o42 o45 o51 d53 d54 d55 d56 d57 d58 i39 (RIns.x (d := (f_insAt g.prog g.pc)) (insAt_r (RGuest.prog (d := g) (S.arg hg)) g.pc)) i47 i48 i49
   exact ret1_of S (show f_plainly g = (⟨(f_moved g).prog, (f_moved g).acc, (f_insAt g.prog g.pc).x, (f_moved g).written, (f_moved g).live, (f_moved g).ctl, (f_moved g).pend, (f_moved g).exit, (f_moved g).halted, (f_moved g).seen⟩ : TGuest) from k0_impl_Plainly) rfl o81
  refine S.gr 11 .nil [GT.val (f_moved g) q32] fun ac w β S => ?_
  have o82 := ow_Guest (x := (f_moved g)) (p := q32) o37 o42 o45 o51 d53 d54 d55 d56 d57 d58 i39 i40 i47 i48 i49
  exact ret1_of S (show f_plainly g = (f_moved g) from k0_impl_Plainly) rfl o82
 refine S.gr 18 .nil [GT.val (f_moved g) q32] fun ac w β S => ?_
 have o83 := ow_Guest (x := (f_moved g)) (p := q32) o37 o42 o45 o51 d53 d54 d55 d56 d57 d58 i39 i40 i47 i48 i49
 exact ret1_of S (show f_plainly g = (f_moved g) from k0_impl_Plainly) rfl o83

theorem c_impl_CallExit (w0 : World) (n : Int) (hn : In64 n) : Calls Tryz.prog 153 [I n].toArray w0 (fun e w' => e = .returned (GT.val (f_callExit n) ()) ∧ Chg NoB w0 w') := by
 refine Calls.run NoB Tryz.func153 ?_
 intro ac β S
 have hlon := hn.lo; have hhin := hn.hi
 exact S.gf 13 (.cons (Q_sem (s := Instr.build 49 [(0, I 2), (3, I n)].toArray) (v := .agg [I 2, I 0, B false, I n].toArray) (fun w => by kernel_rfl)) .nil) [GT.val (⟨2, 0, false, n⟩ : TExit) ()] (retV (p := ()) (by clear S; rfl))

theorem k0_impl_PutOut {p : Prop} (h : p := by clear S; (first | (unfold f_putOut; rw [if_pos (by omega)]; done) | (unfold f_putOut; rw [if_pos (by omega)]; first | rfl | (simp; done)) | (unfold f_putOut; rw [if_neg (by omega)]; done) | (unfold f_putOut; rw [if_neg (by omega)]; first | rfl | (simp; done)))) : p := h
theorem c_impl_PutOut (w0 : World) (b : TBare) (pb : PBare) (hb : RD w0 b pb) (n : Int) (hn : In64 n) : Calls Tryz.prog 155 [GT.val b pb, I n].toArray w0 (Ret1 NoB w0 (f_putOut b n : TBare)) := by
 refine Calls.run NoB Tryz.func155 ?_
 intro ac β S
 have hleb_mem : b.mem.length ≤ 4194304 := LRd.le (RBare.mem (d := b) hb)
 have hleb_guests : b.guests.length ≤ 4194304 := LRd.le (RBare.guests (d := b) hb)
 have hleb_outs : b.outs.length ≤ 4194304 := LRd.le (RBare.outs (d := b) hb)
 have hlon := hn.lo; have hhin := hn.hi
 refine S.go 9 .nil fun ac w β S => S.K1 (r := b) (d := 7) (c_impl_copyBare w b pb (S.rd (S.arg hb))) fun ac w N q1 F2 S up o3 d4 => ?_
 clear up d4
 have i14 : In64 b.pend := RBare.pend (d := b) o3.rn
 obtain ⟨F5, F8, F11, o6, o9, o12, _, _, _, d15, d16, d17⟩ := sp_Bare o3
 refine S.gd 13 .nil (decide ((b.outs.length : Int) < 40)) (fun ac w β h18 g19 S => ?_) (fun ac w β h18 g19 S => ?_)
 ·refine S.go 5 .nil fun ac w β S => S.B1 (α := Int) (x := n) (p := ()) (F := NoB) hn (fun b h => False.elim h) (fun b h => False.elim h) (d := 15) fun ac w N q20 F21 S up o22 d23 => ?_
  replace o6 := o6.up up
  replace o9 := o9.up up
  replace o12 := o12.up up
  clear up d23
  refine S.AF (α := Int) o12 o22.rn (fun _ _ h => h) (by' := 8) (d := 16) (lx := b.outs.length) (ly := 1) rfl rfl (show _ ≤ 4194304 by simp only [List.length_append, List.length_cons, List.length_nil]; omega) fun ac w N q27 F28 S up o29 d30 => ?_
  have d31 := d30 _ d16 o6.sub
  have d32 := d30 _ d17 o9.sub
  replace o6 := o6.upF d16 up
  replace o9 := o9.upF d17 up
  clear up d30
  refine S.gr 11 .nil [GT.val (⟨b.mem, b.guests, (b.outs ++ [n]), b.pend⟩ : TBare) (⟨q1.mem, q1.guests, q27⟩ : PBare)] fun ac w β S => ?_
  have o34 := ow_Bare (x := (⟨b.mem, b.guests, (b.outs ++ [n]), b.pend⟩ : TBare)) (p := (⟨q1.mem, q1.guests, q27⟩ : PBare)) o6 o9 o29 d15 d31 d32 i14
  exact ret1_of S (show f_putOut b n = (⟨b.mem, b.guests, (b.outs ++ [n]), b.pend⟩ : TBare) from k0_impl_PutOut) rfl o34
 refine S.gr 10 .nil [GT.val b q1] fun ac w β S => ?_
 have o35 := ow_Bare (x := b) (p := q1) o6 o9 o12 d15 d16 d17 i14
 exact ret1_of S (show f_putOut b n = b from k0_impl_PutOut) rfl o35

theorem k0_impl_BareStep {p : Prop} (h : p := by clear S; (first | (rw [bareStep_no (.inl (by assumption))]; done) | (rw [bareStep_no (.inr (.inl (by assumption)))]; done) | (rw [bareStep_no (.inr (.inr (by omega)))]; done) | (rw [bareStep_yes (by assumption) (by assumption) (by omega)]; first | (rw [bareTo1 (by omega), withGuest_at (by assumption)]; first | done | rfl) | (rw [bareTo1 (by omega), withGuest_eq (by assumption) rfl]; first | done | rfl) | (rw [bareTo1 (by omega), withGuest_eq (by assumption) (putOut_guests _ _)]; first | done | rfl) | (rw [bareTo2 (by omega), withGuest_at (by assumption)]; first | done | rfl) | (rw [bareTo2 (by omega), withGuest_eq (by assumption) rfl]; first | done | rfl) | (rw [bareTo2 (by omega), withGuest_eq (by assumption) (putOut_guests _ _)]; first | done | rfl) | (rw [mem_no (by omega) (by assumption), withGuest_at (by assumption)]; first | done | rfl) | (rw [mem_no (by omega) (by assumption), withGuest_eq (by assumption) rfl]; first | done | rfl) | (rw [mem_no (by omega) (by assumption), withGuest_eq (by assumption) (putOut_guests _ _)]; first | done | rfl) | (rw [mem_store (by omega) (by assumption), withGuest_at (by assumption)]; first | done | rfl) | (rw [mem_store (by omega) (by assumption), withGuest_eq (by assumption) rfl]; first | done | rfl) | (rw [mem_store (by omega) (by assumption), withGuest_eq (by assumption) (putOut_guests _ _)]; first | done | rfl) | (rw [mem_load (by omega) (by assumption), withGuest_at (by assumption)]; first | done | rfl) | (rw [mem_load (by omega) (by assumption), withGuest_eq (by assumption) rfl]; first | done | rfl) | (rw [mem_load (by omega) (by assumption), withGuest_eq (by assumption) (putOut_guests _ _)]; first | done | rfl) | (rw [out_call (by omega), withGuest_at (by assumption)]; first | done | rfl) | (rw [out_call (by omega), withGuest_eq (by assumption) rfl]; first | done | rfl) | (rw [out_call (by omega), withGuest_eq (by assumption) (putOut_guests _ _)]; first | done | rfl) | (rw [out_trap (by omega) (by assumption), withGuest_at (by assumption)]; first | done | rfl) | (rw [out_trap (by omega) (by assumption), withGuest_eq (by assumption) rfl]; first | done | rfl) | (rw [out_trap (by omega) (by assumption), withGuest_eq (by assumption) (putOut_guests _ _)]; first | done | rfl) | (rw [out_out (by omega) (by assumption), withGuest_at (by assumption)]; first | done | rfl) | (rw [out_out (by omega) (by assumption), withGuest_eq (by assumption) rfl]; first | done | rfl) | (rw [out_out (by omega) (by assumption), withGuest_eq (by assumption) (putOut_guests _ _)]; first | done | rfl) | (rw [out_halt (by omega) (by assumption), withGuest_at (by assumption)]; first | done | rfl) | (rw [out_halt (by omega) (by assumption), withGuest_eq (by assumption) rfl]; first | done | rfl) | (rw [out_halt (by omega) (by assumption), withGuest_eq (by assumption) (putOut_guests _ _)]; first | done | rfl)))) : p := h
theorem k1_impl_BareStep {p : Prop} (h : p := by clear S; (first | (rw [bareStep_no (.inl (by assumption))]; done) | (rw [bareStep_no (.inr (.inl (by assumption)))]; done) | (rw [bareStep_no (.inr (.inr (by omega)))]; done) | (rw [bareStep_yes (by assumption) (by assumption) (by omega)]; done))) : p := h
theorem c_impl_BareStep (w0 : World) (b : TBare) (pb : PBare) (hb : RD w0 b pb) (g : Int) : Calls Tryz.prog 88 [GT.val b pb, I g].toArray w0 (Ret2 NoB w0 ((f_bareStep b g).1 : TBare) ((f_bareStep b g).2 : Bool)) := by
 refine Calls.run NoB Tryz.func88 ?_
 intro ac β S
 have hleb_mem : b.mem.length ≤ 4194304 := LRd.le (RBare.mem (d := b) hb)
 have hleb_guests : b.guests.length ≤ 4194304 := LRd.le (RBare.guests (d := b) hb)
 have hleb_outs : b.outs.length ≤ 4194304 := LRd.le (RBare.outs (d := b) hb)
 refine S.go 11 .nil fun ac w β S => S.K2 (r := (f_guestAt b g).1) (r' := (f_guestAt b g).2) (d := 17) (c_impl_GuestAt w b pb (S.rd (S.arg hb)) g) fun ac w N q1 q2 F3 F4 S up o5 o6 d7 d8 d9 => ?_
 clear up d7
 clear d8
 have b10 := wantOf_bd (f_guestAt b g).1
 refine S.gb 22 (.cons (Q_call fun w hw => c_impl_WantOf w (f_guestAt b g).1 q1 (rd_of o5.rn hw)) (.cons (Q_call fun w hw => c_impl_BareOk w b pb (rd_of (S.arg hb) hw)) .nil)) (!(f_bareOk b)) (fun ac w β h11 S => ?_) (fun ac w β h11 S => ?_)
 ·have h12 := not_t h11
  refine S.go 13 .nil fun ac w β S => S.K1 (r := b) (d := 34) (c_impl_copyBare w b pb (S.rd (S.arg hb))) fun ac w N q13 F14 S up o15 d16 => ?_
  clear up d16
  refine S.gr 5 .nil [GT.val b q13, B false] fun ac w β S => ?_
  exact ret2_of (p' := ()) S (show (f_bareStep b g).1 = b from k0_impl_BareStep) (show (f_bareStep b g).2 = false from k1_impl_BareStep) rfl rfl o15 trivial
 have h17 := not_f h11
 have g18 := bareOk_t h17
 refine S.gb 4 .nil (!(f_guestAt b g).2) (fun ac w β h19 S => ?_) (fun ac w β h19 S => ?_)
 ·have h20 := not_t h19
  have g21 := guestAt_f h20
  refine S.go 9 .nil fun ac w β S => S.K1 (r := b) (d := 34) (c_impl_copyBare w b pb (S.rd (S.arg hb))) fun ac w N q22 F23 S up o24 d25 => ?_
  clear up d25
  refine S.gr 5 .nil [GT.val b q22, B false] fun ac w β S => ?_
  exact ret2_of (p' := ()) S (show (f_bareStep b g).1 = b from k0_impl_BareStep) (show (f_bareStep b g).2 = false from k1_impl_BareStep) rfl rfl o24 trivial
 have h26 := not_f h19
 have g27 := guestAt_t h26
 refine S.gd 5 .nil ((f_wantOf (f_guestAt b g).1) == 0) (fun ac w β h28 g29 S => ?_) (fun ac w β h28 g29 S => ?_)
 ·refine S.go 4 .nil fun ac w β S => S.K1 (r := b) (d := 34) (c_impl_copyBare w b pb (S.rd (S.arg hb))) fun ac w N q30 F31 S up o32 d33 => ?_
  clear up d33
  refine S.gr 5 .nil [GT.val b q30, B false] fun ac w β S => ?_
  exact ret2_of (p' := ()) S (show (f_bareStep b g).1 = b from k0_impl_BareStep) (show (f_bareStep b g).2 = false from k1_impl_BareStep) rfl rfl o32 trivial
 refine S.gd 34 (.cons (Q_call fun w hw => c_impl_Address w (f_guestAt b g).1 q1 (rd_of o5.rn hw)) (.cons (Q_call fun w hw => c_impl_InsAt w (f_guestAt b g).1.prog q1.prog (rd_of (RGuest.prog (d := (f_guestAt b g).1) o5.rn) hw) (f_guestAt b g).1.pc) .nil)) ((f_wantOf (f_guestAt b g).1) == 1) (fun ac w β h34 g35 S => ?_) (fun ac w β h34 g35 S => ?_)
 ·refine S.go 2 .nil fun ac w β S => ?_
  refine drw ?_
  refine S.draw0 (f := 7) 5 (by kernel_rfl) (by kernel_rfl) fun w S => ?_
  refine S.hq 0 [0] [] [(45, .v (GT.val b pb))] .nil fun ac S => ?_
  refine S.hq 1 [1] [] [(46, .v (I g))] .nil fun ac S => ?_
  refine S.hq 2 [2] [] [(47, .v (GT.val (f_guestAt b g).1 q1))] .nil fun ac S => ?_
  refine WD.one (i := 3) (by kernel_rfl) ?_
  refine id (S.k1 48 (c_impl_Interrupted w (f_guestAt b g).1 q1 (S.rd o5.rn)) fun ac w N q36 F37 S up o38 d39 => ?_)
  refine WD.next S up (by kernel_rfl) ?_
  replace o5 := o5.up up
  clear up d39
  refine WD.one (i := 4) (by kernel_rfl) ?_
  refine id (S.k1 49 (c_impl_WithGuest w b pb (S.rd (S.arg hb)) g (f_interrupted (f_guestAt b g).1) q36 (S.rd o38.rn)) fun ac w N q41 F42 S up o43 d44 => ?_)
  refine WD.next S up (by kernel_rfl) ?_
  replace o5 := o5.up up
  clear up d44
  refine S.sl 5 [] [] 4 [(1, GT.cells (f_withGuest b g (f_interrupted (f_guestAt b g).1)) q41)] .nil fun ac w β S => ?_
  refine S.sl 6 [] [(5, .v (B true))] 4 [] .nil fun ac w β S => ?_
  refine WD.done (by kernel_rfl) ?_ _
  refine S.ex fun S => ?_
  refine S.gr 2 .nil [GT.val (f_withGuest b g (f_interrupted (f_guestAt b g).1)) q41, B true] fun ac w β S => ?_
  exact ret2_of (p' := ()) S (show (f_bareStep b g).1 = (f_withGuest b g (f_interrupted (f_guestAt b g).1)) from k0_impl_BareStep) (show (f_bareStep b g).2 = true from k1_impl_BareStep) rfl rfl o43 trivial
 refine S.gd 7 .nil ((f_wantOf (f_guestAt b g).1) == 2) (fun ac w β h47 g48 S => ?_) (fun ac w β h47 g48 S => ?_)
 ·refine S.go 2 .nil fun ac w β S => ?_
  refine drw ?_
  refine S.draw0 (f := 7) 5 (by kernel_rfl) (by kernel_rfl) fun w S => ?_
  refine S.hq 0 [0] [] [(52, .v (GT.val b pb))] .nil fun ac S => ?_
  refine S.hq 1 [1] [] [(53, .v (I g))] .nil fun ac S => ?_
  refine S.hq 2 [2] [] [(54, .v (GT.val (f_guestAt b g).1 q1))] .nil fun ac S => ?_
  refine WD.one (i := 3) (by kernel_rfl) ?_
  refine id (S.k1 55 (c_impl_Plainly w (f_guestAt b g).1 q1 (S.rd o5.rn)) fun ac w N q49 F50 S up o51 d52 => ?_)
  refine WD.next S up (by kernel_rfl) ?_
  replace o5 := o5.up up
  clear up d52
  refine WD.one (i := 4) (by kernel_rfl) ?_
  refine id (S.k1 56 (c_impl_WithGuest w b pb (S.rd (S.arg hb)) g (f_plainly (f_guestAt b g).1) q49 (S.rd o51.rn)) fun ac w N q54 F55 S up o56 d57 => ?_)
  refine WD.next S up (by kernel_rfl) ?_
  replace o5 := o5.up up
  clear up d57
  refine S.sl 5 [] [] 4 [(1, GT.cells (f_withGuest b g (f_plainly (f_guestAt b g).1)) q54)] .nil fun ac w β S => ?_
  refine S.sl 6 [] [(5, .v (B true))] 4 [] .nil fun ac w β S => ?_
  refine WD.done (by kernel_rfl) ?_ _
  refine S.ex fun S => ?_
  refine S.gr 2 .nil [GT.val (f_withGuest b g (f_plainly (f_guestAt b g).1)) q54, B true] fun ac w β S => ?_
  exact ret2_of (p' := ()) S (show (f_bareStep b g).1 = (f_withGuest b g (f_plainly (f_guestAt b g).1)) from k0_impl_BareStep) (show (f_bareStep b g).2 = true from k1_impl_BareStep) rfl rfl o56 trivial
 refine S.gd 8 .nil ((f_wantOf (f_guestAt b g).1) == 3) (fun ac w β h60 g61 S => ?_) (fun ac w β h60 g61 S => ?_)
 ·refine S.gb 23 (.cons (Q_call fun w hw => c_impl_AddrPage w (f_address (f_guestAt b g).1) (address_in64 o5.rn)) (.cons (Q_call fun w hw => c_impl_NeedOf w ((f_wantOf (f_guestAt b g).1) == 4)) (.cons (Q_call fun w hw => c_impl_WalkInner w (f_guestAt b g).1.live q1.live (rd_of (RGuest.live (d := (f_guestAt b g).1) o5.rn) hw) (f_addrPage (f_address (f_guestAt b g).1)) (f_needOf ((f_wantOf (f_guestAt b g).1) == 4))) .nil))) (!(f_walkInner (f_guestAt b g).1.live (f_addrPage (f_address (f_guestAt b g).1)) (f_needOf ((f_wantOf (f_guestAt b g).1) == 4))).2) (fun ac w β h62 S => ?_) (fun ac w β h62 S => ?_)
  ·have h63 := not_t h62
   refine S.go 2 .nil fun ac w β S => ?_
   refine drw ?_
   refine S.draw0 (f := 11) 9 (by kernel_rfl) (by kernel_rfl) fun w S => ?_
   refine S.hq 0 [0] [] [(75, .v (GT.val b pb))] .nil fun ac S => ?_
   refine S.hq 1 [1] [] [(76, .v (I g))] .nil fun ac S => ?_
   refine S.hq 2 [2] [] [(77, .v (GT.val (f_guestAt b g).1 q1))] .nil fun ac S => ?_
   refine S.hq 3 [3] [] [(78, .v (I (f_address (f_guestAt b g).1)))] .nil fun ac S => ?_
   refine S.hq 5 [5] [] [(80, .v (B ((f_wantOf (f_guestAt b g).1) == 4)))] .nil fun ac S => ?_
   refine S.sq 4 [] [(79, .v (I (f_addrPage (f_address (f_guestAt b g).1))))] 4 [] (.cons (Q_call fun w hw => c_impl_AddrPage w (f_address (f_guestAt b g).1) (address_in64 o5.rn)) .nil) fun ac w β S => ?_
   refine S.sq 6 [] [(81, .v (GT.val (f_faultExit (f_addrPage (f_address (f_guestAt b g).1)) ((f_wantOf (f_guestAt b g).1) == 4)) ()))] 4 [] (.cons (Q_call fun w hw => c_impl_FaultExit w (f_addrPage (f_address (f_guestAt b g).1)) (addrPage_in64 (address_in64 o5.rn)) ((f_wantOf (f_guestAt b g).1) == 4)) .nil) fun ac w β S => ?_
   refine WD.one (i := 7) (by kernel_rfl) ?_
   refine id (S.k1 82 (c_impl_Stopped w (f_guestAt b g).1 q1 (S.rd o5.rn) (f_faultExit (f_addrPage (f_address (f_guestAt b g).1)) ((f_wantOf (f_guestAt b g).1) == 4)) (faultExit_r (addrPage_in64 (address_in64 o5.rn)) ((f_wantOf (f_guestAt b g).1) == 4))) fun ac w N q64 F65 S up o66 d67 => ?_)
   refine WD.next S up (by kernel_rfl) ?_
   replace o5 := o5.up up
   clear up d67
   refine WD.one (i := 8) (by kernel_rfl) ?_
   refine id (S.k1 83 (c_impl_WithGuest w b pb (S.rd (S.arg hb)) g ({ (f_guestAt b g).1 with exit := (f_faultExit (f_addrPage (f_address (f_guestAt b g).1)) ((f_wantOf (f_guestAt b g).1) == 4)) } : TGuest) q64 (S.rd o66.rn)) fun ac w N q69 F70 S up o71 d72 => ?_)
   refine WD.next S up (by kernel_rfl) ?_
   replace o5 := o5.up up
   clear up d72
   refine S.sl 9 [] [] 4 [(1, GT.cells (f_withGuest b g ({ (f_guestAt b g).1 with exit := (f_faultExit (f_addrPage (f_address (f_guestAt b g).1)) ((f_wantOf (f_guestAt b g).1) == 4)) } : TGuest)) q69)] .nil fun ac w β S => ?_
   refine S.sl 10 [] [(5, .v (B true))] 4 [] .nil fun ac w β S => ?_
   refine WD.done (by kernel_rfl) ?_ _
   refine S.ex fun S => ?_
   refine S.gr 2 .nil [GT.val (f_withGuest b g ({ (f_guestAt b g).1 with exit := (f_faultExit (f_addrPage (f_address (f_guestAt b g).1)) ((f_wantOf (f_guestAt b g).1) == 4)) } : TGuest)) q69, B true] fun ac w β S => ?_
   exact ret2_of (p' := ()) S (show (f_bareStep b g).1 = (f_withGuest b g ({ (f_guestAt b g).1 with exit := (f_faultExit (f_addrPage (f_address (f_guestAt b g).1)) ((f_wantOf (f_guestAt b g).1) == 4)) } : TGuest)) from k0_impl_BareStep) (show (f_bareStep b g).2 = true from k1_impl_BareStep) rfl rfl o71 trivial
  have h75 := not_f h62
  refine S.gd 7 .nil ((f_wantOf (f_guestAt b g).1) == 4) (fun ac w β h76 g77 S => ?_) (fun ac w β h76 g77 S => ?_)
  ·refine S.go 2 .nil fun ac w β S => ?_
   refine drw ?_
   refine S.draw0 (f := 10) 9 (by kernel_rfl) (by kernel_rfl) fun w S => ?_
   refine S.hq 0 [0] [] [(86, .p 0 0)] .nil fun ac S => ?_
   refine S.hq 1 [1] [] [(87, .v (slv b.mem.length pb.mem.1))] .nil fun ac S => ?_
   refine S.hq 2 [2] [] [(88, .v (I (f_walkInner (f_guestAt b g).1.live (f_addrPage (f_address (f_guestAt b g).1)) (f_needOf ((f_wantOf (f_guestAt b g).1) == 4))).1))] .nil fun ac S => ?_
   refine S.hq 3 [3] [] [(89, .v (I (f_address (f_guestAt b g).1)))] .nil fun ac S => ?_
   refine S.hq 5 [5] [] [(91, .p 2 1)] .nil fun ac S => ?_
   refine S.hq 6 [6] [] [(92, .v (I (f_guestAt b g).1.acc))] .nil fun ac S => ?_
   refine S.sq 4 [] [(90, .v (I (f_addrCell (f_address (f_guestAt b g).1))))] 4 [] (.cons (Q_call fun w hw => c_impl_AddrCell w (f_address (f_guestAt b g).1) (address_in64 o5.rn)) .nil) fun ac w β S => ?_
   refine WD.one (i := 7) (by kernel_rfl) ?_
   refine id (S.k1 93 (c_impl_WithCell w b.mem pb.mem (S.rd (RBare.mem (d := b) (S.arg hb))) (f_walkInner (f_guestAt b g).1.live (f_addrPage (f_address (f_guestAt b g).1)) (f_needOf ((f_wantOf (f_guestAt b g).1) == 4))).1 (f_addrCell (f_address (f_guestAt b g).1)) (f_guestAt b g).1.acc (RGuest.acc (d := (f_guestAt b g).1) o5.rn)) fun ac w N q78 F79 S up o80 d81 => ?_)
   refine WD.next S up (by kernel_rfl) ?_
   replace o5 := o5.up up
   clear up d81
   refine S.hq 8 [8] [] [(94, .p 0 0)] .nil fun ac S => ?_
   refine S.sl 9 [] [] 4 [(0, [slv (f_withCell b.mem (f_walkInner (f_guestAt b g).1.live (f_addrPage (f_address (f_guestAt b g).1)) (f_needOf ((f_wantOf (f_guestAt b g).1) == 4))).1 (f_addrCell (f_address (f_guestAt b g).1)) (f_guestAt b g).1.acc).length q78.1, slv b.guests.length pb.guests.1, slv b.outs.length pb.outs.1, I b.pend])] .nil fun ac w β S => ?_
   refine WD.done (by kernel_rfl) ?_ _
   refine S.ex fun S => ?_
   refine S.go 2 .nil fun ac w β S => ?_
   refine drw ?_
   refine S.draw0 (f := 7) 5 (by kernel_rfl) (by kernel_rfl) fun w S => ?_
   refine S.hq 0 [0] [] [(95, .v (GT.val (⟨(f_withCell b.mem (f_walkInner (f_guestAt b g).1.live (f_addrPage (f_address (f_guestAt b g).1)) (f_needOf ((f_wantOf (f_guestAt b g).1) == 4))).1 (f_addrCell (f_address (f_guestAt b g).1)) (f_guestAt b g).1.acc), b.guests, b.outs, b.pend⟩ : TBare) (⟨q78, pb.guests, pb.outs⟩ : PBare)))] .nil fun ac S => ?_
   refine S.hq 1 [1] [] [(96, .v (I g))] .nil fun ac S => ?_
   refine S.hq 2 [2] [] [(97, .v (GT.val (f_guestAt b g).1 q1))] .nil fun ac S => ?_
   refine WD.one (i := 3) (by kernel_rfl) ?_
   refine id (S.k1 98 (c_impl_Stored w (f_guestAt b g).1 q1 (S.rd o5.rn)) fun ac w N q83 F84 S up o85 d86 => ?_)
   refine WD.next S up (by kernel_rfl) ?_
   replace o5 := o5.up up
   replace o80 := o80.up up
   clear up d86
   refine WD.one (i := 4) (by kernel_rfl) ?_
   refine id (S.k1 99 (c_impl_WithGuest w (⟨(f_withCell b.mem (f_walkInner (f_guestAt b g).1.live (f_addrPage (f_address (f_guestAt b g).1)) (f_needOf ((f_wantOf (f_guestAt b g).1) == 4))).1 (f_addrCell (f_address (f_guestAt b g).1)) (f_guestAt b g).1.acc), b.guests, b.outs, b.pend⟩ : TBare) (⟨q78, pb.guests, pb.outs⟩ : PBare) (S.rd (show GT.rd KK _ _ (⟨(f_withCell b.mem (f_walkInner (f_guestAt b g).1.live (f_addrPage (f_address (f_guestAt b g).1)) (f_needOf ((f_wantOf (f_guestAt b g).1) == 4))).1 (f_addrCell (f_address (f_guestAt b g).1)) (f_guestAt b g).1.acc), b.guests, b.outs, b.pend⟩ : TBare) (⟨q78, pb.guests, pb.outs⟩ : PBare) from ⟨o80.rn, (RBare.guests (p := pb) (d := b) (S.arg hb)), (RBare.outs (p := pb) (d := b) (S.arg hb)), (RBare.pend (d := b) (S.arg hb))⟩)) g (f_moved (f_guestAt b g).1) q83 (S.rd o85.rn)) fun ac w N q89 F90 S up o91 d92 => ?_)
   refine WD.next S up (by kernel_rfl) ?_
   replace o5 := o5.up up
   clear up d92
   refine S.sl 5 [] [] 4 [(1, GT.cells (f_withGuest (⟨(f_withCell b.mem (f_walkInner (f_guestAt b g).1.live (f_addrPage (f_address (f_guestAt b g).1)) (f_needOf ((f_wantOf (f_guestAt b g).1) == 4))).1 (f_addrCell (f_address (f_guestAt b g).1)) (f_guestAt b g).1.acc), b.guests, b.outs, b.pend⟩ : TBare) g (f_moved (f_guestAt b g).1)) q89)] .nil fun ac w β S => ?_
   refine S.sl 6 [] [(5, .v (B true))] 4 [] .nil fun ac w β S => ?_
   refine WD.done (by kernel_rfl) ?_ _
   refine S.ex fun S => ?_
   refine S.gr 2 .nil [GT.val (f_withGuest (⟨(f_withCell b.mem (f_walkInner (f_guestAt b g).1.live (f_addrPage (f_address (f_guestAt b g).1)) (f_needOf ((f_wantOf (f_guestAt b g).1) == 4))).1 (f_addrCell (f_address (f_guestAt b g).1)) (f_guestAt b g).1.acc), b.guests, b.outs, b.pend⟩ : TBare) g (f_moved (f_guestAt b g).1)) q89, B true] fun ac w β S => ?_
   exact ret2_of (p' := ()) S (show (f_bareStep b g).1 = (f_withGuest (⟨(f_withCell b.mem (f_walkInner (f_guestAt b g).1.live (f_addrPage (f_address (f_guestAt b g).1)) (f_needOf ((f_wantOf (f_guestAt b g).1) == 4))).1 (f_addrCell (f_address (f_guestAt b g).1)) (f_guestAt b g).1.acc), b.guests, b.outs, b.pend⟩ : TBare) g (f_moved (f_guestAt b g).1)) from k0_impl_BareStep) (show (f_bareStep b g).2 = true from k1_impl_BareStep) rfl rfl o91 trivial
  refine S.go 5 .nil fun ac w β S => ?_
  refine drw ?_
  refine S.draw0 (f := 13) 11 (by kernel_rfl) (by kernel_rfl) fun w S => ?_
  refine S.hq 0 [0] [] [(100, .v (GT.val b pb))] .nil fun ac S => ?_
  refine S.hq 1 [1] [] [(101, .v (I g))] .nil fun ac S => ?_
  refine S.hq 2 [2] [] [(102, .v (GT.val (f_guestAt b g).1 q1))] .nil fun ac S => ?_
  refine S.hq 3 [3] [] [(103, .p 0 0)] .nil fun ac S => ?_
  refine S.hq 4 [4] [] [(104, .v (slv b.mem.length pb.mem.1))] .nil fun ac S => ?_
  refine S.hq 5 [5] [] [(105, .v (I (f_walkInner (f_guestAt b g).1.live (f_addrPage (f_address (f_guestAt b g).1)) (f_needOf ((f_wantOf (f_guestAt b g).1) == 4))).1))] .nil fun ac S => ?_
  refine S.hq 6 [6] [] [(106, .v (I (f_address (f_guestAt b g).1)))] .nil fun ac S => ?_
  refine S.sq 7 [] [(107, .v (I (f_addrCell (f_address (f_guestAt b g).1))))] 4 [] (.cons (Q_call fun w hw => c_impl_AddrCell w (f_address (f_guestAt b g).1) (address_in64 o5.rn)) .nil) fun ac w β S => ?_
  refine S.sq 8 [] [(108, .v (I (f_cellAt b.mem (f_walkInner (f_guestAt b g).1.live (f_addrPage (f_address (f_guestAt b g).1)) (f_needOf ((f_wantOf (f_guestAt b g).1) == 4))).1 (f_addrCell (f_address (f_guestAt b g).1)))))] 4 [] (.cons (Q_call fun w hw => c_impl_CellAt w b.mem pb.mem (rd_of (RBare.mem (d := b) (S.arg hb)) hw) (f_walkInner (f_guestAt b g).1.live (f_addrPage (f_address (f_guestAt b g).1)) (f_needOf ((f_wantOf (f_guestAt b g).1) == 4))).1 (f_addrCell (f_address (f_guestAt b g).1))) .nil) fun ac w β S => ?_
  refine WD.one (i := 9) (by kernel_rfl) ?_
  refine id (S.k1 109 (c_impl_Loaded w (f_guestAt b g).1 q1 (S.rd o5.rn) (f_cellAt b.mem (f_walkInner (f_guestAt b g).1.live (f_addrPage (f_address (f_guestAt b g).1)) (f_needOf ((f_wantOf (f_guestAt b g).1) == 4))).1 (f_addrCell (f_address (f_guestAt b g).1))) (cellAt_in64 (RBare.mem (d := b) (S.arg hb)) (f_walkInner (f_guestAt b g).1.live (f_addrPage (f_address (f_guestAt b g).1)) (f_needOf ((f_wantOf (f_guestAt b g).1) == 4))).1 (f_addrCell (f_address (f_guestAt b g).1)))) fun ac w N q96 F97 S up o98 d99 => ?_)
  refine WD.next S up (by kernel_rfl) ?_
  replace o5 := o5.up up
  clear up d99
  refine WD.one (i := 10) (by kernel_rfl) ?_
  refine id (S.k1 110 (c_impl_WithGuest w b pb (S.rd (S.arg hb)) g (f_loaded (f_guestAt b g).1 (f_cellAt b.mem (f_walkInner (f_guestAt b g).1.live (f_addrPage (f_address (f_guestAt b g).1)) (f_needOf ((f_wantOf (f_guestAt b g).1) == 4))).1 (f_addrCell (f_address (f_guestAt b g).1)))) q96 (S.rd o98.rn)) fun ac w N q101 F102 S up o103 d104 => ?_)
  refine WD.next S up (by kernel_rfl) ?_
  replace o5 := o5.up up
  clear up d104
  refine S.sl 11 [] [] 4 [(1, GT.cells (f_withGuest b g (f_loaded (f_guestAt b g).1 (f_cellAt b.mem (f_walkInner (f_guestAt b g).1.live (f_addrPage (f_address (f_guestAt b g).1)) (f_needOf ((f_wantOf (f_guestAt b g).1) == 4))).1 (f_addrCell (f_address (f_guestAt b g).1))))) q101)] .nil fun ac w β S => ?_
  refine S.sl 12 [] [(5, .v (B true))] 4 [] .nil fun ac w β S => ?_
  refine WD.done (by kernel_rfl) ?_ _
  refine S.ex fun S => ?_
  refine S.gr 2 .nil [GT.val (f_withGuest b g (f_loaded (f_guestAt b g).1 (f_cellAt b.mem (f_walkInner (f_guestAt b g).1.live (f_addrPage (f_address (f_guestAt b g).1)) (f_needOf ((f_wantOf (f_guestAt b g).1) == 4))).1 (f_addrCell (f_address (f_guestAt b g).1))))) q101, B true] fun ac w β S => ?_
  exact ret2_of (p' := ()) S (show (f_bareStep b g).1 = (f_withGuest b g (f_loaded (f_guestAt b g).1 (f_cellAt b.mem (f_walkInner (f_guestAt b g).1.live (f_addrPage (f_address (f_guestAt b g).1)) (f_needOf ((f_wantOf (f_guestAt b g).1) == 4))).1 (f_addrCell (f_address (f_guestAt b g).1))))) from k0_impl_BareStep) (show (f_bareStep b g).2 = true from k1_impl_BareStep) rfl rfl o103 trivial
 refine S.gd 6 .nil ((f_wantOf (f_guestAt b g).1) == 4) (fun ac w β h107 g108 S => ?_) (fun ac w β h107 g108 S => ?_)
 ·refine S.gb 20 (.cons (Q_call fun w hw => c_impl_AddrPage w (f_address (f_guestAt b g).1) (address_in64 o5.rn)) (.cons (Q_call fun w hw => c_impl_NeedOf w ((f_wantOf (f_guestAt b g).1) == 4)) (.cons (Q_call fun w hw => c_impl_WalkInner w (f_guestAt b g).1.live q1.live (rd_of (RGuest.live (d := (f_guestAt b g).1) o5.rn) hw) (f_addrPage (f_address (f_guestAt b g).1)) (f_needOf ((f_wantOf (f_guestAt b g).1) == 4))) .nil))) (!(f_walkInner (f_guestAt b g).1.live (f_addrPage (f_address (f_guestAt b g).1)) (f_needOf ((f_wantOf (f_guestAt b g).1) == 4))).2) (fun ac w β h109 S => ?_) (fun ac w β h109 S => ?_)
  ·have h110 := not_t h109
   refine S.go 2 .nil fun ac w β S => ?_
   refine drw ?_
   refine S.draw0 (f := 11) 9 (by kernel_rfl) (by kernel_rfl) fun w S => ?_
   refine S.hq 0 [0] [] [(75, .v (GT.val b pb))] .nil fun ac S => ?_
   refine S.hq 1 [1] [] [(76, .v (I g))] .nil fun ac S => ?_
   refine S.hq 2 [2] [] [(77, .v (GT.val (f_guestAt b g).1 q1))] .nil fun ac S => ?_
   refine S.hq 3 [3] [] [(78, .v (I (f_address (f_guestAt b g).1)))] .nil fun ac S => ?_
   refine S.hq 5 [5] [] [(80, .v (B ((f_wantOf (f_guestAt b g).1) == 4)))] .nil fun ac S => ?_
   refine S.sq 4 [] [(79, .v (I (f_addrPage (f_address (f_guestAt b g).1))))] 4 [] (.cons (Q_call fun w hw => c_impl_AddrPage w (f_address (f_guestAt b g).1) (address_in64 o5.rn)) .nil) fun ac w β S => ?_
   refine S.sq 6 [] [(81, .v (GT.val (f_faultExit (f_addrPage (f_address (f_guestAt b g).1)) ((f_wantOf (f_guestAt b g).1) == 4)) ()))] 4 [] (.cons (Q_call fun w hw => c_impl_FaultExit w (f_addrPage (f_address (f_guestAt b g).1)) (addrPage_in64 (address_in64 o5.rn)) ((f_wantOf (f_guestAt b g).1) == 4)) .nil) fun ac w β S => ?_
   refine WD.one (i := 7) (by kernel_rfl) ?_
   refine id (S.k1 82 (c_impl_Stopped w (f_guestAt b g).1 q1 (S.rd o5.rn) (f_faultExit (f_addrPage (f_address (f_guestAt b g).1)) ((f_wantOf (f_guestAt b g).1) == 4)) (faultExit_r (addrPage_in64 (address_in64 o5.rn)) ((f_wantOf (f_guestAt b g).1) == 4))) fun ac w N q111 F112 S up o113 d114 => ?_)
   refine WD.next S up (by kernel_rfl) ?_
   replace o5 := o5.up up
   clear up d114
   refine WD.one (i := 8) (by kernel_rfl) ?_
   refine id (S.k1 83 (c_impl_WithGuest w b pb (S.rd (S.arg hb)) g ({ (f_guestAt b g).1 with exit := (f_faultExit (f_addrPage (f_address (f_guestAt b g).1)) ((f_wantOf (f_guestAt b g).1) == 4)) } : TGuest) q111 (S.rd o113.rn)) fun ac w N q116 F117 S up o118 d119 => ?_)
   refine WD.next S up (by kernel_rfl) ?_
   replace o5 := o5.up up
   clear up d119
   refine S.sl 9 [] [] 4 [(1, GT.cells (f_withGuest b g ({ (f_guestAt b g).1 with exit := (f_faultExit (f_addrPage (f_address (f_guestAt b g).1)) ((f_wantOf (f_guestAt b g).1) == 4)) } : TGuest)) q116)] .nil fun ac w β S => ?_
   refine S.sl 10 [] [(5, .v (B true))] 4 [] .nil fun ac w β S => ?_
   refine WD.done (by kernel_rfl) ?_ _
   refine S.ex fun S => ?_
   refine S.gr 2 .nil [GT.val (f_withGuest b g ({ (f_guestAt b g).1 with exit := (f_faultExit (f_addrPage (f_address (f_guestAt b g).1)) ((f_wantOf (f_guestAt b g).1) == 4)) } : TGuest)) q116, B true] fun ac w β S => ?_
   exact ret2_of (p' := ()) S (show (f_bareStep b g).1 = (f_withGuest b g ({ (f_guestAt b g).1 with exit := (f_faultExit (f_addrPage (f_address (f_guestAt b g).1)) ((f_wantOf (f_guestAt b g).1) == 4)) } : TGuest)) from k0_impl_BareStep) (show (f_bareStep b g).2 = true from k1_impl_BareStep) rfl rfl o118 trivial
  have h122 := not_f h109
  refine S.go 7 .nil fun ac w β S => ?_
  refine S.lt 84 h107 fun S => ?_
  refine S.go 2 .nil fun ac w β S => ?_
  refine drw ?_
  refine S.draw0 (f := 10) 9 (by kernel_rfl) (by kernel_rfl) fun w S => ?_
  refine S.hq 0 [0] [] [(86, .p 0 0)] .nil fun ac S => ?_
  refine S.hq 1 [1] [] [(87, .v (slv b.mem.length pb.mem.1))] .nil fun ac S => ?_
  refine S.hq 2 [2] [] [(88, .v (I (f_walkInner (f_guestAt b g).1.live (f_addrPage (f_address (f_guestAt b g).1)) (f_needOf ((f_wantOf (f_guestAt b g).1) == 4))).1))] .nil fun ac S => ?_
  refine S.hq 3 [3] [] [(89, .v (I (f_address (f_guestAt b g).1)))] .nil fun ac S => ?_
  refine S.hq 5 [5] [] [(91, .p 2 1)] .nil fun ac S => ?_
  refine S.hq 6 [6] [] [(92, .v (I (f_guestAt b g).1.acc))] .nil fun ac S => ?_
  refine S.sq 4 [] [(90, .v (I (f_addrCell (f_address (f_guestAt b g).1))))] 4 [] (.cons (Q_call fun w hw => c_impl_AddrCell w (f_address (f_guestAt b g).1) (address_in64 o5.rn)) .nil) fun ac w β S => ?_
  refine WD.one (i := 7) (by kernel_rfl) ?_
  refine id (S.k1 93 (c_impl_WithCell w b.mem pb.mem (S.rd (RBare.mem (d := b) (S.arg hb))) (f_walkInner (f_guestAt b g).1.live (f_addrPage (f_address (f_guestAt b g).1)) (f_needOf ((f_wantOf (f_guestAt b g).1) == 4))).1 (f_addrCell (f_address (f_guestAt b g).1)) (f_guestAt b g).1.acc (RGuest.acc (d := (f_guestAt b g).1) o5.rn)) fun ac w N q123 F124 S up o125 d126 => ?_)
  refine WD.next S up (by kernel_rfl) ?_
  replace o5 := o5.up up
  clear up d126
  refine S.hq 8 [8] [] [(94, .p 0 0)] .nil fun ac S => ?_
  refine S.sl 9 [] [] 4 [(0, [slv (f_withCell b.mem (f_walkInner (f_guestAt b g).1.live (f_addrPage (f_address (f_guestAt b g).1)) (f_needOf ((f_wantOf (f_guestAt b g).1) == 4))).1 (f_addrCell (f_address (f_guestAt b g).1)) (f_guestAt b g).1.acc).length q123.1, slv b.guests.length pb.guests.1, slv b.outs.length pb.outs.1, I b.pend])] .nil fun ac w β S => ?_
  refine WD.done (by kernel_rfl) ?_ _
  refine S.ex fun S => ?_
  refine S.go 2 .nil fun ac w β S => ?_
  refine drw ?_
  refine S.draw0 (f := 7) 5 (by kernel_rfl) (by kernel_rfl) fun w S => ?_
  refine S.hq 0 [0] [] [(95, .v (GT.val (⟨(f_withCell b.mem (f_walkInner (f_guestAt b g).1.live (f_addrPage (f_address (f_guestAt b g).1)) (f_needOf ((f_wantOf (f_guestAt b g).1) == 4))).1 (f_addrCell (f_address (f_guestAt b g).1)) (f_guestAt b g).1.acc), b.guests, b.outs, b.pend⟩ : TBare) (⟨q123, pb.guests, pb.outs⟩ : PBare)))] .nil fun ac S => ?_
  refine S.hq 1 [1] [] [(96, .v (I g))] .nil fun ac S => ?_
  refine S.hq 2 [2] [] [(97, .v (GT.val (f_guestAt b g).1 q1))] .nil fun ac S => ?_
  refine WD.one (i := 3) (by kernel_rfl) ?_
  refine id (S.k1 98 (c_impl_Stored w (f_guestAt b g).1 q1 (S.rd o5.rn)) fun ac w N q128 F129 S up o130 d131 => ?_)
  refine WD.next S up (by kernel_rfl) ?_
  replace o5 := o5.up up
  replace o125 := o125.up up
  clear up d131
  refine WD.one (i := 4) (by kernel_rfl) ?_
  refine id (S.k1 99 (c_impl_WithGuest w (⟨(f_withCell b.mem (f_walkInner (f_guestAt b g).1.live (f_addrPage (f_address (f_guestAt b g).1)) (f_needOf ((f_wantOf (f_guestAt b g).1) == 4))).1 (f_addrCell (f_address (f_guestAt b g).1)) (f_guestAt b g).1.acc), b.guests, b.outs, b.pend⟩ : TBare) (⟨q123, pb.guests, pb.outs⟩ : PBare) (S.rd (show GT.rd KK _ _ (⟨(f_withCell b.mem (f_walkInner (f_guestAt b g).1.live (f_addrPage (f_address (f_guestAt b g).1)) (f_needOf ((f_wantOf (f_guestAt b g).1) == 4))).1 (f_addrCell (f_address (f_guestAt b g).1)) (f_guestAt b g).1.acc), b.guests, b.outs, b.pend⟩ : TBare) (⟨q123, pb.guests, pb.outs⟩ : PBare) from ⟨o125.rn, (RBare.guests (p := pb) (d := b) (S.arg hb)), (RBare.outs (p := pb) (d := b) (S.arg hb)), (RBare.pend (d := b) (S.arg hb))⟩)) g (f_moved (f_guestAt b g).1) q128 (S.rd o130.rn)) fun ac w N q134 F135 S up o136 d137 => ?_)
  refine WD.next S up (by kernel_rfl) ?_
  replace o5 := o5.up up
  clear up d137
  refine S.sl 5 [] [] 4 [(1, GT.cells (f_withGuest (⟨(f_withCell b.mem (f_walkInner (f_guestAt b g).1.live (f_addrPage (f_address (f_guestAt b g).1)) (f_needOf ((f_wantOf (f_guestAt b g).1) == 4))).1 (f_addrCell (f_address (f_guestAt b g).1)) (f_guestAt b g).1.acc), b.guests, b.outs, b.pend⟩ : TBare) g (f_moved (f_guestAt b g).1)) q134)] .nil fun ac w β S => ?_
  refine S.sl 6 [] [(5, .v (B true))] 4 [] .nil fun ac w β S => ?_
  refine WD.done (by kernel_rfl) ?_ _
  refine S.ex fun S => ?_
  refine S.gr 2 .nil [GT.val (f_withGuest (⟨(f_withCell b.mem (f_walkInner (f_guestAt b g).1.live (f_addrPage (f_address (f_guestAt b g).1)) (f_needOf ((f_wantOf (f_guestAt b g).1) == 4))).1 (f_addrCell (f_address (f_guestAt b g).1)) (f_guestAt b g).1.acc), b.guests, b.outs, b.pend⟩ : TBare) g (f_moved (f_guestAt b g).1)) q134, B true] fun ac w β S => ?_
  exact ret2_of (p' := ()) S (show (f_bareStep b g).1 = (f_withGuest (⟨(f_withCell b.mem (f_walkInner (f_guestAt b g).1.live (f_addrPage (f_address (f_guestAt b g).1)) (f_needOf ((f_wantOf (f_guestAt b g).1) == 4))).1 (f_addrCell (f_address (f_guestAt b g).1)) (f_guestAt b g).1.acc), b.guests, b.outs, b.pend⟩ : TBare) g (f_moved (f_guestAt b g).1)) from k0_impl_BareStep) (show (f_bareStep b g).2 = true from k1_impl_BareStep) rfl rfl o136 trivial
 refine S.gd 7 .nil ((f_wantOf (f_guestAt b g).1) == 6) (fun ac w β h141 g142 S => ?_) (fun ac w β h141 g142 S => ?_)
 ·refine S.go 2 .nil fun ac w β S => ?_
  refine drw ?_
  refine S.draw0 (f := 10) 8 (by kernel_rfl) (by kernel_rfl) fun w S => ?_
  refine S.hq 0 [0] [] [(113, .v (GT.val b pb))] .nil fun ac S => ?_
  refine S.hq 1 [1] [] [(114, .v (I g))] .nil fun ac S => ?_
  refine S.hq 2 [2] [] [(115, .v (GT.val (f_guestAt b g).1 q1))] .nil fun ac S => ?_
  refine S.hq 3 [3] [] [(116, .p 3 1)] .nil fun ac S => ?_
  refine S.hq 4 [4] [] [(117, .v (I (f_insAt (f_guestAt b g).1.prog (f_guestAt b g).1.pc).x))] .nil fun ac S => ?_
  refine S.sq 5 [] [(118, .v (GT.val (f_callExit (f_insAt (f_guestAt b g).1.prog (f_guestAt b g).1.pc).x) ()))] 4 [] (.cons (Q_call fun w hw => c_impl_CallExit w (f_insAt (f_guestAt b g).1.prog (f_guestAt b g).1.pc).x (RIns.x (d := (f_insAt (f_guestAt b g).1.prog (f_guestAt b g).1.pc)) (insAt_r (RGuest.prog (d := (f_guestAt b g).1) o5.rn) (f_guestAt b g).1.pc))) .nil) fun ac w β S => ?_
  refine WD.one (i := 6) (by kernel_rfl) ?_
  refine id (S.k1 119 (c_impl_Stopped w (f_guestAt b g).1 q1 (S.rd o5.rn) (f_callExit (f_insAt (f_guestAt b g).1.prog (f_guestAt b g).1.pc).x) (callExit_r (RIns.x (d := (f_insAt (f_guestAt b g).1.prog (f_guestAt b g).1.pc)) (insAt_r (RGuest.prog (d := (f_guestAt b g).1) o5.rn) (f_guestAt b g).1.pc)))) fun ac w N q143 F144 S up o145 d146 => ?_)
  refine WD.next S up (by kernel_rfl) ?_
  replace o5 := o5.up up
  clear up d146
  refine WD.one (i := 7) (by kernel_rfl) ?_
  refine id (S.k1 120 (c_impl_WithGuest w b pb (S.rd (S.arg hb)) g ({ (f_guestAt b g).1 with exit := (f_callExit (f_insAt (f_guestAt b g).1.prog (f_guestAt b g).1.pc).x) } : TGuest) q143 (S.rd o145.rn)) fun ac w N q148 F149 S up o150 d151 => ?_)
  refine WD.next S up (by kernel_rfl) ?_
  replace o5 := o5.up up
  clear up d151
  refine S.sl 8 [] [] 4 [(1, GT.cells (f_withGuest b g ({ (f_guestAt b g).1 with exit := (f_callExit (f_insAt (f_guestAt b g).1.prog (f_guestAt b g).1.pc).x) } : TGuest)) q148)] .nil fun ac w β S => ?_
  refine S.sl 9 [] [(5, .v (B true))] 4 [] .nil fun ac w β S => ?_
  refine WD.done (by kernel_rfl) ?_ _
  refine S.ex fun S => ?_
  refine S.gr 2 .nil [GT.val (f_withGuest b g ({ (f_guestAt b g).1 with exit := (f_callExit (f_insAt (f_guestAt b g).1.prog (f_guestAt b g).1.pc).x) } : TGuest)) q148, B true] fun ac w β S => ?_
  exact ret2_of (p' := ()) S (show (f_bareStep b g).1 = (f_withGuest b g ({ (f_guestAt b g).1 with exit := (f_callExit (f_insAt (f_guestAt b g).1.prog (f_guestAt b g).1.pc).x) } : TGuest)) from k0_impl_BareStep) (show (f_bareStep b g).2 = true from k1_impl_BareStep) rfl rfl o150 trivial
 refine S.gb 9 (.cons (Q_call fun w hw => c_impl_trapOf w (f_wantOf (f_guestAt b g).1)) (.cons (Q_call fun w hw => c_impl_HasTrap w (f_guestAt b g).1.ctl.traps (f_trapOf (f_wantOf (f_guestAt b g).1))) .nil)) (f_hasTrap (f_guestAt b g).1.ctl.traps (f_trapOf (f_wantOf (f_guestAt b g).1))) (fun ac w β h154 S => ?_) (fun ac w β h154 S => ?_)
 ·refine S.go 2 .nil fun ac w β S => ?_
  refine drw ?_
  refine S.draw0 (f := 8) 6 (by kernel_rfl) (by kernel_rfl) fun w S => ?_
  refine S.hq 0 [0] [] [(128, .v (GT.val b pb))] .nil fun ac S => ?_
  refine S.hq 1 [1] [] [(129, .v (I g))] .nil fun ac S => ?_
  refine S.hq 2 [2] [] [(130, .v (GT.val (f_guestAt b g).1 q1))] .nil fun ac S => ?_
  refine S.hq 3 [3] [] [(131, .v (I (f_wantOf (f_guestAt b g).1)))] .nil fun ac S => ?_
  refine WD.one (i := 4) (by kernel_rfl) ?_
  refine id (S.k1 132 (c_impl_trapped w (f_guestAt b g).1 q1 (S.rd o5.rn) (f_wantOf (f_guestAt b g).1)) fun ac w N q155 F156 S up o157 d158 => ?_)
  refine WD.next S up (by kernel_rfl) ?_
  replace o5 := o5.up up
  clear up d158
  refine WD.one (i := 5) (by kernel_rfl) ?_
  refine id (S.k1 133 (c_impl_WithGuest w b pb (S.rd (S.arg hb)) g (f_trapped (f_guestAt b g).1 (f_wantOf (f_guestAt b g).1)) q155 (S.rd o157.rn)) fun ac w N q160 F161 S up o162 d163 => ?_)
  refine WD.next S up (by kernel_rfl) ?_
  replace o5 := o5.up up
  clear up d163
  refine S.sl 6 [] [] 4 [(1, GT.cells (f_withGuest b g (f_trapped (f_guestAt b g).1 (f_wantOf (f_guestAt b g).1))) q160)] .nil fun ac w β S => ?_
  refine S.sl 7 [] [(5, .v (B true))] 4 [] .nil fun ac w β S => ?_
  refine WD.done (by kernel_rfl) ?_ _
  refine S.ex fun S => ?_
  refine S.gr 2 .nil [GT.val (f_withGuest b g (f_trapped (f_guestAt b g).1 (f_wantOf (f_guestAt b g).1))) q160, B true] fun ac w β S => ?_
  exact ret2_of (p' := ()) S (show (f_bareStep b g).1 = (f_withGuest b g (f_trapped (f_guestAt b g).1 (f_wantOf (f_guestAt b g).1))) from k0_impl_BareStep) (show (f_bareStep b g).2 = true from k1_impl_BareStep) rfl rfl o162 trivial
 refine S.gd 8 .nil ((f_wantOf (f_guestAt b g).1) == 5) (fun ac w β h166 g167 S => ?_) (fun ac w β h166 g167 S => ?_)
 ·refine S.go 2 .nil fun ac w β S => ?_
  refine drw ?_
  refine S.draw0 (f := 10) 8 (by kernel_rfl) (by kernel_rfl) fun w S => ?_
  refine S.hq 0 [0] [] [(137, .v (GT.val b pb))] .nil fun ac S => ?_
  refine S.hq 1 [1] [] [(138, .p 3 1)] .nil fun ac S => ?_
  refine S.hq 2 [2] [] [(139, .v (I (f_insAt (f_guestAt b g).1.prog (f_guestAt b g).1.pc).x))] .nil fun ac S => ?_
  refine S.hq 4 [4] [] [(141, .v (I g))] .nil fun ac S => ?_
  refine S.hq 5 [5] [] [(142, .v (GT.val (f_guestAt b g).1 q1))] .nil fun ac S => ?_
  refine WD.one (i := 3) (by kernel_rfl) ?_
  refine id (S.k1 140 (c_impl_PutOut w b pb (S.rd (S.arg hb)) (f_insAt (f_guestAt b g).1.prog (f_guestAt b g).1.pc).x (RIns.x (d := (f_insAt (f_guestAt b g).1.prog (f_guestAt b g).1.pc)) (insAt_r (RGuest.prog (d := (f_guestAt b g).1) o5.rn) (f_guestAt b g).1.pc))) fun ac w N q168 F169 S up o170 d171 => ?_)
  refine WD.next S up (by kernel_rfl) ?_
  replace o5 := o5.up up
  clear up d171
  refine WD.one (i := 6) (by kernel_rfl) ?_
  refine id (S.k1 143 (c_impl_Moved w (f_guestAt b g).1 q1 (S.rd o5.rn)) fun ac w N q173 F174 S up o175 d176 => ?_)
  refine WD.next S up (by kernel_rfl) ?_
  replace o5 := o5.up up
  replace o170 := o170.up up
  clear up d176
  refine WD.one (i := 7) (by kernel_rfl) ?_
  refine id (S.k1 144 (c_impl_WithGuest w (f_putOut b (f_insAt (f_guestAt b g).1.prog (f_guestAt b g).1.pc).x) q168 (S.rd o170.rn) g (f_moved (f_guestAt b g).1) q173 (S.rd o175.rn)) fun ac w N q179 F180 S up o181 d182 => ?_)
  refine WD.next S up (by kernel_rfl) ?_
  replace o5 := o5.up up
  clear up d182
  refine S.sl 8 [] [] 4 [(1, GT.cells (f_withGuest (f_putOut b (f_insAt (f_guestAt b g).1.prog (f_guestAt b g).1.pc).x) g (f_moved (f_guestAt b g).1)) q179)] .nil fun ac w β S => ?_
  refine S.sl 9 [] [(5, .v (B true))] 4 [] .nil fun ac w β S => ?_
  refine WD.done (by kernel_rfl) ?_ _
  refine S.ex fun S => ?_
  refine S.gr 2 .nil [GT.val (f_withGuest (f_putOut b (f_insAt (f_guestAt b g).1.prog (f_guestAt b g).1.pc).x) g (f_moved (f_guestAt b g).1)) q179, B true] fun ac w β S => ?_
  exact ret2_of (p' := ()) S (show (f_bareStep b g).1 = (f_withGuest (f_putOut b (f_insAt (f_guestAt b g).1.prog (f_guestAt b g).1.pc).x) g (f_moved (f_guestAt b g).1)) from k0_impl_BareStep) (show (f_bareStep b g).2 = true from k1_impl_BareStep) rfl rfl o181 trivial
 refine S.go 5 .nil fun ac w β S => ?_
 refine drw ?_
 refine S.draw0 (f := 7) 5 (by kernel_rfl) (by kernel_rfl) fun w S => ?_
 refine S.hq 0 [0] [] [(145, .v (GT.val b pb))] .nil fun ac S => ?_
 refine S.hq 1 [1] [] [(146, .v (I g))] .nil fun ac S => ?_
 refine S.hq 2 [2] [] [(147, .v (GT.val (f_guestAt b g).1 q1))] .nil fun ac S => ?_
 refine WD.one (i := 3) (by kernel_rfl) ?_
 refine id (S.k1 148 (c_impl_Held w (f_guestAt b g).1 q1 (S.rd o5.rn)) fun ac w N q186 F187 S up o188 d189 => ?_)
 refine WD.next S up (by kernel_rfl) ?_
 clear up d189
 refine WD.one (i := 4) (by kernel_rfl) ?_
 refine id (S.k1 149 (c_impl_WithGuest w b pb (S.rd (S.arg hb)) g (f_held (f_guestAt b g).1) q186 (S.rd o188.rn)) fun ac w N q191 F192 S up o193 d194 => ?_)
 refine WD.next S up (by kernel_rfl) ?_
 clear up d194
 refine S.sl 5 [] [] 4 [(1, GT.cells (f_withGuest b g (f_held (f_guestAt b g).1)) q191)] .nil fun ac w β S => ?_
 refine S.sl 6 [] [(5, .v (B true))] 4 [] .nil fun ac w β S => ?_
 refine WD.done (by kernel_rfl) ?_ _
 refine S.ex fun S => ?_
 refine S.gr 2 .nil [GT.val (f_withGuest b g (f_held (f_guestAt b g).1)) q191, B true] fun ac w β S => ?_
 exact ret2_of (p' := ()) S (show (f_bareStep b g).1 = (f_withGuest b g (f_held (f_guestAt b g).1)) from k0_impl_BareStep) (show (f_bareStep b g).2 = true from k1_impl_BareStep) rfl rfl o193 trivial

end Go.Proofs.YtgonaioedbphgaaGreat
