/- The walks: what each function that the laws reach computes (part 4). -/
import Derived.Test.YtkbcponpcghjpaaGreatW3
import Derived.Test.YtkbcponpcghjpaaGreatProg
import Derived.KernelRfl
namespace Go.Proofs.YtkbcponpcghjpaaGreat
open Go
set_option linter.unusedVariables false
set_option linter.unusedSimpArgs false

theorem k0_impl_HostOk {p : Prop} (h : p := by clear S; (first | (symm; rw [← Bool.not_eq_true]; intro hc; simp only [f_hostOk, f_hostHead, Bool.and_eq_true] at hc; (first | (simp_all; done) | (simp_all; omega))) | (rw [hostOk_dead (fold_dead (k := i) (by omega) stepMon_none hu (stepMon_bad (by assumption)))]) | (rw [hostOk_dead (fold_dead (k := i) (by omega) stepMon_none hu ((stepMon_ok hmok).trans (fold_dead (k := k) (by omega) stepSlot_none hu2 (stepSlot_hit (by omega) (by assumption)))))]) | (unfold f_hostOk f_hostUsed f_hostHead; rw [take_all (by omega)] at hu; rw [hu]; simp_all; done))) : p := h
set_option maxRecDepth 100000 in
theorem c_impl_HostOk (w0 : World) (h : THost) (ph : PHost) (hh : GT.rd KK (Lt w0.heap.size) w0 h ph) : Calls Tryz.prog 81 [GT.val h ph].toArray w0 (fun e w' => e = .returned (B (f_hostOk h)) ∧ Chg NoB w0 w') := by
 refine Calls.walk (args := [GT.val h ph]) NoB Tryz.func81 rfl rfl ?_
 intro ac β S
 have hleh_mem : h.mem.length ≤ 4194304 := LRd.le (RHost.mem (d := h) hh)
 have hleh_mons : h.mons.length ≤ 4194304 := LRd.le (RHost.mons (d := h) hh)
 have hleh_buf : h.buf.length ≤ 4194304 := LRd.le (RHost.buf (d := h) hh)
 have hleh_iobuf : h.iobuf.length ≤ 4194304 := LRd.le (RHost.iobuf (d := h) hh)
 refine ws (rg ?_)
 refine S.qem 2 [] [(1, .p 0 0)] 1 [(0, GT.cells h ph)] ?_; clear S; intro ac w β S
 refine (nt (ws (ws (rg ?_))))
 refine S.qb 5 [] [(12, .v (B (!(f_memOk h.mem 12))))] (.cons (Q_call fun w hw => c_impl_MemOk w h.mem ph.mem (rd_of (RHost.mem (d := h) (S.arg hh)) hw) 12) .nil) ?_; clear S; intro ac w β S
 rcases Bool.eq_false_or_eq_true (!(f_memOk h.mem 12)) with h1 | h1 <;> rw [h1] at S
 ·have h2 := not_t h1
  refine S.qe 18 [12] [(30, .v (B true))] ?_; clear S; intro ac w β S
  refine (nt (S.c true (fun _ => ?_) (fun hx => by cases hx)))
  refine ws (rg ?_)
  refine S.qe 1 [] [(2, .v (B false))] ?_; clear S; intro ac w β S
  exact (nt (wr (rt (S.r [B false] ⟨retB k0_impl_HostOk, S.chg⟩))))
 ·have h3 := not_f h1
  refine S.qb 7 [12] [(19, .v (B (!(f_within ((h.mons).length : Int) 1 3))))] (.cons (Q_call fun w hw => c_impl_within w ((h.mons).length : Int) 1 3) .nil) ?_; clear S; intro ac w β S
  rcases Bool.eq_false_or_eq_true (!(f_within ((h.mons).length : Int) 1 3)) with h4 | h4 <;> rw [h4] at S
  ·have h5 := not_t h4
   have g6 := within_f h5
   refine S.qe 11 [19] [(30, .v (B true))] ?_; clear S; intro ac w β S
   refine (nt (S.c true (fun _ => ?_) (fun hx => by cases hx)))
   refine ws (rg ?_)
   refine S.qe 1 [] [(2, .v (B false))] ?_; clear S; intro ac w β S
   exact (nt (wr (rt (S.r [B false] ⟨retB k0_impl_HostOk, S.chg⟩))))
  ·have h7 := not_f h4
   have g8 := within_t h7
   refine S.qb 6 [19] [(25, .v (B (!(f_bufferOk h.buf))))] (.cons (Q_call fun w hw => c_impl_BufferOk w h.buf ph.buf (rd_of (RHost.buf (d := h) (S.arg hh)) hw)) .nil) ?_; clear S; intro ac w β S
   rcases Bool.eq_false_or_eq_true (!(f_bufferOk h.buf)) with h9 | h9 <;> rw [h9] at S
   ·have h10 := not_t h9
    refine S.qe 5 [25] [(30, .v (B true))] ?_; clear S; intro ac w β S
    refine (nt (S.c true (fun _ => ?_) (fun hx => by cases hx)))
    refine ws (rg ?_)
    refine S.qe 1 [] [(2, .v (B false))] ?_; clear S; intro ac w β S
    exact (nt (wr (rt (S.r [B false] ⟨retB k0_impl_HostOk, S.chg⟩))))
   ·have h11 := not_f h9
    refine S.qg 5 [25] [(30, .v (B (!(f_bufferOk h.iobuf))))] (.cons (Q_call fun w hw => c_impl_BufferOk w h.iobuf ph.iobuf (rd_of (RHost.iobuf (d := h) (S.arg hh)) hw)) .nil) ?_; clear S; intro ac w β S
    refine (nt (S.c (!(f_bufferOk h.iobuf)) (fun h12 => ?_) (fun h12 => ?_)))
    ·have h13 := not_t h12
     refine ws (rg ?_)
     refine S.qe 1 [] [(2, .v (B false))] ?_; clear S; intro ac w β S
     exact (nt (wr (rt (S.r [B false] ⟨retB k0_impl_HostOk, S.chg⟩))))
    ·have h14 := not_f h12
     refine wk (nt (ws (rg ?_)))
     refine RG.op rfl (S.make (α := Bool) (m := 12) (by' := 1) (d := 31) (by kernel_rfl) (by omega) (show 12 ≤ 4194304 by omega) ?_)
     clear S; intro ac w N q15 F16 S up o17 d18
     clear up d18
     refine S.qe 1 [] [(3, .v (slv 12 q15.1))] ?_; clear S; intro ac w β S
     refine (nt (ws (ws (rg ?_))))
     refine S.qem 4 [] [(33, .v (slv (h.mons).length ph.mons.1)), (34, .v (I ((h.mons).length : Int))), (35, .v (I 0))] 0 [] ?_; clear S; intro ac w β S
     refine (nt (wp_block ?_))
     refine wp_loop_down (fun mm ac w => ∃ (i : Nat) (us : List Bool) (q19 : GT.Ptr (List Bool)) (F20 : Bl) (u : World) (N : Bl) (β : Nat → Nat), mm = h.mons.length - i ∧ (i ≤ h.mons.length) ∧ ((h.mons.take i).foldl stepMon (some (List.replicate 12 false)) = some us) ∧ (us.length = 12) ∧ St Tryz.prog Tryz.f81.ntmps w0 NoB u N β ⟨[(3, .v (slv 12 q19.1)), (33, .v (slv (h.mons).length ph.mons.1)), (34, .v (I ((h.mons).length : Int))), (35, .v (I (i : Int)))], []⟩ ac w ∧ Ow w0 NoB u N F20 us q19) _ ⟨0, (List.replicate 12 (GT.dflt : Bool)), q15, F16, _, _, _, rfl, (by first | omega | (simp; done) | (simp; omega)), (by rfl), (by rfl), S.z, o17⟩ ?_
     clear S o17
     rintro mm ac w ⟨i, us, q19, F20, u, N, β, rfl, hi, hu, hul, S, o21⟩
     refine ws (rg ?_)
     refine S.qe 1 [] [(36, .v (B (decide ((i : Int) < ((h.mons).length : Int)))))] ?_; clear S; intro ac w β S
     refine (nt (ws (S.c (decide ((i : Int) < ((h.mons).length : Int))) (fun h22 => ?_) (fun h22 => ?_))))
     ·have g23 := of_decide_eq_true h22
      refine wk (nt (ws (wp_block (ws (rg ?_)))))
      refine S.qgm 4 [] [(5, .p 0 0)] (.cons (Q_idx (RHost.mons (d := h) (S.arg hh)) (l := (h.mons).length) (k := i) (i := (i : Int)) rfl rfl (by omega) Tryz.underlying30 (by kernel_rfl)) (.cons (Q_el (RHost.mons (d := h) (S.arg hh)) (t := 65) (k := i) (by omega) rfl (by kernel_rfl) (by kernel_rfl)) .nil)) 1 [(0, GT.cells (el h.mons i) (ph.mons.2 i))] ?_; clear S; intro ac w β S
      refine (nt (ws (ws (rg ?_))))
      refine S.qg 3 [] [(41, .v (B (!(f_monOk (el h.mons i)))))] (.cons (Q_call fun w hw => c_impl_MonOk w (el h.mons i) (ph.mons.2 i) (rd_of (LRd.el (RHost.mons (d := h) (S.arg hh)) i (by omega)) hw)) .nil) ?_; clear S; intro ac w β S
      refine (nt (S.c (!(f_monOk (el h.mons i))) (fun h24 => ?_) (fun h24 => ?_)))
      ·have h25 := not_t h24
       refine ws (rg ?_)
       refine S.qe 1 [] [(2, .v (B false))] ?_; clear S; intro ac w β S
       exact (nt (wr (rt (rb (rt (rt (rb (rt (S.r [B false] ⟨retB k0_impl_HostOk, S.chg⟩)))))))))
      ·have h26 := not_f h24
       have g27 := monOk_t h26
       refine wk (nt (ws (rg ?_)))
       have b28 : ((el h.mons i).outer).length ≤ 4194304 := LRd.le (RMon.outer (d := (el h.mons i)) (LRd.el (RHost.mons (d := h) (S.arg hh)) i (by omega)))
       refine S.qem 4 [] [(43, .v (slv ((el h.mons i).outer).length ((ph.mons.2 i).outer).1)), (44, .v (I (((el h.mons i).outer).length : Int))), (45, .v (I 0))] 0 [] ?_; clear S; intro ac w β S
       refine (nt (wp_block ?_))
       refine wp_loop_down (fun mm ac w => ∃ (k : Nat) (us2 : List Bool) (q29 : GT.Ptr (List Bool)) (F30 : Bl) (u : World) (N : Bl) (β : Nat → Nat), mm = (el h.mons i).outer.length - k ∧ (k ≤ (el h.mons i).outer.length) ∧ (((el h.mons i).outer.take k).foldl stepSlot (some us) = some us2) ∧ (us2.length = 12) ∧ St Tryz.prog Tryz.f81.ntmps w0 NoB u N β ⟨[(3, .v (slv 12 q29.1)), (33, .v (slv (h.mons).length ph.mons.1)), (34, .v (I ((h.mons).length : Int))), (35, .v (I (i : Int))), (43, .v (slv ((el h.mons i).outer).length ((ph.mons.2 i).outer).1)), (44, .v (I (((el h.mons i).outer).length : Int))), (45, .v (I (k : Int)))], []⟩ ac w ∧ Ow w0 NoB u N F30 us2 q29) _ ⟨0, us, q19, F20, _, _, _, rfl, (by first | omega | (simp; done) | (simp; omega)), (by rfl), (by omega), S.z, o21⟩ ?_
       clear S o21
       rintro mm ac w ⟨k, us2, q29, F30, u, N, β, rfl, hk, hu2, hul2, S, o31⟩
       have hmok : f_monOk (el h.mons i) = true := by assumption
       have hpg := page_lt hmok k
       have hol := (monOk_t hmok).1
       refine ws (rg ?_)
       refine S.qe 1 [] [(46, .v (B (decide ((k : Int) < (((el h.mons i).outer).length : Int)))))] ?_; clear S; intro ac w β S
       refine (nt (ws (S.c (decide ((k : Int) < (((el h.mons i).outer).length : Int))) (fun h32 => ?_) (fun h32 => ?_))))
       ·have g33 := of_decide_eq_true h32
        refine wk (nt (ws (wp_block (ws (rg ?_)))))
        refine S.qgm 4 [] [(7, .p 0 0)] (.cons (Q_idx (RMon.outer (d := (el h.mons i)) (LRd.el (RHost.mons (d := h) (S.arg hh)) i (by omega))) (l := ((el h.mons i).outer).length) (k := k) (i := (k : Int)) rfl rfl (by omega) Tryz.underlying61 (by kernel_rfl)) (.cons (Q_el (RMon.outer (d := (el h.mons i)) (LRd.el (RHost.mons (d := h) (S.arg hh)) i (by omega))) (t := 37) (k := k) (by omega) rfl (by kernel_rfl) (by kernel_rfl)) .nil)) 1 [(0, GT.cells (el ((el h.mons i).outer) k) ())] ?_; clear S; intro ac w β S
        refine (nt (ws (ws (rg ?_))))
        refine S.qe 3 [] [(51, .v (B (decide ((el ((el h.mons i).outer) k).page < 0))))] ?_; clear S; intro ac w β S
        refine (nt (S.c (decide ((el ((el h.mons i).outer) k).page < 0)) (fun h34 => ?_) (fun h34 => ?_)))
        ·have g35 := of_decide_eq_true h34
         refine wp_exit (ex_then (ex_hit (nt (rg ?_))))
         refine S.qgm 2 [] [(45, .v (I ((k : Int) + 1)))] (.cons (Q_add (x := (k : Int)) (y := 1) ⟨by omega, by omega⟩) .nil) 0 [] ?_; clear S; intro ac w β S
         refine (nt ?_)
         refine ⟨(el h.mons i).outer.length - (k + 1), by omega, k + 1, us2, q29, F30, _, _, _, rfl, ?_, ?_, ?_, S.z, o31⟩
         ·clear S; first | omega | (simp [*]; done) | (simp [*]; omega)
         ·clear S; (rw [fold_step (by omega), hu2]; first | exact stepSlot_neg (by omega) | exact stepSlot_new (by omega) (by assumption) | exact stepSlot_new (by omega) (by simp_all))
         ·clear S; (first | omega | (simp; omega))
        ·have g36 := of_decide_eq_false h34
         refine wk (nt (ws (ws (rg ?_))))
         refine S.qg 5 [] [(56, .v (B (el us2 (((el ((el h.mons i).outer) k).page).toNat))))] (.cons (Q_idx o31.rn (l := 12) (k := ((el ((el h.mons i).outer) k).page).toNat) (i := (el ((el h.mons i).outer) k).page) (by omega) (by omega) (by omega) Tryz.underlying62 (by kernel_rfl)) (.cons (Q_el1 o31.rn (t := 4) (k := ((el ((el h.mons i).outer) k).page).toNat) (by omega) rfl (by kernel_rfl)) .nil)) ?_; clear S; intro ac w β S
         refine (nt (S.c (el us2 (((el ((el h.mons i).outer) k).page).toNat)) (fun h37 => ?_) (fun h37 => ?_)))
         ·refine ws (rg ?_)
          refine S.qe 1 [] [(2, .v (B false))] ?_; clear S; intro ac w β S
          exact (nt (wr (rt (rb (rt (rt (rb (rb (rt (rt (rb (rt (S.r [B false] ⟨retB k0_impl_HostOk, S.chg⟩)))))))))))))
         ·refine wk (nt (rg ?_))
          refine S.qbm 4 [] [(60, .v (pt q29.1.b (q29.1.off + (((el ((el h.mons i).outer) k).page).toNat) * 1)))] (.cons (Q_idx o31.rn (l := 12) (k := ((el ((el h.mons i).outer) k).page).toNat) (i := (el ((el h.mons i).outer) k).page) (by omega) (by omega) (by omega) Tryz.underlying62 (by kernel_rfl)) .nil) 0 [] ?_; clear S; intro ac w β S
          refine RG.op rfl (S.setEl (α := Bool) o31 (t := 4) (v := B true) (k := ((el ((el h.mons i).outer) k).page).toNat) (j := 0) (off := q29.1.off + (((el ((el h.mons i).outer) k).page).toNat) * 1) (y := true) (q := ()) (Fy := NoB) (by kernel_rfl) (by kernel_rfl) (by omega) (by kernel_rfl) (by kernel_rfl) (Nat.le_of_ble_eq_true (by kernel_rfl)) (by kernel_rfl) (fun _ _ _ => ⟨NoB, trivial, fun _ h => False.elim h⟩) (fun b _ h => False.elim h) (fun b h => False.elim h) (fun b h => False.elim h) ?_)
          clear S; intro w N F39 q40 S up o38 d41 s42 n43
          clear up d41 o31 n43
          have l44 : (us2.set (((el ((el h.mons i).outer) k).page).toNat) true).length = (us2).length := List.length_set
          refine rd (nb (nt (rg ?_)))
          refine S.qg 2 [] [(45, .v (I ((k : Int) + 1)))] (.cons (Q_add (x := (k : Int)) (y := 1) ⟨by omega, by omega⟩) .nil) ?_; clear S; intro ac w β S
          refine (nt ?_)
          refine ⟨(el h.mons i).outer.length - (k + 1), by omega, k + 1, (us2.set (((el ((el h.mons i).outer) k).page).toNat) true), (q29.1, q40), F39, _, _, _, rfl, ?_, ?_, ?_, S.z, o38⟩
          ·clear S; first | omega | (simp [*]; done) | (simp [*]; omega)
          ·clear S; (rw [fold_step (by omega), hu2]; first | exact stepSlot_neg (by omega) | exact stepSlot_new (by omega) (by assumption) | exact stepSlot_new (by omega) (by simp_all))
          ·clear S; (first | omega | (simp; omega))
       ·have g45 := of_decide_eq_false h32
        refine wp_exit (ex_then (ex_then (ex_hit (nb (nt (rg ?_))))))
        refine S.qg 2 [] [(35, .v (I ((i : Int) + 1)))] (.cons (Q_add (x := (i : Int)) (y := 1) ⟨by omega, by omega⟩) .nil) ?_; clear S; intro ac w β S
        refine (nt ?_)
        refine ⟨h.mons.length - (i + 1), by omega, i + 1, us2, q29, F30, _, _, _, rfl, ?_, ?_, ?_, S.z, o31⟩
        ·clear S; first | omega | (simp [*]; done) | (simp [*]; omega)
        ·clear S; (rw [fold_step (by omega), hu, stepMon_ok (by assumption)]; rw [take_all (by omega)] at hu2; exact hu2)
        ·clear S; omega
     ·have g46 := of_decide_eq_false h22
      refine wp_exit (ex_then (ex_then (ex_hit (nt (ws (rg ?_))))))
      refine S.qe 1 [] [(2, .v (B true))] ?_; clear S; intro ac w β S
      exact (nt (wr (S.r [B true] ⟨retB k0_impl_HostOk, S.chg⟩)))

theorem k0_impl_MonAt {p : Prop} (h : p := by clear S; (first | (unfold f_monAt; rw [if_pos (by omega)]) | (unfold f_monAt; rw [if_neg (by omega)]))) : p := h
set_option maxRecDepth 100000 in
theorem c_impl_MonAt (w0 : World) (h : THost) (ph : PHost) (hh : GT.rd KK (Lt w0.heap.size) w0 h ph) (m : Int) : Calls Tryz.prog 143 [GT.val h ph, I m].toArray w0 (Ret2 NoB w0 ((f_monAt h m).1 : TMon) ((f_monAt h m).2 : Bool)) := by
 refine Calls.walk (args := [GT.val h ph, I m]) NoB Tryz.func143 rfl rfl ?_
 intro ac β S
 have hleh_mem : h.mem.length ≤ 4194304 := LRd.le (RHost.mem (d := h) hh)
 have hleh_mons : h.mons.length ≤ 4194304 := LRd.le (RHost.mons (d := h) hh)
 have hleh_buf : h.buf.length ≤ 4194304 := LRd.le (RHost.buf (d := h) hh)
 have hleh_iobuf : h.iobuf.length ≤ 4194304 := LRd.le (RHost.iobuf (d := h) hh)
 refine ws (rg ?_)
 refine S.qem 3 [] [(2, .p 0 0), (4, .p 1 0)] 2 [(0, GT.cells h ph), (1, Zc TMon)] ?_; clear S; intro ac w β S
 refine (nt (ws (ws (rg ?_))))
 refine S.qg 6 [] [(11, .v (B (!(f_within m 0 (((h.mons).length : Int) - 1)))))] (.cons (Q_call fun w hw => c_impl_has w m ((h.mons).length : Int) (by omega)) .nil) ?_; clear S; intro ac w β S
 refine (nt (S.c (!(f_within m 0 (((h.mons).length : Int) - 1))) (fun h1 => ?_) (fun h1 => ?_)))
 ·have h2 := not_t h1
  have g3 := within_f h2
  refine ws (rg ?_)
  refine S.qgm 3 [] [(5, .v (B false))] (.cons (Q_sem (s := Instr.build 65 [].toArray) (v := .agg [slv (([] : List TSlot)).length (GT.pdflt (α := List TSlot)).1, slv (([] : List (List Int))).length (GT.pdflt (α := List (List Int))).1, slv (([] : List Bool)).length (GT.pdflt (α := List Bool)).1, slv (([] : List TGuest)).length (GT.pdflt (α := List TGuest)).1, slv (([] : List Int)).length (GT.pdflt (α := List Int)).1, I 0, I 0, slv (([] : List TKept)).length (GT.pdflt (α := List TKept)).1, I 0].toArray) (fun w => by kernel_rfl)) .nil) 2 [(1, [slv (([] : List TSlot)).length (GT.pdflt (α := List TSlot)).1, slv (([] : List (List Int))).length (GT.pdflt (α := List (List Int))).1, slv (([] : List Bool)).length (GT.pdflt (α := List Bool)).1, slv (([] : List TGuest)).length (GT.pdflt (α := List TGuest)).1, slv (([] : List Int)).length (GT.pdflt (α := List Int)).1, I 0, I 0, slv (([] : List TKept)).length (GT.pdflt (α := List TKept)).1, I 0])] ?_; clear S; intro ac w β S
  refine (nt (wr (rt (S.r [GT.val (⟨([] : List TSlot), ([] : List (List Int)), ([] : List Bool), ([] : List TGuest), ([] : List Int), 0, 0, ([] : List TKept), 0⟩ : TMon) (⟨(GT.pdflt (α := List TSlot)), (GT.pdflt (α := List (List Int))), (GT.pdflt (α := List Bool)), (GT.pdflt (α := List TGuest)), (GT.pdflt (α := List Int)), (GT.pdflt (α := List TKept))⟩ : PMon), B false] ?_))))
  have o4 := S.nilOw (α := TSlot)
  have o5 := S.nilOw (α := List Int)
  have o6 := S.nilOw (α := Bool)
  have o7 := S.nilOw (α := TGuest)
  have o8 := S.nilOw (α := Int)
  have o9 := S.nilOw (α := TKept)
  have o10 := ow_Mon (x := (⟨([] : List TSlot), ([] : List (List Int)), ([] : List Bool), ([] : List TGuest), ([] : List Int), 0, 0, ([] : List TKept), 0⟩ : TMon)) (p := (⟨(GT.pdflt (α := List TSlot)), (GT.pdflt (α := List (List Int))), (GT.pdflt (α := List Bool)), (GT.pdflt (α := List TGuest)), (GT.pdflt (α := List Int)), (GT.pdflt (α := List TKept))⟩ : PMon)) o4 o5 o6 o7 o8 o9 (fun b _ h => False.elim h) (fun b _ h => False.elim h) (fun b _ h => False.elim h) (fun b _ h => False.elim h) (fun b _ h => False.elim h) (fun b _ h => False.elim h) (fun b _ h => False.elim h) (fun b _ h => False.elim h) (fun b _ h => False.elim h) (fun b _ h => False.elim h) (fun b _ h => False.elim h) (fun b _ h => False.elim h) (fun b _ h => False.elim h) (fun b _ h => False.elim h) (fun b _ h => False.elim h) (show In64 0 from ⟨by decide, by decide⟩) (show In64 0 from ⟨by decide, by decide⟩) (show In64 0 from ⟨by decide, by decide⟩)
  exact ret2_of (p' := ()) S (show (f_monAt h m).1 = (⟨([] : List TSlot), ([] : List (List Int)), ([] : List Bool), ([] : List TGuest), ([] : List Int), 0, 0, ([] : List TKept), 0⟩ : TMon) from k0_impl_MonAt) (show (f_monAt h m).2 = false from k0_impl_MonAt) rfl rfl o10 trivial
 ·have h11 := not_f h1
  have g12 := within_t h11
  refine wk (nt (ws (rg ?_)))
  refine S.qb 5 [] [(17, .v (GT.val (el h.mons ((m).toNat)) (ph.mons.2 ((m).toNat))))] (.cons (Q_idx (RHost.mons (d := h) (S.arg hh)) (l := (h.mons).length) (k := (m).toNat) (i := m) rfl (by omega) (by omega) Tryz.underlying30 (by kernel_rfl)) (.cons (Q_el (RHost.mons (d := h) (S.arg hh)) (t := 65) (k := (m).toNat) (by omega) rfl (by kernel_rfl) (by kernel_rfl)) .nil)) ?_; clear S; intro ac w β S
  refine RG.op rfl (S.call1 (r := (el h.mons ((m).toNat))) (d := 18) (c_impl_copyMon w (el h.mons ((m).toNat)) (ph.mons.2 ((m).toNat)) (S.rd (LRd.el (RHost.mons (d := h) (S.arg hh)) ((m).toNat) (by omega)))) (by kernel_rfl) rfl ?_)
  clear S; intro ac w N q13 F14 S up o15 d16
  clear up d16
  have i32 : In64 (el h.mons ((m).toNat)).pend := RMon.pend (d := (el h.mons ((m).toNat))) o15.rn
  have i33 : In64 (el h.mons ((m).toNat)).traps := RMon.traps (d := (el h.mons ((m).toNat))) o15.rn
  have i37 : In64 (el h.mons ((m).toNat)).owned := RMon.owned (d := (el h.mons ((m).toNat))) o15.rn
  obtain ⟨F17, F20, F23, F26, F29, F34, o18, o21, o24, o27, o30, o35, s19, s22, s25, s28, s31, s36, d38, d39, d40, d41, d42, d43, d44, d45, d46, d47, d48, d49, d50, d51, d52⟩ := sp_Mon o15
  refine S.qem 2 [] [(5, .v (B true))] 2 [(1, [slv ((el h.mons ((m).toNat)).outer).length q13.outer.1, slv ((el h.mons ((m).toNat)).out).length q13.out.1, slv ((el h.mons ((m).toNat)).dirty).length q13.dirty.1, slv ((el h.mons ((m).toNat)).guests).length q13.guests.1, slv ((el h.mons ((m).toNat)).outs).length q13.outs.1, I ((el h.mons ((m).toNat)).pend), I ((el h.mons ((m).toNat)).traps), slv ((el h.mons ((m).toNat)).tables).length q13.tables.1, I ((el h.mons ((m).toNat)).owned)])] ?_; clear S; intro ac w β S
  refine (nt (wr (S.r [GT.val (el h.mons ((m).toNat)) q13, B true] ?_)))
  have o53 := ow_Mon (x := (el h.mons ((m).toNat))) (p := q13) o18 o21 o24 o27 o30 o35 d38 d39 d40 d41 d42 d43 d44 d45 d46 d47 d48 d49 d50 d51 d52 i32 i33 i37
  exact ret2_of (p' := ()) S (show (f_monAt h m).1 = (el h.mons ((m).toNat)) from k0_impl_MonAt) (show (f_monAt h m).2 = true from k0_impl_MonAt) rfl rfl o53 trivial

theorem k0_impl_SlotAt {p : Prop} (h : p := by clear S; (first | (unfold f_slotAt; rw [if_pos (by omega)]) | (unfold f_slotAt; rw [if_neg (by omega)]))) : p := h
set_option maxRecDepth 100000 in
theorem c_impl_SlotAt (w0 : World) (t : List TSlot) (pt : LP TSlot) (ht : GT.rd KK (Lt w0.heap.size) w0 t pt) (page : Int) : Calls Tryz.prog 175 [slv (t).length pt.1, I page].toArray w0 (fun e w' => e = .returned (GT.val (f_slotAt t page) ()) ∧ Chg NoB w0 w') := by
 refine Calls.walk (args := [slv (t).length pt.1, I page]) NoB Tryz.func175 rfl rfl ?_
 intro ac β S
 have hlet : t.length ≤ 4194304 := LRd.le ht
 refine ws (rg ?_)
 refine S.qem 1 [] [(4, .p 0 0)] 1 [(0, Zc TSlot)] ?_; clear S; intro ac w β S
 refine (nt (ws (ws (rg ?_))))
 refine S.qg 5 [] [(9, .v (B (!(f_within page 0 (((t).length : Int) - 1)))))] (.cons (Q_call fun w hw => c_impl_has w page ((t).length : Int) (by omega)) .nil) ?_; clear S; intro ac w β S
 refine (nt (S.c (!(f_within page 0 (((t).length : Int) - 1))) (fun h1 => ?_) (fun h1 => ?_)))
 ·have h2 := not_t h1
  have g3 := within_f h2
  refine ws (rg ?_)
  refine S.qgm 2 [] [] (.cons (Q_call fun w hw => c_impl_NoSlot w ) .nil) 1 [(0, GT.cells ((⟨-1, 0⟩ : TSlot)) ())] ?_; clear S; intro ac w β S
  exact (nt (wr (rt (S.r [GT.val ((⟨-1, 0⟩ : TSlot)) ()] ⟨retV (p := ()) k0_impl_SlotAt, S.chg⟩))))
 ·have h4 := not_f h1
  have g5 := within_t h4
  refine wk (nt (ws (rg ?_)))
  refine S.qgm 5 [] [] (.cons (Q_idx (S.arg ht) (l := (t).length) (k := (page).toNat) (i := page) rfl (by omega) (by omega) Tryz.underlying61 (by kernel_rfl)) (.cons (Q_el (S.arg ht) (t := 37) (k := (page).toNat) (by omega) rfl (by kernel_rfl) (by kernel_rfl)) .nil)) 1 [(0, GT.cells (el t ((page).toNat)) ())] ?_; clear S; intro ac w β S
  exact (nt (wr (S.r [GT.val (el t ((page).toNat)) ()] ⟨retV (p := ()) k0_impl_SlotAt, S.chg⟩)))

theorem k0_impl_PageAt {p : Prop} (h : p := by clear S; (first | (unfold f_pageAt; rw [if_pos (by omega)]; done) | (unfold f_pageAt; rw [if_pos (by omega)]; first | rfl | (simp; done)) | (unfold f_pageAt; rw [if_neg (by omega)]; done) | (unfold f_pageAt; rw [if_neg (by omega)]; first | rfl | (simp; done)))) : p := h
set_option maxRecDepth 100000 in
theorem c_impl_PageAt (w0 : World) (m : List (List Int)) (pm : LP (List Int)) (hm : GT.rd KK (Lt w0.heap.size) w0 m pm) (page : Int) : Calls Tryz.prog 176 [slv (m).length pm.1, I page].toArray w0 (Ret1 NoB w0 (f_pageAt m page : List Int)) := by
 refine Calls.walk (args := [slv (m).length pm.1, I page]) NoB Tryz.func176 rfl rfl ?_
 intro ac β S
 have hlem : m.length ≤ 4194304 := LRd.le hm
 refine ws (rg ?_)
 refine S.qe 1 [] [] ?_; clear S; intro ac w β S
 refine (nt (ws (ws (rg ?_))))
 refine S.qg 5 [] [(9, .v (B (!(f_within page 0 (((m).length : Int) - 1)))))] (.cons (Q_call fun w hw => c_impl_has w page ((m).length : Int) (by omega)) .nil) ?_; clear S; intro ac w β S
 refine (nt (S.c (!(f_within page 0 (((m).length : Int) - 1))) (fun h1 => ?_) (fun h1 => ?_)))
 ·have h2 := not_t h1
  have g3 := within_f h2
  refine ws (rg ?_)
  refine RG.op rfl (S.make (α := Int) (m := 4) (by' := 8) (d := 10) (by kernel_rfl) (by omega) (show 4 ≤ 4194304 by omega) ?_)
  clear S; intro ac w N q4 F5 S up o6 d7
  clear up d7
  refine S.qe 1 [] [(4, .v (slv 4 q4.1))] ?_; clear S; intro ac w β S
  exact (nt (wr (rt (S.r [slv 4 q4.1] (ret1_of S (show f_pageAt m page = (List.replicate 4 (GT.dflt : Int)) from k0_impl_PageAt) (by rw [show 4 = ((List.replicate 4 (GT.dflt : Int))).length from (by simp)]; rfl) o6)))))
 ·have h8 := not_f h1
  have g9 := within_t h8
  refine wk (nt (ws (rg ?_)))
  refine S.qb 4 [] [(14, .v (slv ((el m ((page).toNat))).length (pm.2 ((page).toNat)).1))] (.cons (Q_idx (S.arg hm) (l := (m).length) (k := (page).toNat) (i := page) rfl (by omega) (by omega) Tryz.underlying22 (by kernel_rfl)) (.cons (Q_el1 (S.arg hm) (t := 55) (k := (page).toNat) (by omega) rfl (by kernel_rfl)) .nil)) ?_; clear S; intro ac w β S
  refine RG.op rfl (S.call1 (r := (el m ((page).toNat))) (d := 15) (c_impl_copyInts w (el m ((page).toNat)) (pm.2 ((page).toNat)) (S.rd (LRd.el (S.arg hm) ((page).toNat) (by omega)))) (by kernel_rfl) rfl ?_)
  clear S; intro ac w N q10 F11 S up o12 d13
  clear up d13
  refine S.qe 1 [] [(4, .v (slv ((el m ((page).toNat))).length q10.1))] ?_; clear S; intro ac w β S
  exact (nt (wr (S.r [slv ((el m ((page).toNat))).length q10.1] (ret1_of S (show f_pageAt m page = (el m ((page).toNat)) from k0_impl_PageAt) rfl o12))))

theorem k0_impl_PageOf {p : Prop} (h : p := by clear S; (unfold f_pageOf; (repeat' split) <;> first | rfl | (exfalso; omega) | (exfalso; simp_all; done) | (exfalso; simp_all; omega))) : p := h
set_option maxRecDepth 100000 in
theorem c_impl_PageOf (w0 : World) (h : THost) (ph : PHost) (hh : GT.rd KK (Lt w0.heap.size) w0 h ph) (m : Int) (page : Int) : Calls Tryz.prog 144 [GT.val h ph, I m, I page].toArray w0 (Ret1 NoB w0 (f_pageOf h m page : List Int)) := by
 refine Calls.walk (args := [GT.val h ph, I m, I page]) NoB Tryz.func144 rfl rfl ?_
 intro ac β S
 have hleh_mem : h.mem.length ≤ 4194304 := LRd.le (RHost.mem (d := h) hh)
 have hleh_mons : h.mons.length ≤ 4194304 := LRd.le (RHost.mons (d := h) hh)
 have hleh_buf : h.buf.length ≤ 4194304 := LRd.le (RHost.buf (d := h) hh)
 have hleh_iobuf : h.iobuf.length ≤ 4194304 := LRd.le (RHost.iobuf (d := h) hh)
 refine ws (rg ?_)
 refine S.qem 2 [] [(3, .p 0 0)] 1 [(0, GT.cells h ph)] ?_; clear S; intro ac w β S
 refine (nt (ws (ws (rg ?_))))
 refine S.qb 7 [] [(15, .v (B (!(f_within m 0 (((h.mons).length : Int) - 1)))))] (.cons (Q_call fun w hw => c_impl_has w m ((h.mons).length : Int) (by omega)) .nil) ?_; clear S; intro ac w β S
 rcases Bool.eq_false_or_eq_true (!(f_within m 0 (((h.mons).length : Int) - 1))) with h1 | h1 <;> rw [h1] at S
 ·have h2 := not_t h1
  have g3 := within_f h2
  refine S.qe 4 [15] [(19, .v (B true))] ?_; clear S; intro ac w β S
  refine (nt (S.c true (fun _ => ?_) (fun hx => by cases hx)))
  refine ws (rg ?_)
  refine RG.op rfl (S.make (α := Int) (m := 4) (by' := 8) (d := 20) (by kernel_rfl) (by omega) (show 4 ≤ 4194304 by omega) ?_)
  clear S; intro ac w N q4 F5 S up o6 d7
  clear up d7
  refine S.qe 1 [] [(6, .v (slv 4 q4.1))] ?_; clear S; intro ac w β S
  exact (nt (wr (rt (S.r [slv 4 q4.1] (ret1_of S (show f_pageOf h m page = (List.replicate 4 (GT.dflt : Int)) from k0_impl_PageOf) (by rw [show 4 = ((List.replicate 4 (GT.dflt : Int))).length from (by simp)]; rfl) o6)))))
 ·have h8 := not_f h1
  have g9 := within_t h8
  refine S.qg 4 [15] [(19, .v (B (!(f_within page 0 (8 - 1)))))] (.cons (Q_call fun w hw => c_impl_has w page 8 (by omega)) .nil) ?_; clear S; intro ac w β S
  refine (nt (S.c (!(f_within page 0 (8 - 1))) (fun h10 => ?_) (fun h10 => ?_)))
  ·have h11 := not_t h10
   have g12 := within_f h11
   refine ws (rg ?_)
   refine RG.op rfl (S.make (α := Int) (m := 4) (by' := 8) (d := 20) (by kernel_rfl) (by omega) (show 4 ≤ 4194304 by omega) ?_)
   clear S; intro ac w N q13 F14 S up o15 d16
   clear up d16
   refine S.qe 1 [] [(6, .v (slv 4 q13.1))] ?_; clear S; intro ac w β S
   exact (nt (wr (rt (S.r [slv 4 q13.1] (ret1_of S (show f_pageOf h m page = (List.replicate 4 (GT.dflt : Int)) from k0_impl_PageOf) (by rw [show 4 = ((List.replicate 4 (GT.dflt : Int))).length from (by simp)]; rfl) o15)))))
  ·have h17 := not_f h10
   have g18 := within_t h17
   refine wk (nt (ws (rg ?_)))
   refine S.qgm 7 [] [(7, .p 1 0)] (.cons (Q_idx (RHost.mons (d := h) (S.arg hh)) (l := (h.mons).length) (k := (m).toNat) (i := m) rfl (by omega) (by omega) Tryz.underlying30 (by kernel_rfl)) (.cons (Q_el (RHost.mons (d := h) (S.arg hh)) (t := 65) (k := (m).toNat) (by omega) rfl (by kernel_rfl) (by kernel_rfl)) .nil)) 2 [(1, GT.cells (el h.mons ((m).toNat)) (ph.mons.2 ((m).toNat)))] ?_; clear S; intro ac w β S
   refine (nt (ws (ws (rg ?_))))
   refine S.qgm 6 [] [(8, .p 2 0)] (.cons (Q_call fun w hw => c_impl_SlotAt w ((el h.mons ((m).toNat)).outer) ((ph.mons.2 ((m).toNat)).outer) (rd_of (RMon.outer (d := (el h.mons ((m).toNat))) (LRd.el (RHost.mons (d := h) (S.arg hh)) ((m).toNat) (by omega))) hw) page) .nil) 3 [(2, GT.cells (f_slotAt ((el h.mons ((m).toNat)).outer) page) ())] ?_; clear S; intro ac w β S
   refine (nt (ws (rg ?_)))
   refine S.qe 3 [] [(32, .v (B ((f_slotAt ((el h.mons ((m).toNat)).outer) page).page != (-1))))] ?_; clear S; intro ac w β S
   refine (nt (S.c ((f_slotAt ((el h.mons ((m).toNat)).outer) page).page != (-1)) (fun h19 => ?_) (fun h19 => ?_)))
   ·have g20 : ¬ ((f_slotAt ((el h.mons ((m).toNat)).outer) page).page = (-1)) := bne_iff_ne.1 h19
    refine ws (rg ?_)
    refine S.qam 4 [] [(34, .v (slv (h.mem).length ph.mem.1)), (36, .v (I ((f_slotAt ((el h.mons ((m).toNat)).outer) page).page)))] 0 [] ?_; clear S; intro ac w β S
    refine RG.op rfl (S.call1 (r := f_pageAt h.mem ((f_slotAt ((el h.mons ((m).toNat)).outer) page).page)) (d := 37) (c_impl_PageAt w h.mem ph.mem (S.rd (RHost.mem (d := h) (S.arg hh))) ((f_slotAt ((el h.mons ((m).toNat)).outer) page).page)) (by kernel_rfl) rfl ?_)
    clear S; intro ac w N q21 F22 S up o23 d24
    clear up d24
    refine S.qe 1 [] [(6, .v (slv ((f_pageAt h.mem ((f_slotAt ((el h.mons ((m).toNat)).outer) page).page))).length q21.1))] ?_; clear S; intro ac w β S
    exact (nt (wr (rt (S.r [slv ((f_pageAt h.mem ((f_slotAt ((el h.mons ((m).toNat)).outer) page).page))).length q21.1] (ret1_of S (show f_pageOf h m page = (f_pageAt h.mem ((f_slotAt ((el h.mons ((m).toNat)).outer) page).page)) from k0_impl_PageOf) rfl o23)))))
   ·have g25 : (f_slotAt ((el h.mons ((m).toNat)).outer) page).page = (-1) := ne_f h19
    refine wk (nt (ws (rg ?_)))
    refine S.qam 3 [] [(39, .v (slv ((el h.mons ((m).toNat)).out).length ((ph.mons.2 ((m).toNat)).out).1)), (40, .v (I page))] 0 [] ?_; clear S; intro ac w β S
    refine RG.op rfl (S.call1 (r := f_pageAt ((el h.mons ((m).toNat)).out) page) (d := 41) (c_impl_PageAt w ((el h.mons ((m).toNat)).out) ((ph.mons.2 ((m).toNat)).out) (S.rd (RMon.out (d := (el h.mons ((m).toNat))) (LRd.el (RHost.mons (d := h) (S.arg hh)) ((m).toNat) (by omega)))) page) (by kernel_rfl) rfl ?_)
    clear S; intro ac w N q26 F27 S up o28 d29
    clear up d29
    refine S.qe 1 [] [(6, .v (slv ((f_pageAt ((el h.mons ((m).toNat)).out) page)).length q26.1))] ?_; clear S; intro ac w β S
    exact (nt (wr (S.r [slv ((f_pageAt ((el h.mons ((m).toNat)).out) page)).length q26.1] (ret1_of S (show f_pageOf h m page = (f_pageAt ((el h.mons ((m).toNat)).out) page) from k0_impl_PageOf) rfl o28))))

theorem k0_impl_SeenAs {p : Prop} (h : p := by clear S; (first | (unfold f_seenAs; rw [if_neg (monAt_f (by assumption))]; done) | (unfold f_seenAs; rw [if_pos (monAt_t (by assumption)), monAt_1 (monAt_t (by assumption)), hacc, show i = 8 by omega]))) : p := h
set_option maxRecDepth 100000 in
theorem c_impl_SeenAs (w0 : World) (h : THost) (ph : PHost) (hh : GT.rd KK (Lt w0.heap.size) w0 h ph) (m : Int) : Calls Tryz.prog 83 [GT.val h ph, I m].toArray w0 (Ret1 NoB w0 (f_seenAs h m : TBare)) := by
 refine Calls.walk (args := [GT.val h ph, I m]) NoB Tryz.func83 rfl rfl ?_
 intro ac β S
 have hleh_mem : h.mem.length ≤ 4194304 := LRd.le (RHost.mem (d := h) hh)
 have hleh_mons : h.mons.length ≤ 4194304 := LRd.le (RHost.mons (d := h) hh)
 have hleh_buf : h.buf.length ≤ 4194304 := LRd.le (RHost.buf (d := h) hh)
 have hleh_iobuf : h.iobuf.length ≤ 4194304 := LRd.le (RHost.iobuf (d := h) hh)
 refine ws (rg ?_)
 refine S.qem 2 [] [(2, .p 0 0), (4, .p 1 0)] 2 [(0, GT.cells h ph), (1, Zc TBare)] ?_; clear S; intro ac w β S
 refine (nt (ws (rg ?_)))
 refine S.qa 2 [] [(10, .v (GT.val h ph)), (11, .v (I m))] ?_; clear S; intro ac w β S
 refine RG.op rfl (S.call2 (r := (f_monAt h m).1) (r' := (f_monAt h m).2) (d := 12) (c_impl_MonAt w h ph (S.rd (S.arg hh)) m) (by kernel_rfl) rfl ?_)
 clear S; intro ac w N q1 q2 F3 F4 S up o5 o6 d7 d8 d9
 clear up d7
 clear d8
 have i25 : In64 ((f_monAt h m).1).pend := RMon.pend (d := ((f_monAt h m).1)) o5.rn
 have i26 : In64 ((f_monAt h m).1).traps := RMon.traps (d := ((f_monAt h m).1)) o5.rn
 have i30 : In64 ((f_monAt h m).1).owned := RMon.owned (d := ((f_monAt h m).1)) o5.rn
 obtain ⟨F10, F13, F16, F19, F22, F27, o11, o14, o17, o20, o23, o28, s12, s15, s18, s21, s24, s29, d31, d32, d33, d34, d35, d36, d37, d38, d39, d40, d41, d42, d43, d44, d45⟩ := sp_Mon o5
 refine S.qem 6 [] [(5, .p 2 0), (6, .v (B ((f_monAt h m).2)))] 3 [(2, [slv (((f_monAt h m).1).outer).length q1.outer.1, slv (((f_monAt h m).1).out).length q1.out.1, slv (((f_monAt h m).1).dirty).length q1.dirty.1, slv (((f_monAt h m).1).guests).length q1.guests.1, slv (((f_monAt h m).1).outs).length q1.outs.1, I (((f_monAt h m).1).pend), I (((f_monAt h m).1).traps), slv (((f_monAt h m).1).tables).length q1.tables.1, I (((f_monAt h m).1).owned)])] ?_; clear S; intro ac w β S
 refine (nt (ws (ws (rg ?_))))
 refine S.qe 2 [] [(16, .v (B (!((f_monAt h m).2))))] ?_; clear S; intro ac w β S
 refine (nt (S.c (!((f_monAt h m).2)) (fun h46 => ?_) (fun h46 => ?_)))
 ·have h47 := not_t h46
  refine ws (rg ?_)
  refine S.qgm 2 [] [] (.cons (Q_sem (s := Instr.build 57 [].toArray) (v := .agg [slv (([] : List (List Int))).length (GT.pdflt (α := List (List Int))).1, slv (([] : List TGuest)).length (GT.pdflt (α := List TGuest)).1, slv (([] : List Int)).length (GT.pdflt (α := List Int)).1, I 0].toArray) (fun w => by kernel_rfl)) .nil) 2 [(1, [slv (([] : List (List Int))).length (GT.pdflt (α := List (List Int))).1, slv (([] : List TGuest)).length (GT.pdflt (α := List TGuest)).1, slv (([] : List Int)).length (GT.pdflt (α := List Int)).1, I 0])] ?_; clear S; intro ac w β S
  refine (nt (wr (rt (S.r [GT.val (⟨([] : List (List Int)), ([] : List TGuest), ([] : List Int), 0⟩ : TBare) (⟨(GT.pdflt (α := List (List Int))), (GT.pdflt (α := List TGuest)), (GT.pdflt (α := List Int))⟩ : PBare)] ?_))))
  have o48 := S.nilOw (α := List Int)
  have o49 := S.nilOw (α := TGuest)
  have o50 := S.nilOw (α := Int)
  have o51 := ow_Bare (x := (⟨([] : List (List Int)), ([] : List TGuest), ([] : List Int), 0⟩ : TBare)) (p := (⟨(GT.pdflt (α := List (List Int))), (GT.pdflt (α := List TGuest)), (GT.pdflt (α := List Int))⟩ : PBare)) o48 o49 o50 (fun b _ h => False.elim h) (fun b _ h => False.elim h) (fun b _ h => False.elim h) (show In64 0 from ⟨by decide, by decide⟩)
  exact ret1_of S (show f_seenAs h m = (⟨([] : List (List Int)), ([] : List TGuest), ([] : List Int), 0⟩ : TBare) from k0_impl_SeenAs) rfl o51
 ·have h52 := not_f h46
  refine wk (nt (ws (rg ?_)))
  refine S.qgm 9 [] [(7, .p 3 0)] (.cons (Q_sem (s := Instr.build 57 [(1, slv (((f_monAt h m).1).guests).length q1.guests.1), (2, slv (((f_monAt h m).1).outs).length q1.outs.1), (3, I (((f_monAt h m).1).pend))].toArray) (v := .agg [slv (([] : List (List Int))).length (GT.pdflt (α := List (List Int))).1, slv (((f_monAt h m).1).guests).length q1.guests.1, slv (((f_monAt h m).1).outs).length q1.outs.1, I (((f_monAt h m).1).pend)].toArray) (fun w => by kernel_rfl)) .nil) 4 [(3, [slv (([] : List (List Int))).length (GT.pdflt (α := List (List Int))).1, slv (((f_monAt h m).1).guests).length q1.guests.1, slv (((f_monAt h m).1).outs).length q1.outs.1, I (((f_monAt h m).1).pend)])] ?_; clear S; intro ac w β S
  refine (nt (ws (ws (rg ?_))))
  refine S.qe 1 [] [(8, .v (I 0))] ?_; clear S; intro ac w β S
  refine (nt (wp_block ?_))
  have o56 := S.nilOw (α := List Int)
  refine wp_loop_down (fun mm ac w => ∃ (i : Nat) (acc : List (List Int)) (q53 : GT.Ptr (List (List Int))) (F54 : Bl) (u : World) (N : Bl) (β : Nat → Nat), mm = 8 - i ∧ (i ≤ 8) ∧ (acc = (List.range i).map (fun (j : Nat) => f_pageOf h m (j : Int))) ∧ St Tryz.prog Tryz.f83.ntmps w0 NoB u N β ⟨[(1, .v (I m)), (2, .p 0 0), (4, .p 1 0), (7, .p 3 0), (8, .v (I (i : Int)))], [GT.cells h ph, Zc TBare, [slv (((f_monAt h m).1).outer).length q1.outer.1, slv (((f_monAt h m).1).out).length q1.out.1, slv (((f_monAt h m).1).dirty).length q1.dirty.1, slv (((f_monAt h m).1).guests).length q1.guests.1, slv (((f_monAt h m).1).outs).length q1.outs.1, I (((f_monAt h m).1).pend), I (((f_monAt h m).1).traps), slv (((f_monAt h m).1).tables).length q1.tables.1, I (((f_monAt h m).1).owned)], [slv (acc).length q53.1, slv (((f_monAt h m).1).guests).length q1.guests.1, slv (((f_monAt h m).1).outs).length q1.outs.1, I (((f_monAt h m).1).pend)]]⟩ ac w ∧ Ow w0 NoB u N F54 acc q53 ∧ Ow w0 NoB u N F10 (((f_monAt h m).1).outer) q1.outer ∧ Ow w0 NoB u N F13 (((f_monAt h m).1).out) q1.out ∧ Ow w0 NoB u N F16 (((f_monAt h m).1).dirty) q1.dirty ∧ Ow w0 NoB u N F19 (((f_monAt h m).1).guests) q1.guests ∧ Ow w0 NoB u N F22 (((f_monAt h m).1).outs) q1.outs ∧ Ow w0 NoB u N F27 (((f_monAt h m).1).tables) q1.tables ∧ Disj F54 F10 ∧ Disj F54 F13 ∧ Disj F54 F16 ∧ Disj F54 F19 ∧ Disj F54 F22 ∧ Disj F54 F27) _ ⟨0, ([] : List (List Int)), (GT.pdflt (α := List (List Int))), NoB, _, _, _, rfl, (by first | omega | (simp; done) | (simp; omega)), (by rfl), S.z, o56, o11, o14, o17, o20, o23, o28, (Disj.symm (fun b _ h => False.elim h)), (Disj.symm (fun b _ h => False.elim h)), (Disj.symm (fun b _ h => False.elim h)), (Disj.symm (fun b _ h => False.elim h)), (Disj.symm (fun b _ h => False.elim h)), (Disj.symm (fun b _ h => False.elim h))⟩ ?_
  clear S o11 o14 o17 o20 o23 o28 o56 o6
  rintro mm ac w ⟨i, acc, q53, F54, u, N, β, rfl, hi, hacc, S, o55, o11, o14, o17, o20, o23, o28, d57, d58, d59, d60, d61, d62⟩
  have hlacc : acc.length = i := by rw [hacc]; simp
  refine ws (ws (rg ?_))
  refine S.qe 2 [] [(26, .v (B (decide ((i : Int) < 8))))] ?_; clear S; intro ac w β S
  refine (nt (S.c (decide ((i : Int) < 8)) (fun h63 => ?_) (fun h63 => ?_)))
  ·have g64 := of_decide_eq_true h63
   refine wk (nt (ws (wp_block ?_)))
   refine S.draw0 (f := 10) 7 rfl rfl ?_
   clear S; intro w S
   refine S.hoist (i := 0) (path := [1, 0]) (keep := [1, 2, 4, 7, 8, 29]) (m := 4) (σ' := ⟨[(1, .v (I m)), (2, .p 0 0), (4, .p 1 0), (7, .p 3 0), (8, .v (I (i : Int))), (29, .p 3 0)], [GT.cells h ph, Zc TBare, [slv (((f_monAt h m).1).outer).length q1.outer.1, slv (((f_monAt h m).1).out).length q1.out.1, slv (((f_monAt h m).1).dirty).length q1.dirty.1, slv (((f_monAt h m).1).guests).length q1.guests.1, slv (((f_monAt h m).1).outs).length q1.outs.1, I (((f_monAt h m).1).pend), I (((f_monAt h m).1).traps), slv (((f_monAt h m).1).tables).length q1.tables.1, I (((f_monAt h m).1).owned)], [slv (acc).length q53.1, slv (((f_monAt h m).1).guests).length q1.guests.1, slv (((f_monAt h m).1).outs).length q1.outs.1, I (((f_monAt h m).1).pend)]]⟩) (by kernel_rfl) (by kernel_rfl) .nil (by kernel_rfl) ?_
   clear S; intro ac S
   refine S.hoist (i := 1) (path := [1]) (keep := [1, 2, 4, 7, 8, 30]) (m := 4) (σ' := ⟨[(1, .v (I m)), (2, .p 0 0), (4, .p 1 0), (7, .p 3 0), (8, .v (I (i : Int))), (30, .v (slv (acc).length q53.1))], [GT.cells h ph, Zc TBare, [slv (((f_monAt h m).1).outer).length q1.outer.1, slv (((f_monAt h m).1).out).length q1.out.1, slv (((f_monAt h m).1).dirty).length q1.dirty.1, slv (((f_monAt h m).1).guests).length q1.guests.1, slv (((f_monAt h m).1).outs).length q1.outs.1, I (((f_monAt h m).1).pend), I (((f_monAt h m).1).traps), slv (((f_monAt h m).1).tables).length q1.tables.1, I (((f_monAt h m).1).owned)], [slv (acc).length q53.1, slv (((f_monAt h m).1).guests).length q1.guests.1, slv (((f_monAt h m).1).outs).length q1.outs.1, I (((f_monAt h m).1).pend)]]⟩) (by kernel_rfl) (by kernel_rfl) .nil (by kernel_rfl) ?_
   clear S; intro ac S
   refine S.hoist (i := 2) (path := [5, 2]) (keep := [1, 2, 4, 7, 8, 30, 31]) (m := 4) (σ' := ⟨[(1, .v (I m)), (2, .p 0 0), (4, .p 1 0), (7, .p 3 0), (8, .v (I (i : Int))), (30, .v (slv (acc).length q53.1)), (31, .v (GT.val h ph))], [GT.cells h ph, Zc TBare, [slv (((f_monAt h m).1).outer).length q1.outer.1, slv (((f_monAt h m).1).out).length q1.out.1, slv (((f_monAt h m).1).dirty).length q1.dirty.1, slv (((f_monAt h m).1).guests).length q1.guests.1, slv (((f_monAt h m).1).outs).length q1.outs.1, I (((f_monAt h m).1).pend), I (((f_monAt h m).1).traps), slv (((f_monAt h m).1).tables).length q1.tables.1, I (((f_monAt h m).1).owned)], [slv (acc).length q53.1, slv (((f_monAt h m).1).guests).length q1.guests.1, slv (((f_monAt h m).1).outs).length q1.outs.1, I (((f_monAt h m).1).pend)]]⟩) (by kernel_rfl) (by kernel_rfl) .nil (by kernel_rfl) ?_
   clear S; intro ac S
   refine S.hoist (i := 3) (path := [5, 3]) (keep := [1, 2, 4, 7, 8, 30, 31, 32]) (m := 4) (σ' := ⟨[(1, .v (I m)), (2, .p 0 0), (4, .p 1 0), (7, .p 3 0), (8, .v (I (i : Int))), (30, .v (slv (acc).length q53.1)), (31, .v (GT.val h ph)), (32, .v (I m))], [GT.cells h ph, Zc TBare, [slv (((f_monAt h m).1).outer).length q1.outer.1, slv (((f_monAt h m).1).out).length q1.out.1, slv (((f_monAt h m).1).dirty).length q1.dirty.1, slv (((f_monAt h m).1).guests).length q1.guests.1, slv (((f_monAt h m).1).outs).length q1.outs.1, I (((f_monAt h m).1).pend), I (((f_monAt h m).1).traps), slv (((f_monAt h m).1).tables).length q1.tables.1, I (((f_monAt h m).1).owned)], [slv (acc).length q53.1, slv (((f_monAt h m).1).guests).length q1.guests.1, slv (((f_monAt h m).1).outs).length q1.outs.1, I (((f_monAt h m).1).pend)]]⟩) (by kernel_rfl) (by kernel_rfl) .nil (by kernel_rfl) ?_
   clear S; intro ac S
   refine S.hoist (i := 4) (path := [5, 4]) (keep := [1, 2, 4, 7, 8, 30, 31, 32, 33]) (m := 4) (σ' := ⟨[(1, .v (I m)), (2, .p 0 0), (4, .p 1 0), (7, .p 3 0), (8, .v (I (i : Int))), (30, .v (slv (acc).length q53.1)), (31, .v (GT.val h ph)), (32, .v (I m)), (33, .v (I (i : Int)))], [GT.cells h ph, Zc TBare, [slv (((f_monAt h m).1).outer).length q1.outer.1, slv (((f_monAt h m).1).out).length q1.out.1, slv (((f_monAt h m).1).dirty).length q1.dirty.1, slv (((f_monAt h m).1).guests).length q1.guests.1, slv (((f_monAt h m).1).outs).length q1.outs.1, I (((f_monAt h m).1).pend), I (((f_monAt h m).1).traps), slv (((f_monAt h m).1).tables).length q1.tables.1, I (((f_monAt h m).1).owned)], [slv (acc).length q53.1, slv (((f_monAt h m).1).guests).length q1.guests.1, slv (((f_monAt h m).1).outs).length q1.outs.1, I (((f_monAt h m).1).pend)]]⟩) (by kernel_rfl) (by kernel_rfl) .nil (by kernel_rfl) ?_
   clear S; intro ac S
   refine WD.one (i := 5) (by kernel_rfl) ?_
   refine id (S.call1 (r := f_pageOf h m (i : Int)) (d := 34) (c_impl_PageOf w h ph (S.rd (S.arg hh)) m (i : Int)) (by kernel_rfl) rfl ?_)
   clear S; intro ac w N q65 F66 S up o67 d68
   refine WD.next S up rfl ?_
   have d69 : Disj F54 F66 := fun b x y => d68 b (o55.sub b x) y
   have d70 : Disj F10 F66 := fun b x y => d68 b (o11.sub b x) y
   have d71 : Disj F13 F66 := fun b x y => d68 b (o14.sub b x) y
   have d72 : Disj F16 F66 := fun b x y => d68 b (o17.sub b x) y
   have d73 : Disj F19 F66 := fun b x y => d68 b (o20.sub b x) y
   have d74 : Disj F22 F66 := fun b x y => d68 b (o23.sub b x) y
   have d75 : Disj F27 F66 := fun b x y => d68 b (o28.sub b x) y
   replace o55 := o55.up up
   replace o11 := o11.up up
   replace o14 := o14.up up
   replace o17 := o17.up up
   replace o20 := o20.up up
   replace o23 := o23.up up
   replace o28 := o28.up up
   clear up d68
   refine WD.one (i := 6) (by kernel_rfl) ?_
   refine id (S.bs1 (α := List Int) (x := (f_pageOf h m (i : Int))) (p := q65) o67.own o67.sub o67.young (d := 35) (by kernel_rfl) ?_)
   clear S; intro ac w N q76 F77 S up o78 d79
   refine WD.next S up rfl ?_
   have d80 : Disj F54 F77 := d79 _ d69 o55.sub
   have d81 : Disj F10 F77 := d79 _ d70 o11.sub
   have d82 : Disj F13 F77 := d79 _ d71 o14.sub
   have d83 : Disj F16 F77 := d79 _ d72 o17.sub
   have d84 : Disj F19 F77 := d79 _ d73 o20.sub
   have d85 : Disj F22 F77 := d79 _ d74 o23.sub
   have d86 : Disj F27 F77 := d79 _ d75 o28.sub
   replace o55 := o55.up up
   replace o11 := o11.up up
   replace o14 := o14.up up
   replace o17 := o17.up up
   replace o20 := o20.up up
   replace o23 := o23.up up
   replace o28 := o28.up up
   clear up d79
   refine WD.one (i := 7) (by kernel_rfl) ?_
   refine id (S.appOwn (α := List Int) o55 o78 d80 (by' := 24) (d := 36) (lx := (acc).length) (ly := 1) rfl rfl (by kernel_rfl) (show _ ≤ 4194304 by simp only [List.length_append, List.length_cons, List.length_nil]; omega) ?_)
   clear S; intro ac w N q87 F88 S up o89 d90
   refine WD.last (by kernel_rfl) ?_
   have d91 : Disj F10 F88 := d90 _ (Disj.symm d57) d81 o11.sub
   have d92 : Disj F13 F88 := d90 _ (Disj.symm d58) d82 o14.sub
   have d93 : Disj F16 F88 := d90 _ (Disj.symm d59) d83 o17.sub
   have d94 : Disj F19 F88 := d90 _ (Disj.symm d60) d84 o20.sub
   have d95 : Disj F22 F88 := d90 _ (Disj.symm d61) d85 o23.sub
   have d96 : Disj F27 F88 := d90 _ (Disj.symm d62) d86 o28.sub
   replace o11 := o11.upF (Disj.symm d57) up
   replace o14 := o14.upF (Disj.symm d58) up
   replace o17 := o17.upF (Disj.symm d59) up
   replace o20 := o20.upF (Disj.symm d60) up
   replace o23 := o23.upF (Disj.symm d61) up
   replace o28 := o28.upF (Disj.symm d62) up
   clear up d90
   refine WD.one (i := 8) (by kernel_rfl) ?_
   refine S.stepq (i := 8) (keep := [1, 2, 4, 7, 8, 36, 37]) (m := 4) (σ' := ⟨[(1, .v (I m)), (2, .p 0 0), (4, .p 1 0), (7, .p 3 0), (8, .v (I (i : Int))), (36, .v (slv ((acc ++ [(f_pageOf h m (i : Int))])).length q87.1)), (37, .p 3 0)], [GT.cells h ph, Zc TBare, [slv (((f_monAt h m).1).outer).length q1.outer.1, slv (((f_monAt h m).1).out).length q1.out.1, slv (((f_monAt h m).1).dirty).length q1.dirty.1, slv (((f_monAt h m).1).guests).length q1.guests.1, slv (((f_monAt h m).1).outs).length q1.outs.1, I (((f_monAt h m).1).pend), I (((f_monAt h m).1).traps), slv (((f_monAt h m).1).tables).length q1.tables.1, I (((f_monAt h m).1).owned)], [slv (acc).length q53.1, slv (((f_monAt h m).1).guests).length q1.guests.1, slv (((f_monAt h m).1).outs).length q1.outs.1, I (((f_monAt h m).1).pend)]]⟩) .nil (by kernel_rfl) ?_
   clear S; intro ac w β S hβ
   refine WD.last (by kernel_rfl) ?_
   clear hβ
   refine WD.one (i := 9) (by kernel_rfl) ?_
   refine S.stepq (i := 9) (keep := [1, 2, 4, 7, 8]) (m := 4) (σ' := ⟨[(1, .v (I m)), (2, .p 0 0), (4, .p 1 0), (7, .p 3 0), (8, .v (I (i : Int)))], [GT.cells h ph, Zc TBare, [slv (((f_monAt h m).1).outer).length q1.outer.1, slv (((f_monAt h m).1).out).length q1.out.1, slv (((f_monAt h m).1).dirty).length q1.dirty.1, slv (((f_monAt h m).1).guests).length q1.guests.1, slv (((f_monAt h m).1).outs).length q1.outs.1, I (((f_monAt h m).1).pend), I (((f_monAt h m).1).traps), slv (((f_monAt h m).1).tables).length q1.tables.1, I (((f_monAt h m).1).owned)], [slv ((acc ++ [(f_pageOf h m (i : Int))])).length q87.1, slv (((f_monAt h m).1).guests).length q1.guests.1, slv (((f_monAt h m).1).outs).length q1.outs.1, I (((f_monAt h m).1).pend)]]⟩) .nil (by kernel_rfl) ?_
   clear S; intro ac w β S hβ
   refine WD.last (by kernel_rfl) ?_
   clear hβ
   refine WD.done (by kernel_rfl) ?_ _
   refine id (nb (nt (rg ?_)))
   refine S.qg 3 [] [(8, .v (I ((i : Int) + 1)))] (.cons (Q_add (x := (i : Int)) (y := 1) ⟨by omega, by omega⟩) .nil) ?_; clear S; intro ac w β S
   refine (nt ?_)
   refine ⟨8 - (i + 1), by omega, i + 1, (acc ++ [(f_pageOf h m (i : Int))]), q87, F88, _, _, _, rfl, ?_, ?_, S.z, o89, o11, o14, o17, o20, o23, o28, (Disj.symm d91), (Disj.symm d92), (Disj.symm d93), (Disj.symm d94), (Disj.symm d95), (Disj.symm d96)⟩
   ·clear S; first | omega | (simp [*]; done) | (simp [*]; omega)
   ·clear S; (rw [rmap_step, ← hacc])
  ·have g97 := of_decide_eq_false h63
   refine wp_exit (ex_then (ex_then (ex_hit (nt (ws (rg ?_))))))
   refine S.qem 2 [] [] 2 [(1, [slv (acc).length q53.1, slv (((f_monAt h m).1).guests).length q1.guests.1, slv (((f_monAt h m).1).outs).length q1.outs.1, I (((f_monAt h m).1).pend)])] ?_; clear S; intro ac w β S
   refine (nt (wr (S.r [GT.val (⟨acc, ((f_monAt h m).1).guests, ((f_monAt h m).1).outs, ((f_monAt h m).1).pend⟩ : TBare) (⟨q53, q1.guests, q1.outs⟩ : PBare)] ?_)))
   have o98 := ow_Bare (x := (⟨acc, ((f_monAt h m).1).guests, ((f_monAt h m).1).outs, ((f_monAt h m).1).pend⟩ : TBare)) (p := (⟨q53, q1.guests, q1.outs⟩ : PBare)) o55 o20 o23 d60 d61 d43 i25
   exact ret1_of S (show f_seenAs h m = (⟨acc, ((f_monAt h m).1).guests, ((f_monAt h m).1).outs, ((f_monAt h m).1).pend⟩ : TBare) from k0_impl_SeenAs) rfl o98

theorem k0_impl_reflected {p : Prop} (h : p := by clear S; (first | (unfold f_reflected; rw [if_neg (by rintro ⟨⟨h1, h2, h3⟩, h4⟩; first | omega | simp_all)]; done) | (unfold f_reflected; rw [if_pos ⟨⟨by assumption, by omega, by omega⟩, by assumption⟩]; unfold f_back; rw [← back_two (by omega)]; done) | (unfold f_reflected; rw [if_pos ⟨⟨by assumption, by omega, by omega⟩, by assumption⟩]; done))) : p := h
set_option maxRecDepth 100000 in
theorem c_impl_reflected (w0 : World) (h : THost) (ph : PHost) (hh : GT.rd KK (Lt w0.heap.size) w0 h ph) (m : Int) (g : Int) (qg : LP Int) (hg : GT.rd KK (Lt w0.heap.size) w0 [g] qg) (v : Int) (qv : LP Int) (hv : GT.rd KK (Lt w0.heap.size) w0 [v] qv) : Calls Tryz.prog 38 [GT.val h ph, I m, .func (.func 57) #[] #[pt qg.1.b (qg.1.off + 0 * 1), pt qv.1.b (qv.1.off + 0 * 1)]].toArray w0 (Ret2 NoB w0 ((f_reflected h m (f_bareAnswer (f_seenAs h m) g v)).1 : THost) ((f_reflected h m (f_bareAnswer (f_seenAs h m) g v)).2 : Bool)) := by
 refine Calls.walk (args := [GT.val h ph, I m, .func (.func 57) #[] #[pt qg.1.b (qg.1.off + 0 * 1), pt qv.1.b (qv.1.off + 0 * 1)]]) NoB Tryz.func38 rfl rfl ?_
 intro ac β S
 have hleh_mem : h.mem.length ≤ 4194304 := LRd.le (RHost.mem (d := h) hh)
 have hleh_mons : h.mons.length ≤ 4194304 := LRd.le (RHost.mons (d := h) hh)
 have hleh_buf : h.buf.length ≤ 4194304 := LRd.le (RHost.buf (d := h) hh)
 have hleh_iobuf : h.iobuf.length ≤ 4194304 := LRd.le (RHost.iobuf (d := h) hh)
 refine ws (rg ?_)
 refine S.qem 3 [] [(3, .p 0 0), (6, .p 1 0)] 2 [(0, GT.cells h ph), (1, Zc THost)] ?_; clear S; intro ac w β S
 refine (nt (ws (rg ?_)))
 refine S.qa 1 [] [(11, .v (GT.val h ph))] ?_; clear S; intro ac w β S
 refine RG.op rfl (S.call1 (r := h) (d := 12) (c_impl_copyHost w h ph (S.rd (S.arg hh))) (by kernel_rfl) rfl ?_)
 clear S; intro ac w N q1 F2 S up o3 d4
 clear up d4
 obtain ⟨F5, F8, F11, F14, o6, o9, o12, o15, s7, s10, s13, s16, d17, d18, d19, d20, d21, d22⟩ := sp_Host o3
 refine S.qem 2 [] [(8, .p 2 0)] 3 [(2, [slv (h.mem).length q1.mem.1, slv (h.mons).length q1.mons.1, slv (h.buf).length q1.buf.1, slv (h.iobuf).length q1.iobuf.1])] ?_; clear S; intro ac w β S
 refine (nt (ws (ws (rg ?_))))
 refine S.qb 4 [] [(16, .v (B (!(f_hostOk h))))] (.cons (Q_call fun w hw => c_impl_HostOk w h ph (rd_of (S.arg hh) hw)) .nil) ?_; clear S; intro ac w β S
 rcases Bool.eq_false_or_eq_true (!(f_hostOk h)) with h23 | h23 <;> rw [h23] at S
 ·have h24 := not_t h23
  refine S.qe 7 [16] [(23, .v (B true))] ?_; clear S; intro ac w β S
  refine (nt (S.c true (fun _ => ?_) (fun hx => by cases hx)))
  refine ws (rg ?_)
  refine S.qem 3 [] [(7, .v (B false))] 2 [(1, [slv (h.mem).length q1.mem.1, slv (h.mons).length q1.mons.1, slv (h.buf).length q1.buf.1, slv (h.iobuf).length q1.iobuf.1])] ?_; clear S; intro ac w β S
  refine (nt (wr (rt (S.r [GT.val h q1, B false] ?_))))
  have o25 := ow_Host (x := h) (p := q1) o6 o9 o12 o15 d17 d18 d19 d20 d21 d22 
  exact ret2_of (p' := ()) S (show (f_reflected h m (f_bareAnswer (f_seenAs h m) g v)).1 = h from k0_impl_reflected) (show (f_reflected h m (f_bareAnswer (f_seenAs h m) g v)).2 = false from k0_impl_reflected) rfl rfl o25 trivial
 ·have h26 := not_f h23
  have g27 := hostOk_t h26
  refine S.qg 7 [16] [(23, .v (B (!(f_within m 0 (((h.mons).length : Int) - 1)))))] (.cons (Q_call fun w hw => c_impl_has w m ((h.mons).length : Int) (by omega)) .nil) ?_; clear S; intro ac w β S
  refine (nt (S.c (!(f_within m 0 (((h.mons).length : Int) - 1))) (fun h28 => ?_) (fun h28 => ?_)))
  ·have h29 := not_t h28
   have g30 := within_f h29
   refine ws (rg ?_)
   refine S.qem 3 [] [(7, .v (B false))] 2 [(1, [slv (h.mem).length q1.mem.1, slv (h.mons).length q1.mons.1, slv (h.buf).length q1.buf.1, slv (h.iobuf).length q1.iobuf.1])] ?_; clear S; intro ac w β S
   refine (nt (wr (rt (S.r [GT.val h q1, B false] ?_))))
   have o31 := ow_Host (x := h) (p := q1) o6 o9 o12 o15 d17 d18 d19 d20 d21 d22 
   exact ret2_of (p' := ()) S (show (f_reflected h m (f_bareAnswer (f_seenAs h m) g v)).1 = h from k0_impl_reflected) (show (f_reflected h m (f_bareAnswer (f_seenAs h m) g v)).2 = false from k0_impl_reflected) rfl rfl o31 trivial
  ·have h32 := not_f h28
   have g33 := within_t h32
   refine wk (nt (ws (rg ?_)))
   refine S.qa 3 [] [(26, .v (.func (.func 57) #[] #[pt qg.1.b (qg.1.off + 0 * 1), pt qv.1.b (qv.1.off + 0 * 1)])), (27, .v (GT.val h ph)), (28, .v (I m))] ?_; clear S; intro ac w β S
   refine RG.op rfl (S.call1 (r := f_seenAs h m) (d := 29) (c_impl_SeenAs w h ph (S.rd (S.arg hh)) m) (by kernel_rfl) rfl ?_)
   clear S; intro ac w N q34 F35 S up o36 d37
   have d38 : Disj F5 F35 := fun b x y => d37 b (o6.sub b x) y
   have d39 : Disj F8 F35 := fun b x y => d37 b (o9.sub b x) y
   have d40 : Disj F11 F35 := fun b x y => d37 b (o12.sub b x) y
   have d41 : Disj F14 F35 := fun b x y => d37 b (o15.sub b x) y
   replace o6 := o6.up up
   replace o9 := o9.up up
   replace o12 := o12.up up
   replace o15 := o15.up up
   clear up d37
   have i51 : In64 (f_seenAs h m).pend := RBare.pend (d := (f_seenAs h m)) o36.rn
   obtain ⟨F42, F45, F48, o43, o46, o49, s44, s47, s50, d52, d53, d54⟩ := sp_Bare o36
   refine RG.op rfl (S.call2 (r := (f_bareAnswer (f_seenAs h m) g v).1) (r' := (f_bareAnswer (f_seenAs h m) g v).2) (d := 30) (c_impl_HostAnswer_1 w (f_seenAs h m) q34 (S.rd (show GT.rd KK _ _ (f_seenAs h m) q34 from ⟨o43.rn, o46.rn, o49.rn, i51⟩)) g qg (S.rd (S.arg hg)) v qv (S.rd (S.arg hv))) (by kernel_rfl) rfl ?_)
   clear S; intro ac w N q55 q56 F57 F58 S up o59 o60 d61 d62 d63
   have d64 : Disj F5 F58 := fun b x y => d62 b (o6.sub b x) y
   have d65 : Disj F8 F58 := fun b x y => d62 b (o9.sub b x) y
   have d66 : Disj F11 F58 := fun b x y => d62 b (o12.sub b x) y
   have d67 : Disj F14 F58 := fun b x y => d62 b (o15.sub b x) y
   have d68 : Disj F42 F58 := fun b x y => d62 b (o43.sub b x) y
   have d69 : Disj F45 F58 := fun b x y => d62 b (o46.sub b x) y
   have d70 : Disj F48 F58 := fun b x y => d62 b (o49.sub b x) y
   have d71 : Disj F5 F57 := fun b x y => d61 b (o6.sub b x) y
   have d72 : Disj F8 F57 := fun b x y => d61 b (o9.sub b x) y
   have d73 : Disj F11 F57 := fun b x y => d61 b (o12.sub b x) y
   have d74 : Disj F14 F57 := fun b x y => d61 b (o15.sub b x) y
   have d75 : Disj F42 F57 := fun b x y => d61 b (o43.sub b x) y
   have d76 : Disj F45 F57 := fun b x y => d61 b (o46.sub b x) y
   have d77 : Disj F48 F57 := fun b x y => d61 b (o49.sub b x) y
   replace o6 := o6.up up
   replace o9 := o9.up up
   replace o12 := o12.up up
   replace o15 := o15.up up
   replace o43 := o43.up up
   replace o46 := o46.up up
   replace o49 := o49.up up
   clear up d61
   clear d62
   have i87 : In64 ((f_bareAnswer (f_seenAs h m) g v).1).pend := RBare.pend (d := ((f_bareAnswer (f_seenAs h m) g v).1)) o59.rn
   obtain ⟨F78, F81, F84, o79, o82, o85, s80, s83, s86, d88, d89, d90⟩ := sp_Bare o59
   refine S.qem 6 [] [(9, .p 3 0), (10, .v (B ((f_bareAnswer (f_seenAs h m) g v).2)))] 4 [(3, [slv (((f_bareAnswer (f_seenAs h m) g v).1).mem).length q55.mem.1, slv (((f_bareAnswer (f_seenAs h m) g v).1).guests).length q55.guests.1, slv (((f_bareAnswer (f_seenAs h m) g v).1).outs).length q55.outs.1, I (((f_bareAnswer (f_seenAs h m) g v).1).pend)])] ?_; clear S; intro ac w β S
   refine (nt (ws (ws (rg ?_))))
   refine S.qe 1 [] [(33, .v (B ((f_bareAnswer (f_seenAs h m) g v).2)))] ?_; clear S; intro ac w β S
   refine (nt (S.c ((f_bareAnswer (f_seenAs h m) g v).2) (fun h91 => ?_) (fun h91 => ?_)))
   ·rw [h91] at S
    refine ws ?_
    refine S.draw0 (f := 9) 8 rfl rfl ?_
    clear S; intro w S
    refine S.hoist (i := 0) (path := [0]) (keep := [1, 6, 8, 9, 10, 34]) (m := 4) (σ' := ⟨[(1, .v (I m)), (6, .p 1 0), (8, .p 2 0), (9, .p 3 0), (10, .v (B true)), (34, .p 2 1)], [GT.cells h ph, Zc THost, [slv (h.mem).length q1.mem.1, slv (h.mons).length q1.mons.1, slv (h.buf).length q1.buf.1, slv (h.iobuf).length q1.iobuf.1], [slv (((f_bareAnswer (f_seenAs h m) g v).1).mem).length q55.mem.1, slv (((f_bareAnswer (f_seenAs h m) g v).1).guests).length q55.guests.1, slv (((f_bareAnswer (f_seenAs h m) g v).1).outs).length q55.outs.1, I (((f_bareAnswer (f_seenAs h m) g v).1).pend)]]⟩) (by kernel_rfl) (by kernel_rfl) .nil (by kernel_rfl) ?_
    clear S; intro ac S
    refine S.hoist (i := 1) (path := [1]) (keep := [1, 6, 8, 9, 10, 35]) (m := 4) (σ' := ⟨[(1, .v (I m)), (6, .p 1 0), (8, .p 2 0), (9, .p 3 0), (10, .v (B true)), (35, .v (slv (h.mons).length q1.mons.1))], [GT.cells h ph, Zc THost, [slv (h.mem).length q1.mem.1, slv (h.mons).length q1.mons.1, slv (h.buf).length q1.buf.1, slv (h.iobuf).length q1.iobuf.1], [slv (((f_bareAnswer (f_seenAs h m) g v).1).mem).length q55.mem.1, slv (((f_bareAnswer (f_seenAs h m) g v).1).guests).length q55.guests.1, slv (((f_bareAnswer (f_seenAs h m) g v).1).outs).length q55.outs.1, I (((f_bareAnswer (f_seenAs h m) g v).1).pend)]]⟩) (by kernel_rfl) (by kernel_rfl) .nil (by kernel_rfl) ?_
    clear S; intro ac S
    refine S.hoist (i := 2) (path := [2]) (keep := [1, 6, 8, 9, 10, 35, 36]) (m := 4) (σ' := ⟨[(1, .v (I m)), (6, .p 1 0), (8, .p 2 0), (9, .p 3 0), (10, .v (B true)), (35, .v (slv (h.mons).length q1.mons.1)), (36, .v (I m))], [GT.cells h ph, Zc THost, [slv (h.mem).length q1.mem.1, slv (h.mons).length q1.mons.1, slv (h.buf).length q1.buf.1, slv (h.iobuf).length q1.iobuf.1], [slv (((f_bareAnswer (f_seenAs h m) g v).1).mem).length q55.mem.1, slv (((f_bareAnswer (f_seenAs h m) g v).1).guests).length q55.guests.1, slv (((f_bareAnswer (f_seenAs h m) g v).1).outs).length q55.outs.1, I (((f_bareAnswer (f_seenAs h m) g v).1).pend)]]⟩) (by kernel_rfl) (by kernel_rfl) .nil (by kernel_rfl) ?_
    clear S; intro ac S
    refine S.hoist (i := 3) (path := [3]) (keep := [1, 6, 8, 9, 10, 35, 36, 37]) (m := 4) (σ' := ⟨[(1, .v (I m)), (6, .p 1 0), (8, .p 2 0), (9, .p 3 0), (10, .v (B true)), (35, .v (slv (h.mons).length q1.mons.1)), (36, .v (I m)), (37, .p 3 1)], [GT.cells h ph, Zc THost, [slv (h.mem).length q1.mem.1, slv (h.mons).length q1.mons.1, slv (h.buf).length q1.buf.1, slv (h.iobuf).length q1.iobuf.1], [slv (((f_bareAnswer (f_seenAs h m) g v).1).mem).length q55.mem.1, slv (((f_bareAnswer (f_seenAs h m) g v).1).guests).length q55.guests.1, slv (((f_bareAnswer (f_seenAs h m) g v).1).outs).length q55.outs.1, I (((f_bareAnswer (f_seenAs h m) g v).1).pend)]]⟩) (by kernel_rfl) (by kernel_rfl) .nil (by kernel_rfl) ?_
    clear S; intro ac S
    refine S.hoist (i := 4) (path := [4]) (keep := [1, 6, 8, 9, 10, 35, 36, 38]) (m := 4) (σ' := ⟨[(1, .v (I m)), (6, .p 1 0), (8, .p 2 0), (9, .p 3 0), (10, .v (B true)), (35, .v (slv (h.mons).length q1.mons.1)), (36, .v (I m)), (38, .v (slv (((f_bareAnswer (f_seenAs h m) g v).1).guests).length q55.guests.1))], [GT.cells h ph, Zc THost, [slv (h.mem).length q1.mem.1, slv (h.mons).length q1.mons.1, slv (h.buf).length q1.buf.1, slv (h.iobuf).length q1.iobuf.1], [slv (((f_bareAnswer (f_seenAs h m) g v).1).mem).length q55.mem.1, slv (((f_bareAnswer (f_seenAs h m) g v).1).guests).length q55.guests.1, slv (((f_bareAnswer (f_seenAs h m) g v).1).outs).length q55.outs.1, I (((f_bareAnswer (f_seenAs h m) g v).1).pend)]]⟩) (by kernel_rfl) (by kernel_rfl) .nil (by kernel_rfl) ?_
    clear S; intro ac S
    refine WD.one (i := 5) (by kernel_rfl) ?_
    refine id (S.call1 (r := (((f_bareAnswer (f_seenAs h m) g v).1).guests)) (d := 39) (c_impl_copyGuests w (((f_bareAnswer (f_seenAs h m) g v).1).guests) q55.guests (S.rd o82.rn)) (by kernel_rfl) rfl ?_)
    clear S; intro ac w N q92 F93 S up o94 d95
    refine WD.next S up rfl ?_
    have d96 : Disj F5 F93 := fun b x y => d95 b (o6.sub b x) y
    have d97 : Disj F8 F93 := fun b x y => d95 b (o9.sub b x) y
    have d98 : Disj F11 F93 := fun b x y => d95 b (o12.sub b x) y
    have d99 : Disj F14 F93 := fun b x y => d95 b (o15.sub b x) y
    have d100 : Disj F78 F93 := fun b x y => d95 b (o79.sub b x) y
    have d101 : Disj F81 F93 := fun b x y => d95 b (o82.sub b x) y
    have d102 : Disj F84 F93 := fun b x y => d95 b (o85.sub b x) y
    replace o6 := o6.up up
    replace o9 := o9.up up
    replace o12 := o12.up up
    replace o15 := o15.up up
    replace o79 := o79.up up
    replace o82 := o82.up up
    replace o85 := o85.up up
    clear up d95
    refine S.hoist (i := 6) (path := [7, 6]) (keep := [1, 6, 8, 9, 10, 39, 40]) (m := 4) (σ' := ⟨[(1, .v (I m)), (6, .p 1 0), (8, .p 2 0), (9, .p 3 0), (10, .v (B true)), (39, .v (slv ((((f_bareAnswer (f_seenAs h m) g v).1).guests)).length q92.1)), (40, .v (pt q1.mons.1.b (q1.mons.1.off + ((m).toNat) * 9)))], [GT.cells h ph, Zc THost, [slv (h.mem).length q1.mem.1, slv (h.mons).length q1.mons.1, slv (h.buf).length q1.buf.1, slv (h.iobuf).length q1.iobuf.1], [slv (((f_bareAnswer (f_seenAs h m) g v).1).mem).length q55.mem.1, slv (((f_bareAnswer (f_seenAs h m) g v).1).guests).length q55.guests.1, slv (((f_bareAnswer (f_seenAs h m) g v).1).outs).length q55.outs.1, I (((f_bareAnswer (f_seenAs h m) g v).1).pend)]]⟩) (by kernel_rfl) (by kernel_rfl) (.cons (Q_idx o9.rn (l := (h.mons).length) (k := (m).toNat) (i := m) rfl (by omega) (by omega) Tryz.underlying30 (by kernel_rfl)) .nil) (by kernel_rfl) ?_
    clear S; intro ac S
    refine S.hoist (i := 7) (path := [7]) (keep := [1, 6, 8, 9, 10, 39, 41]) (m := 4) (σ' := ⟨[(1, .v (I m)), (6, .p 1 0), (8, .p 2 0), (9, .p 3 0), (10, .v (B true)), (39, .v (slv ((((f_bareAnswer (f_seenAs h m) g v).1).guests)).length q92.1)), (41, .v (pt q1.mons.1.b (q1.mons.1.off + ((m).toNat) * 9 + 3)))], [GT.cells h ph, Zc THost, [slv (h.mem).length q1.mem.1, slv (h.mons).length q1.mons.1, slv (h.buf).length q1.buf.1, slv (h.iobuf).length q1.iobuf.1], [slv (((f_bareAnswer (f_seenAs h m) g v).1).mem).length q55.mem.1, slv (((f_bareAnswer (f_seenAs h m) g v).1).guests).length q55.guests.1, slv (((f_bareAnswer (f_seenAs h m) g v).1).outs).length q55.outs.1, I (((f_bareAnswer (f_seenAs h m) g v).1).pend)]]⟩) (by kernel_rfl) (by kernel_rfl) .nil (by kernel_rfl) ?_
    clear S; intro ac S
    refine WD.one (i := 8) (by kernel_rfl) ?_
    refine id (S.setEl (α := TMon) o9 (t := 54) (v := slv ((((f_bareAnswer (f_seenAs h m) g v).1).guests)).length q92.1) (k := (m).toNat) (j := 3) (off := q1.mons.1.off + ((m).toNat) * 9 + 3) (y := ({ el h.mons ((m).toNat) with guests := (((f_bareAnswer (f_seenAs h m) g v).1).guests) } : TMon)) (q := ({ q1.mons.2 ((m).toNat) with guests := q92 } : PMon)) (Fy := F93) (by kernel_rfl) (by kernel_rfl) (by omega) (by kernel_rfl) (by kernel_rfl) (Nat.le_of_ble_eq_true (by kernel_rfl)) (by kernel_rfl) (fun G g_ gF => ⟨_, owl_Mon_guests g_ o94.own (fun b h h2 => d97 b (gF b h) h2), fun _ h => h⟩) d97 o94.sub o94.young ?_)
    clear S; intro w N F104 q105 S up o103 d106 s107 n108
    refine WD.last (by kernel_rfl) ?_
    have d109 : Disj F5 F104 := d106 _ d17 d96 o6.sub
    have d110 : Disj F11 F104 := d106 _ (Disj.symm d20) d98 o12.sub
    have d111 : Disj F14 F104 := d106 _ (Disj.symm d21) d99 o15.sub
    have d112 : Disj F78 F104 := d106 _ (Disj.part (Disj.symm d72) s80) d100 o79.sub
    have d113 : Disj F81 F104 := d106 _ (Disj.part (Disj.symm d72) s83) d101 o82.sub
    have d114 : Disj F84 F104 := d106 _ (Disj.part (Disj.symm d72) s86) d102 o85.sub
    replace o6 := o6.upF d17 up
    replace o12 := o12.upF (Disj.symm d20) up
    replace o15 := o15.upF (Disj.symm d21) up
    replace o79 := o79.upF (Disj.part (Disj.symm d72) s80) up
    replace o82 := o82.upF (Disj.part (Disj.symm d72) s83) up
    replace o85 := o85.upF (Disj.part (Disj.symm d72) s86) up
    clear up d106 o9 n108
    have l115 : ((h.mons).set ((m).toNat) ({ el h.mons ((m).toNat) with guests := (((f_bareAnswer (f_seenAs h m) g v).1).guests) })).length = (h.mons).length := List.length_set
    replace S := S.z (σ' := ⟨[(1, .v (I m)), (6, .p 1 0), (8, .p 2 0), (9, .p 3 0), (10, .v (B true)), (39, .v (slv ((((f_bareAnswer (f_seenAs h m) g v).1).guests)).length q92.1)), (41, .v (pt q1.mons.1.b (q1.mons.1.off + ((m).toNat) * 9 + 3)))], [GT.cells h ph, Zc THost, [slv (h.mem).length q1.mem.1, slv (h.mons).length q1.mons.1, slv (h.buf).length q1.buf.1, slv (h.iobuf).length q1.iobuf.1], [slv (((f_bareAnswer (f_seenAs h m) g v).1).mem).length q55.mem.1, slv (((f_bareAnswer (f_seenAs h m) g v).1).guests).length q55.guests.1, slv (((f_bareAnswer (f_seenAs h m) g v).1).outs).length q55.outs.1, I (((f_bareAnswer (f_seenAs h m) g v).1).pend)]]⟩)
    replace S := S.cast (σ' := ⟨[(1, .v (I m)), (6, .p 1 0), (8, .p 2 0), (9, .p 3 0), (10, .v (B true)), (39, .v (slv ((((f_bareAnswer (f_seenAs h m) g v).1).guests)).length q92.1)), (41, .v (pt q1.mons.1.b (q1.mons.1.off + ((m).toNat) * 9 + 3)))], [GT.cells h ph, Zc THost, [slv (h.mem).length q1.mem.1, slv (((h.mons).set ((m).toNat) ({ el h.mons ((m).toNat) with guests := (((f_bareAnswer (f_seenAs h m) g v).1).guests) }))).length q1.mons.1, slv (h.buf).length q1.buf.1, slv (h.iobuf).length q1.iobuf.1], [slv (((f_bareAnswer (f_seenAs h m) g v).1).mem).length q55.mem.1, slv (((f_bareAnswer (f_seenAs h m) g v).1).guests).length q55.guests.1, slv (((f_bareAnswer (f_seenAs h m) g v).1).outs).length q55.outs.1, I (((f_bareAnswer (f_seenAs h m) g v).1).pend)]]⟩) (by rw [show (((h.mons).set ((m).toNat) ({ el h.mons ((m).toNat) with guests := (((f_bareAnswer (f_seenAs h m) g v).1).guests) }))).length = (h.mons).length by omega])
    refine WD.done (by kernel_rfl) ?_ _
    refine id (nt (rg ?_))
    refine S.qbm 7 [] [(46, .v (I (((f_bareAnswer (f_seenAs h m) g v).1).pend))), (48, .v (pt q1.mons.1.b (q1.mons.1.off + ((m).toNat) * 9 + 5)))] (.cons (Q_idx o103.rn (l := (((h.mons).set ((m).toNat) ({ el h.mons ((m).toNat) with guests := (((f_bareAnswer (f_seenAs h m) g v).1).guests) }))).length) (k := (m).toNat) (i := m) rfl (by omega) (by omega) Tryz.underlying30 (by kernel_rfl)) .nil) 3 [] ?_; clear S; intro ac w β S
    refine RG.op rfl (S.setEl (α := TMon) o103 (t := 3) (v := I (((f_bareAnswer (f_seenAs h m) g v).1).pend)) (k := (m).toNat) (j := 5) (off := q1.mons.1.off + ((m).toNat) * 9 + 5) (y := ({ el ((h.mons).set ((m).toNat) ({ el h.mons ((m).toNat) with guests := (((f_bareAnswer (f_seenAs h m) g v).1).guests) })) ((m).toNat) with pend := ((f_bareAnswer (f_seenAs h m) g v).1).pend } : TMon)) (q := ((q1.mons.1, q105).2 ((m).toNat))) (Fy := NoB) (by kernel_rfl) (by kernel_rfl) (by omega) (by kernel_rfl) (by kernel_rfl) (Nat.le_of_ble_eq_true (by kernel_rfl)) (by kernel_rfl) (fun G g_ _ => ⟨G, ows_Mon_pend g_ (i87), fun _ h => .inl h⟩) (fun b _ h => False.elim h) (fun b h => False.elim h) (fun b h => False.elim h) ?_)
    clear S; intro w N F117 q118 S up o116 d119 s120 n121
    have d122 : Disj F5 F117 := d119 _ d109 (fun b _ h => False.elim h) o6.sub
    have d123 : Disj F11 F117 := d119 _ d110 (fun b _ h => False.elim h) o12.sub
    have d124 : Disj F14 F117 := d119 _ d111 (fun b _ h => False.elim h) o15.sub
    replace o6 := o6.upF d109 up
    replace o12 := o12.upF d110 up
    replace o15 := o15.upF d111 up
    clear up d119 o103 n121
    have l125 : ((((h.mons).set ((m).toNat) ({ el h.mons ((m).toNat) with guests := (((f_bareAnswer (f_seenAs h m) g v).1).guests) }))).set ((m).toNat) ({ el ((h.mons).set ((m).toNat) ({ el h.mons ((m).toNat) with guests := (((f_bareAnswer (f_seenAs h m) g v).1).guests) })) ((m).toNat) with pend := ((f_bareAnswer (f_seenAs h m) g v).1).pend })).length = (((h.mons).set ((m).toNat) ({ el h.mons ((m).toNat) with guests := (((f_bareAnswer (f_seenAs h m) g v).1).guests) }))).length := List.length_set
    replace S := S.z (σ' := ⟨[(6, .p 1 0), (8, .p 2 0), (10, .v (B true)), (46, .v (I (((f_bareAnswer (f_seenAs h m) g v).1).pend))), (48, .v (pt q1.mons.1.b (q1.mons.1.off + ((m).toNat) * 9 + 5)))], [GT.cells h ph, Zc THost, [slv (h.mem).length q1.mem.1, slv (((h.mons).set ((m).toNat) ({ el h.mons ((m).toNat) with guests := (((f_bareAnswer (f_seenAs h m) g v).1).guests) }))).length q1.mons.1, slv (h.buf).length q1.buf.1, slv (h.iobuf).length q1.iobuf.1]]⟩)
    replace S := S.cast (σ' := ⟨[(6, .p 1 0), (8, .p 2 0), (10, .v (B true)), (46, .v (I (((f_bareAnswer (f_seenAs h m) g v).1).pend))), (48, .v (pt q1.mons.1.b (q1.mons.1.off + ((m).toNat) * 9 + 5)))], [GT.cells h ph, Zc THost, [slv (h.mem).length q1.mem.1, slv (((((h.mons).set ((m).toNat) ({ el h.mons ((m).toNat) with guests := (((f_bareAnswer (f_seenAs h m) g v).1).guests) }))).set ((m).toNat) ({ el ((h.mons).set ((m).toNat) ({ el h.mons ((m).toNat) with guests := (((f_bareAnswer (f_seenAs h m) g v).1).guests) })) ((m).toNat) with pend := ((f_bareAnswer (f_seenAs h m) g v).1).pend }))).length q1.mons.1, slv (h.buf).length q1.buf.1, slv (h.iobuf).length q1.iobuf.1]]⟩) (by rw [show (((((h.mons).set ((m).toNat) ({ el h.mons ((m).toNat) with guests := (((f_bareAnswer (f_seenAs h m) g v).1).guests) }))).set ((m).toNat) ({ el ((h.mons).set ((m).toNat) ({ el h.mons ((m).toNat) with guests := (((f_bareAnswer (f_seenAs h m) g v).1).guests) })) ((m).toNat) with pend := ((f_bareAnswer (f_seenAs h m) g v).1).pend }))).length = (((h.mons).set ((m).toNat) ({ el h.mons ((m).toNat) with guests := (((f_bareAnswer (f_seenAs h m) g v).1).guests) }))).length by omega])
    refine rd (nt (ws (rg ?_)))
    refine S.qem 4 [] [(7, .v (B true))] 2 [(1, [slv (h.mem).length q1.mem.1, slv (((((h.mons).set ((m).toNat) ({ el h.mons ((m).toNat) with guests := (((f_bareAnswer (f_seenAs h m) g v).1).guests) }))).set ((m).toNat) ({ el ((h.mons).set ((m).toNat) ({ el h.mons ((m).toNat) with guests := (((f_bareAnswer (f_seenAs h m) g v).1).guests) })) ((m).toNat) with pend := ((f_bareAnswer (f_seenAs h m) g v).1).pend }))).length q1.mons.1, slv (h.buf).length q1.buf.1, slv (h.iobuf).length q1.iobuf.1])] ?_; clear S; intro ac w β S
    refine (nt (wr (S.r [GT.val (⟨h.mem, ((((h.mons).set ((m).toNat) ({ el h.mons ((m).toNat) with guests := (((f_bareAnswer (f_seenAs h m) g v).1).guests) }))).set ((m).toNat) ({ el ((h.mons).set ((m).toNat) ({ el h.mons ((m).toNat) with guests := (((f_bareAnswer (f_seenAs h m) g v).1).guests) })) ((m).toNat) with pend := ((f_bareAnswer (f_seenAs h m) g v).1).pend })), h.buf, h.iobuf⟩ : THost) (⟨q1.mem, (q1.mons.1, q118), q1.buf, q1.iobuf⟩ : PHost), B true] ?_)))
    have o126 := ow_Host (x := (⟨h.mem, ((((h.mons).set ((m).toNat) ({ el h.mons ((m).toNat) with guests := (((f_bareAnswer (f_seenAs h m) g v).1).guests) }))).set ((m).toNat) ({ el ((h.mons).set ((m).toNat) ({ el h.mons ((m).toNat) with guests := (((f_bareAnswer (f_seenAs h m) g v).1).guests) })) ((m).toNat) with pend := ((f_bareAnswer (f_seenAs h m) g v).1).pend })), h.buf, h.iobuf⟩ : THost)) (p := (⟨q1.mem, (q1.mons.1, q118), q1.buf, q1.iobuf⟩ : PHost)) o6 o116 o12 o15 d122 d18 d19 (Disj.symm d123) (Disj.symm d124) d22 
    exact ret2_of (p' := ()) S (show (f_reflected h m (f_bareAnswer (f_seenAs h m) g v)).1 = (⟨h.mem, ((((h.mons).set ((m).toNat) ({ el h.mons ((m).toNat) with guests := (((f_bareAnswer (f_seenAs h m) g v).1).guests) }))).set ((m).toNat) ({ el ((h.mons).set ((m).toNat) ({ el h.mons ((m).toNat) with guests := (((f_bareAnswer (f_seenAs h m) g v).1).guests) })) ((m).toNat) with pend := ((f_bareAnswer (f_seenAs h m) g v).1).pend })), h.buf, h.iobuf⟩ : THost) from k0_impl_reflected) (show (f_reflected h m (f_bareAnswer (f_seenAs h m) g v)).2 = true from k0_impl_reflected) rfl rfl o126 trivial
   ·rw [h91] at S
    refine wk (nt (ws (rg ?_)))
    refine S.qem 4 [0, 1, 2, 3, 8, 9, 10, 11, 23, 26, 27, 28, 33] [(7, .v (B false))] 2 [(1, [slv (h.mem).length q1.mem.1, slv (h.mons).length q1.mons.1, slv (h.buf).length q1.buf.1, slv (h.iobuf).length q1.iobuf.1])] ?_; clear S; intro ac w β S
    refine (nt (wr (S.r [GT.val h q1, B false] ?_)))
    have o127 := ow_Host (x := h) (p := q1) o6 o9 o12 o15 d17 d18 d19 d20 d21 d22 
    exact ret2_of (p' := ()) S (show (f_reflected h m (f_bareAnswer (f_seenAs h m) g v)).1 = h from k0_impl_reflected) (show (f_reflected h m (f_bareAnswer (f_seenAs h m) g v)).2 = false from k0_impl_reflected) rfl rfl o127 trivial

set_option maxRecDepth 100000 in
theorem c_impl_HostAnswer (w0 : World) (h : THost) (ph : PHost) (hh : GT.rd KK (Lt w0.heap.size) w0 h ph) (m : Int) (g : Int) (hg : In64 g) (v : Int) (hv : In64 v) : Calls Tryz.prog 22 [GT.val h ph, I m, I g, I v].toArray w0 (Ret2 NoB w0 ((f_hostAnswer h m g v).1 : THost) ((f_hostAnswer h m g v).2 : Bool)) := by
 refine Calls.walk (args := [GT.val h ph, I m, I g, I v]) NoB Tryz.func22 rfl rfl ?_
 intro ac β S
 have hleh_mem : h.mem.length ≤ 4194304 := LRd.le (RHost.mem (d := h) hh)
 have hleh_mons : h.mons.length ≤ 4194304 := LRd.le (RHost.mons (d := h) hh)
 have hleh_buf : h.buf.length ≤ 4194304 := LRd.le (RHost.buf (d := h) hh)
 have hleh_iobuf : h.iobuf.length ≤ 4194304 := LRd.le (RHost.iobuf (d := h) hh)
 have hlog := hg.lo; have hhig := hg.hi
 have hlov := hv.lo; have hhiv := hv.hi
 refine ws (rg ?_)
 refine S.qem 5 [] [(4, .p 0 0), (6, .p 1 0), (7, .p 2 0), (8, .p 3 0)] 4 [(0, GT.cells h ph), (1, [I g]), (2, [I v]), (3, Zc THost)] ?_; clear S; intro ac w β S
 refine (nt (ws ?_))
 refine S.frz 1 g () hg ?_
 clear S; intro β N b1 F2 S up o3 d4
 clear up d4
 refine S.frz 1 v () hv ?_
 clear S; intro β N b5 F6 S up o7 d8
 have d9 : Disj F2 F6 := fun b x y => d8 b (o3.sub b x) y
 replace o3 := o3.up up
 clear up d8
 refine rg ?_
 refine S.qa 3 [] [(10, .v (GT.val h ph)), (11, .v (I m)), (12, .v (.func (.func 57) #[] #[pt (cap1 b1 () : LP Int).1.b ((cap1 b1 () : LP Int).1.off + 0 * 1), pt (cap1 b5 () : LP Int).1.b ((cap1 b5 () : LP Int).1.off + 0 * 1)]))] ?_; clear S; intro ac w β S
 refine RG.op rfl (S.call2 (r := (f_reflected h m (f_bareAnswer (f_seenAs h m) g v)).1) (r' := (f_reflected h m (f_bareAnswer (f_seenAs h m) g v)).2) (d := 13) (c_impl_reflected w h ph (S.rd (S.arg hh)) m g (cap1 b1 () : LP Int) (S.rd o3.rn) v (cap1 b5 () : LP Int) (S.rd o7.rn)) (by kernel_rfl) rfl ?_)
 clear S; intro ac w N q10 q11 F12 F13 S up o14 o15 d16 d17 d18
 have d19 : Disj F2 F13 := fun b x y => d17 b (o3.sub b x) y
 have d20 : Disj F6 F13 := fun b x y => d17 b (o7.sub b x) y
 have d21 : Disj F2 F12 := fun b x y => d16 b (o3.sub b x) y
 have d22 : Disj F6 F12 := fun b x y => d16 b (o7.sub b x) y
 replace o3 := o3.up up
 replace o7 := o7.up up
 clear up d16
 clear d17
 obtain ⟨F23, F26, F29, F32, o24, o27, o30, o33, s25, s28, s31, s34, d35, d36, d37, d38, d39, d40⟩ := sp_Host o14
 refine S.qem 4 [] [(9, .v (B ((f_reflected h m (f_bareAnswer (f_seenAs h m) g v)).2)))] 2 [(1, [slv (((f_reflected h m (f_bareAnswer (f_seenAs h m) g v)).1).mem).length q10.mem.1, slv (((f_reflected h m (f_bareAnswer (f_seenAs h m) g v)).1).mons).length q10.mons.1, slv (((f_reflected h m (f_bareAnswer (f_seenAs h m) g v)).1).buf).length q10.buf.1, slv (((f_reflected h m (f_bareAnswer (f_seenAs h m) g v)).1).iobuf).length q10.iobuf.1])] ?_; clear S; intro ac w β S
 refine (nt (wr (S.r [GT.val ((f_reflected h m (f_bareAnswer (f_seenAs h m) g v)).1) q10, B ((f_reflected h m (f_bareAnswer (f_seenAs h m) g v)).2)] ?_)))
 have o41 := ow_Host (x := (f_reflected h m (f_bareAnswer (f_seenAs h m) g v)).1) (p := q10) o24 o27 o30 o33 d35 d36 d37 d38 d39 d40 
 exact ret2_of (p' := ()) S (show (f_hostAnswer h m g v).1 = (f_reflected h m (f_bareAnswer (f_seenAs h m) g v)).1 by clear S; rfl) (show (f_hostAnswer h m g v).2 = (f_reflected h m (f_bareAnswer (f_seenAs h m) g v)).2 by clear S; rfl) rfl rfl o41 trivial

theorem k0_laws_eqIntS {p : Prop} (h : p := by clear S; first | (simp; intro e; subst e; simp_all; done) | (simp; rw [take_all (by omega), take_all (by omega)] at he; exact he) | (simp; exact take_ne (by simp_all))) : p := h
set_option maxRecDepth 100000 in
theorem c_laws_eqIntS (w0 : World) (a : List Int) (pa : LP Int) (ha : GT.rd KK (Lt w0.heap.size) w0 a pa) (b : List Int) (pb : LP Int) (hb : GT.rd KK (Lt w0.heap.size) w0 b pb) : Calls Tryz.prog 89 [slv (a).length pa.1, slv (b).length pb.1].toArray w0 (fun e w' => e = .returned (B (decide (a = b))) ∧ Chg NoB w0 w') := by
 refine Calls.walk (args := [slv (a).length pa.1, slv (b).length pb.1]) NoB Tryz.func89 rfl rfl ?_
 intro ac β S
 have hlea : a.length ≤ 4194304 := LRd.le ha
 have hleb : b.length ≤ 4194304 := LRd.le hb
 refine ws (rg ?_)
 refine S.qe 1 [] [] ?_; clear S; intro ac w β S
 refine (nt (ws (ws (rg ?_))))
 refine S.qe 5 [] [(10, .v (B (((a).length : Int) != ((b).length : Int))))] ?_; clear S; intro ac w β S
 refine (nt (S.c (((a).length : Int) != ((b).length : Int)) (fun h1 => ?_) (fun h1 => ?_)))
 ·have g2 : ¬ (((a).length : Int) = ((b).length : Int)) := bne_iff_ne.1 h1
  refine ws (rg ?_)
  refine S.qe 1 [] [(4, .v (B false))] ?_; clear S; intro ac w β S
  exact (nt (wr (rt (S.r [B false] ⟨retB k0_laws_eqIntS, S.chg⟩))))
 ·have g3 : ((a).length : Int) = ((b).length : Int) := ne_f h1
  refine wk (nt (ws (ws (rg ?_))))
  refine S.qe 1 [] [(5, .v (I 0))] ?_; clear S; intro ac w β S
  refine (nt (wp_block ?_))
  refine wp_loop_down (fun mm ac w => ∃ (k : Nat)  (u : World) (N : Bl) (β : Nat → Nat), mm = a.length - k ∧ (k ≤ a.length) ∧ (a.length = b.length) ∧ (a.take k = b.take k) ∧ St Tryz.prog Tryz.f89.ntmps w0 NoB u N β ⟨[(0, .v (slv (a).length pa.1)), (1, .v (slv (b).length pb.1)), (5, .v (I (k : Int)))], []⟩ ac w) _ ⟨0, _, _, _, rfl, (by first | omega | (simp; done) | (simp; omega)), (by first | omega | (simp; done) | (simp; omega)), (by simp), S.z⟩ ?_
  clear S
  rintro mm ac w ⟨k, u, N, β, rfl, hk, hab, he, S⟩
  refine ws (ws (rg ?_))
  refine S.qe 4 [] [(14, .v (B (decide ((k : Int) < ((a).length : Int)))))] ?_; clear S; intro ac w β S
  refine (nt (S.c (decide ((k : Int) < ((a).length : Int))) (fun h4 => ?_) (fun h4 => ?_)))
  ·have g5 := of_decide_eq_true h4
   refine wk (nt (ws (wp_block (ws ?_))))
   refine S.drawn (keep := [0, 1, 5, 25]) (m := 0) (σ' := ⟨[(0, .v (slv (a).length pa.1)), (1, .v (slv (b).length pb.1)), (5, .v (I (k : Int))), (25, .v (B ((el a k) != (el b k))))], []⟩) (.cons (Q_idx (S.arg ha) (l := (a).length) (k := k) (i := (k : Int)) rfl rfl (by omega) Tryz.underlying55 (by kernel_rfl)) (.cons (Q_el1 (S.arg ha) (t := 3) (k := k) (by omega) rfl (by kernel_rfl)) (.cons (Q_idx (S.arg hb) (l := (b).length) (k := k) (i := (k : Int)) rfl rfl (by omega) Tryz.underlying55 (by kernel_rfl)) (.cons (Q_el1 (S.arg hb) (t := 3) (k := k) (by omega) rfl (by kernel_rfl)) .nil)))) rfl (by kernel_rfl) (by kernel_rfl) ?_
   clear S; intro ac w S
   refine id (nt (S.c ((el a k) != (el b k)) (fun h6 => ?_) (fun h6 => ?_)))
   ·have g7 : ¬ ((el a k) = (el b k)) := bne_iff_ne.1 h6
    refine ws (rg ?_)
    refine S.qe 1 [] [(4, .v (B false))] ?_; clear S; intro ac w β S
    exact (nt (wr (rb (rt (rt (rb (rt (S.r [B false] ⟨retB k0_laws_eqIntS, S.chg⟩))))))))
   ·have g8 : (el a k) = (el b k) := ne_f h6
    refine wk (nb (nt (rg ?_)))
    refine S.qg 3 [] [(5, .v (I ((k : Int) + 1)))] (.cons (Q_add (x := (k : Int)) (y := 1) ⟨by omega, by omega⟩) .nil) ?_; clear S; intro ac w β S
    refine (nt ?_)
    refine ⟨a.length - (k + 1), by omega, k + 1, _, _, _, rfl, ?_, ?_, ?_, S.z⟩
    ·clear S; first | omega | (simp [*]; done) | (simp [*]; omega)
    ·clear S; first | omega | (simp [*]; done) | (simp [*]; omega)
    ·clear S; exact take_eq_step (by omega) (by omega) he (by simp_all)
  ·have g9 := of_decide_eq_false h4
   refine wp_exit (ex_then (ex_then (ex_hit (nt (ws (rg ?_))))))
   refine S.qe 1 [] [(4, .v (B true))] ?_; clear S; intro ac w β S
   exact (nt (wr (S.r [B true] ⟨retB k0_laws_eqIntS, S.chg⟩)))

theorem k0_laws_eqIntSS {p : Prop} (h : p := by clear S; first | (simp; intro e; subst e; simp_all; done) | (simp; rw [take_all (by omega), take_all (by omega)] at he; exact he) | (simp; exact take_ne (by simp_all))) : p := h
set_option maxRecDepth 100000 in
theorem c_laws_eqIntSS (w0 : World) (a : List (List Int)) (pa : LP (List Int)) (ha : GT.rd KK (Lt w0.heap.size) w0 a pa) (b : List (List Int)) (pb : LP (List Int)) (hb : GT.rd KK (Lt w0.heap.size) w0 b pb) : Calls Tryz.prog 41 [slv (a).length pa.1, slv (b).length pb.1].toArray w0 (fun e w' => e = .returned (B (decide (a = b))) ∧ Chg NoB w0 w') := by
 refine Calls.walk (args := [slv (a).length pa.1, slv (b).length pb.1]) NoB Tryz.func41 rfl rfl ?_
 intro ac β S
 have hlea : a.length ≤ 4194304 := LRd.le ha
 have hleb : b.length ≤ 4194304 := LRd.le hb
 refine ws (rg ?_)
 refine S.qe 1 [] [] ?_; clear S; intro ac w β S
 refine (nt (ws (ws (rg ?_))))
 refine S.qe 5 [] [(10, .v (B (((a).length : Int) != ((b).length : Int))))] ?_; clear S; intro ac w β S
 refine (nt (S.c (((a).length : Int) != ((b).length : Int)) (fun h1 => ?_) (fun h1 => ?_)))
 ·have g2 : ¬ (((a).length : Int) = ((b).length : Int)) := bne_iff_ne.1 h1
  refine ws (rg ?_)
  refine S.qe 1 [] [(4, .v (B false))] ?_; clear S; intro ac w β S
  exact (nt (wr (rt (S.r [B false] ⟨retB k0_laws_eqIntSS, S.chg⟩))))
 ·have g3 : ((a).length : Int) = ((b).length : Int) := ne_f h1
  refine wk (nt (ws (ws (rg ?_))))
  refine S.qe 1 [] [(5, .v (I 0))] ?_; clear S; intro ac w β S
  refine (nt (wp_block ?_))
  refine wp_loop_down (fun mm ac w => ∃ (k : Nat)  (u : World) (N : Bl) (β : Nat → Nat), mm = a.length - k ∧ (k ≤ a.length) ∧ (a.length = b.length) ∧ (a.take k = b.take k) ∧ St Tryz.prog Tryz.f41.ntmps w0 NoB u N β ⟨[(0, .v (slv (a).length pa.1)), (1, .v (slv (b).length pb.1)), (5, .v (I (k : Int)))], []⟩ ac w) _ ⟨0, _, _, _, rfl, (by first | omega | (simp; done) | (simp; omega)), (by first | omega | (simp; done) | (simp; omega)), (by simp), S.z⟩ ?_
  clear S
  rintro mm ac w ⟨k, u, N, β, rfl, hk, hab, he, S⟩
  refine ws (ws (rg ?_))
  refine S.qe 4 [] [(14, .v (B (decide ((k : Int) < ((a).length : Int)))))] ?_; clear S; intro ac w β S
  refine (nt (S.c (decide ((k : Int) < ((a).length : Int))) (fun h4 => ?_) (fun h4 => ?_)))
  ·have g5 := of_decide_eq_true h4
   refine wk (nt (ws (wp_block (ws ?_))))
   refine S.drawn (keep := [0, 1, 5, 26]) (m := 0) (σ' := ⟨[(0, .v (slv (a).length pa.1)), (1, .v (slv (b).length pb.1)), (5, .v (I (k : Int))), (26, .v (B (!(decide ((el a k) = (el b k))))))], []⟩) (.cons (Q_idx (S.arg ha) (l := (a).length) (k := k) (i := (k : Int)) rfl rfl (by omega) Tryz.underlying22 (by kernel_rfl)) (.cons (Q_el1 (S.arg ha) (t := 55) (k := k) (by omega) rfl (by kernel_rfl)) (.cons (Q_idx (S.arg hb) (l := (b).length) (k := k) (i := (k : Int)) rfl rfl (by omega) Tryz.underlying22 (by kernel_rfl)) (.cons (Q_el1 (S.arg hb) (t := 55) (k := k) (by omega) rfl (by kernel_rfl)) (.cons (Q_call fun w hw => c_laws_eqIntS w (el a k) (pa.2 k) (rd_of (LRd.el (S.arg ha) k (by omega)) hw) (el b k) (pb.2 k) (rd_of (LRd.el (S.arg hb) k (by omega)) hw)) .nil))))) rfl (by kernel_rfl) (by kernel_rfl) ?_
   clear S; intro ac w S
   refine id (nt (S.c (!(decide ((el a k) = (el b k)))) (fun h6 => ?_) (fun h6 => ?_)))
   ·have h7 := not_t h6
    have g8 := of_decide_eq_false h7
    refine ws (rg ?_)
    refine S.qe 1 [] [(4, .v (B false))] ?_; clear S; intro ac w β S
    exact (nt (wr (rb (rt (rt (rb (rt (S.r [B false] ⟨retB k0_laws_eqIntSS, S.chg⟩))))))))
   ·have h9 := not_f h6
    have g10 := of_decide_eq_true h9
    refine wk (nb (nt (rg ?_)))
    refine S.qg 3 [] [(5, .v (I ((k : Int) + 1)))] (.cons (Q_add (x := (k : Int)) (y := 1) ⟨by omega, by omega⟩) .nil) ?_; clear S; intro ac w β S
    refine (nt ?_)
    refine ⟨a.length - (k + 1), by omega, k + 1, _, _, _, rfl, ?_, ?_, ?_, S.z⟩
    ·clear S; first | omega | (simp [*]; done) | (simp [*]; omega)
    ·clear S; first | omega | (simp [*]; done) | (simp [*]; omega)
    ·clear S; exact take_eq_step (by omega) (by omega) he (by simp_all)
  ·have g11 := of_decide_eq_false h4
   refine wp_exit (ex_then (ex_then (ex_hit (nt (ws (rg ?_))))))
   refine S.qe 1 [] [(4, .v (B true))] ?_; clear S; intro ac w β S
   exact (nt (wr (S.r [B true] ⟨retB k0_laws_eqIntSS, S.chg⟩)))

theorem k0_laws_eqSlot {p : Prop} (h : p := by clear S; first | (simp [TSlot.ext_iff, *]; done) | (simp_all [TSlot.ext_iff]; done)) : p := h
set_option maxRecDepth 100000 in
theorem c_laws_eqSlot (w0 : World) (a : TSlot) (b : TSlot) : Calls Tryz.prog 178 [GT.val a (), GT.val b ()].toArray w0 (fun e w' => e = .returned (B (decide (a = b))) ∧ Chg NoB w0 w') := by
 refine Calls.walk (args := [GT.val a (), GT.val b ()]) NoB Tryz.func178 rfl rfl ?_
 intro ac β S
 refine ws (rg ?_)
 refine S.qem 3 [] [(2, .p 0 0), (3, .p 1 0)] 2 [(0, GT.cells a ()), (1, GT.cells b ())] ?_; clear S; intro ac w β S
 refine (nt (ws (ws (rg ?_))))
 refine S.qe 5 [] [(9, .v (B (a.page != b.page)))] ?_; clear S; intro ac w β S
 refine (nt (S.c (a.page != b.page) (fun h1 => ?_) (fun h1 => ?_)))
 ·have g2 : ¬ (a.page = b.page) := bne_iff_ne.1 h1
  refine ws (rg ?_)
  refine S.qe 1 [] [(4, .v (B false))] ?_; clear S; intro ac w β S
  exact (nt (wr (rt (S.r [B false] ⟨retB k0_laws_eqSlot, S.chg⟩))))
 ·have g3 : a.page = b.page := ne_f h1
  refine wk (nt (ws (ws (rg ?_))))
  refine S.qem 5 [] [(14, .v (B (a.rights != b.rights)))] 0 [] ?_; clear S; intro ac w β S
  refine (nt (S.c (a.rights != b.rights) (fun h4 => ?_) (fun h4 => ?_)))
  ·have g5 : ¬ (a.rights = b.rights) := bne_iff_ne.1 h4
   refine ws (rg ?_)
   refine S.qe 1 [] [(4, .v (B false))] ?_; clear S; intro ac w β S
   exact (nt (wr (rt (S.r [B false] ⟨retB k0_laws_eqSlot, S.chg⟩))))
  ·have g6 : a.rights = b.rights := ne_f h4
   refine wk (nt (ws (rg ?_)))
   refine S.qe 1 [] [(4, .v (B true))] ?_; clear S; intro ac w β S
   exact (nt (wr (S.r [B true] ⟨retB k0_laws_eqSlot, S.chg⟩)))

theorem k0_laws_eqSlotS {p : Prop} (h : p := by clear S; first | (simp; intro e; subst e; simp_all; done) | (simp; rw [take_all (by omega), take_all (by omega)] at he; exact he) | (simp; exact take_ne (by simp_all))) : p := h
set_option maxRecDepth 100000 in
theorem c_laws_eqSlotS (w0 : World) (a : List TSlot) (pa : LP TSlot) (ha : GT.rd KK (Lt w0.heap.size) w0 a pa) (b : List TSlot) (pb : LP TSlot) (hb : GT.rd KK (Lt w0.heap.size) w0 b pb) : Calls Tryz.prog 149 [slv (a).length pa.1, slv (b).length pb.1].toArray w0 (fun e w' => e = .returned (B (decide (a = b))) ∧ Chg NoB w0 w') := by
 refine Calls.walk (args := [slv (a).length pa.1, slv (b).length pb.1]) NoB Tryz.func149 rfl rfl ?_
 intro ac β S
 have hlea : a.length ≤ 4194304 := LRd.le ha
 have hleb : b.length ≤ 4194304 := LRd.le hb
 refine ws (rg ?_)
 refine S.qe 1 [] [] ?_; clear S; intro ac w β S
 refine (nt (ws (ws (rg ?_))))
 refine S.qe 5 [] [(10, .v (B (((a).length : Int) != ((b).length : Int))))] ?_; clear S; intro ac w β S
 refine (nt (S.c (((a).length : Int) != ((b).length : Int)) (fun h1 => ?_) (fun h1 => ?_)))
 ·have g2 : ¬ (((a).length : Int) = ((b).length : Int)) := bne_iff_ne.1 h1
  refine ws (rg ?_)
  refine S.qe 1 [] [(4, .v (B false))] ?_; clear S; intro ac w β S
  exact (nt (wr (rt (S.r [B false] ⟨retB k0_laws_eqSlotS, S.chg⟩))))
 ·have g3 : ((a).length : Int) = ((b).length : Int) := ne_f h1
  refine wk (nt (ws (ws (rg ?_))))
  refine S.qe 1 [] [(5, .v (I 0))] ?_; clear S; intro ac w β S
  refine (nt (wp_block ?_))
  refine wp_loop_down (fun mm ac w => ∃ (k : Nat)  (u : World) (N : Bl) (β : Nat → Nat), mm = a.length - k ∧ (k ≤ a.length) ∧ (a.length = b.length) ∧ (a.take k = b.take k) ∧ St Tryz.prog Tryz.f149.ntmps w0 NoB u N β ⟨[(0, .v (slv (a).length pa.1)), (1, .v (slv (b).length pb.1)), (5, .v (I (k : Int)))], []⟩ ac w) _ ⟨0, _, _, _, rfl, (by first | omega | (simp; done) | (simp; omega)), (by first | omega | (simp; done) | (simp; omega)), (by simp), S.z⟩ ?_
  clear S
  rintro mm ac w ⟨k, u, N, β, rfl, hk, hab, he, S⟩
  refine ws (ws (rg ?_))
  refine S.qe 4 [] [(14, .v (B (decide ((k : Int) < ((a).length : Int)))))] ?_; clear S; intro ac w β S
  refine (nt (S.c (decide ((k : Int) < ((a).length : Int))) (fun h4 => ?_) (fun h4 => ?_)))
  ·have g5 := of_decide_eq_true h4
   refine wk (nt (ws (wp_block (ws ?_))))
   refine S.drawn (keep := [0, 1, 5, 26]) (m := 0) (σ' := ⟨[(0, .v (slv (a).length pa.1)), (1, .v (slv (b).length pb.1)), (5, .v (I (k : Int))), (26, .v (B (!(decide ((el a k) = (el b k))))))], []⟩) (.cons (Q_idx (S.arg ha) (l := (a).length) (k := k) (i := (k : Int)) rfl rfl (by omega) Tryz.underlying61 (by kernel_rfl)) (.cons (Q_el (S.arg ha) (t := 37) (k := k) (by omega) rfl (by kernel_rfl) (by kernel_rfl)) (.cons (Q_idx (S.arg hb) (l := (b).length) (k := k) (i := (k : Int)) rfl rfl (by omega) Tryz.underlying61 (by kernel_rfl)) (.cons (Q_el (S.arg hb) (t := 37) (k := k) (by omega) rfl (by kernel_rfl) (by kernel_rfl)) (.cons (Q_call fun w hw => c_laws_eqSlot w (el a k) (el b k)) .nil))))) rfl (by kernel_rfl) (by kernel_rfl) ?_
   clear S; intro ac w S
   refine id (nt (S.c (!(decide ((el a k) = (el b k)))) (fun h6 => ?_) (fun h6 => ?_)))
   ·have h7 := not_t h6
    have g8 := of_decide_eq_false h7
    refine ws (rg ?_)
    refine S.qe 1 [] [(4, .v (B false))] ?_; clear S; intro ac w β S
    exact (nt (wr (rb (rt (rt (rb (rt (S.r [B false] ⟨retB k0_laws_eqSlotS, S.chg⟩))))))))
   ·have h9 := not_f h6
    have g10 := of_decide_eq_true h9
    refine wk (nb (nt (rg ?_)))
    refine S.qg 3 [] [(5, .v (I ((k : Int) + 1)))] (.cons (Q_add (x := (k : Int)) (y := 1) ⟨by omega, by omega⟩) .nil) ?_; clear S; intro ac w β S
    refine (nt ?_)
    refine ⟨a.length - (k + 1), by omega, k + 1, _, _, _, rfl, ?_, ?_, ?_, S.z⟩
    ·clear S; first | omega | (simp [*]; done) | (simp [*]; omega)
    ·clear S; first | omega | (simp [*]; done) | (simp [*]; omega)
    ·clear S; exact take_eq_step (by omega) (by omega) he (by simp_all)
  ·have g11 := of_decide_eq_false h4
   refine wp_exit (ex_then (ex_then (ex_hit (nt (ws (rg ?_))))))
   refine S.qe 1 [] [(4, .v (B true))] ?_; clear S; intro ac w β S
   exact (nt (wr (S.r [B true] ⟨retB k0_laws_eqSlotS, S.chg⟩)))

theorem k0_laws_eqBoolS {p : Prop} (h : p := by clear S; first | (simp; intro e; subst e; simp_all; done) | (simp; rw [take_all (by omega), take_all (by omega)] at he; exact he) | (simp; exact take_ne (by simp_all))) : p := h
set_option maxRecDepth 100000 in
theorem c_laws_eqBoolS (w0 : World) (a : List Bool) (pa : LP Bool) (ha : GT.rd KK (Lt w0.heap.size) w0 a pa) (b : List Bool) (pb : LP Bool) (hb : GT.rd KK (Lt w0.heap.size) w0 b pb) : Calls Tryz.prog 150 [slv (a).length pa.1, slv (b).length pb.1].toArray w0 (fun e w' => e = .returned (B (decide (a = b))) ∧ Chg NoB w0 w') := by
 refine Calls.walk (args := [slv (a).length pa.1, slv (b).length pb.1]) NoB Tryz.func150 rfl rfl ?_
 intro ac β S
 have hlea : a.length ≤ 4194304 := LRd.le ha
 have hleb : b.length ≤ 4194304 := LRd.le hb
 refine ws (rg ?_)
 refine S.qe 1 [] [] ?_; clear S; intro ac w β S
 refine (nt (ws (ws (rg ?_))))
 refine S.qe 5 [] [(10, .v (B (((a).length : Int) != ((b).length : Int))))] ?_; clear S; intro ac w β S
 refine (nt (S.c (((a).length : Int) != ((b).length : Int)) (fun h1 => ?_) (fun h1 => ?_)))
 ·have g2 : ¬ (((a).length : Int) = ((b).length : Int)) := bne_iff_ne.1 h1
  refine ws (rg ?_)
  refine S.qe 1 [] [(4, .v (B false))] ?_; clear S; intro ac w β S
  exact (nt (wr (rt (S.r [B false] ⟨retB k0_laws_eqBoolS, S.chg⟩))))
 ·have g3 : ((a).length : Int) = ((b).length : Int) := ne_f h1
  refine wk (nt (ws (ws (rg ?_))))
  refine S.qe 1 [] [(5, .v (I 0))] ?_; clear S; intro ac w β S
  refine (nt (wp_block ?_))
  refine wp_loop_down (fun mm ac w => ∃ (k : Nat)  (u : World) (N : Bl) (β : Nat → Nat), mm = a.length - k ∧ (k ≤ a.length) ∧ (a.length = b.length) ∧ (a.take k = b.take k) ∧ St Tryz.prog Tryz.f150.ntmps w0 NoB u N β ⟨[(0, .v (slv (a).length pa.1)), (1, .v (slv (b).length pb.1)), (5, .v (I (k : Int)))], []⟩ ac w) _ ⟨0, _, _, _, rfl, (by first | omega | (simp; done) | (simp; omega)), (by first | omega | (simp; done) | (simp; omega)), (by simp), S.z⟩ ?_
  clear S
  rintro mm ac w ⟨k, u, N, β, rfl, hk, hab, he, S⟩
  refine ws (ws (rg ?_))
  refine S.qe 4 [] [(14, .v (B (decide ((k : Int) < ((a).length : Int)))))] ?_; clear S; intro ac w β S
  refine (nt (S.c (decide ((k : Int) < ((a).length : Int))) (fun h4 => ?_) (fun h4 => ?_)))
  ·have g5 := of_decide_eq_true h4
   refine wk (nt (ws (wp_block (ws ?_))))
   refine S.drawn (keep := [0, 1, 5, 25]) (m := 0) (σ' := ⟨[(0, .v (slv (a).length pa.1)), (1, .v (slv (b).length pb.1)), (5, .v (I (k : Int))), (25, .v (B (!((el a k) == (el b k)))))], []⟩) (.cons (Q_idx (S.arg ha) (l := (a).length) (k := k) (i := (k : Int)) rfl rfl (by omega) Tryz.underlying62 (by kernel_rfl)) (.cons (Q_el1 (S.arg ha) (t := 4) (k := k) (by omega) rfl (by kernel_rfl)) (.cons (Q_idx (S.arg hb) (l := (b).length) (k := k) (i := (k : Int)) rfl rfl (by omega) Tryz.underlying62 (by kernel_rfl)) (.cons (Q_el1 (S.arg hb) (t := 4) (k := k) (by omega) rfl (by kernel_rfl)) .nil)))) rfl (by kernel_rfl) (by kernel_rfl) ?_
   clear S; intro ac w S
   refine id (nt (S.c (!((el a k) == (el b k))) (fun h6 => ?_) (fun h6 => ?_)))
   ·have h7 := not_t h6
    have g8 : ¬ ((el a k) = (el b k)) := ne_of_beq_false h7
    refine ws (rg ?_)
    refine S.qe 1 [] [(4, .v (B false))] ?_; clear S; intro ac w β S
    exact (nt (wr (rb (rt (rt (rb (rt (S.r [B false] ⟨retB k0_laws_eqBoolS, S.chg⟩))))))))
   ·have h9 := not_f h6
    have g10 : (el a k) = (el b k) := eq_of_beq h9
    refine wk (nb (nt (rg ?_)))
    refine S.qg 3 [] [(5, .v (I ((k : Int) + 1)))] (.cons (Q_add (x := (k : Int)) (y := 1) ⟨by omega, by omega⟩) .nil) ?_; clear S; intro ac w β S
    refine (nt ?_)
    refine ⟨a.length - (k + 1), by omega, k + 1, _, _, _, rfl, ?_, ?_, ?_, S.z⟩
    ·clear S; first | omega | (simp [*]; done) | (simp [*]; omega)
    ·clear S; first | omega | (simp [*]; done) | (simp [*]; omega)
    ·clear S; exact take_eq_step (by omega) (by omega) he (by simp_all)
  ·have g11 := of_decide_eq_false h4
   refine wp_exit (ex_then (ex_then (ex_hit (nt (ws (rg ?_))))))
   refine S.qe 1 [] [(4, .v (B true))] ?_; clear S; intro ac w β S
   exact (nt (wr (S.r [B true] ⟨retB k0_laws_eqBoolS, S.chg⟩)))

theorem k0_laws_eqIns {p : Prop} (h : p := by clear S; first | (simp [TIns.ext_iff, *]; done) | (simp_all [TIns.ext_iff]; done)) : p := h
set_option maxRecDepth 100000 in
theorem c_laws_eqIns (w0 : World) (a : TIns) (b : TIns) : Calls Tryz.prog 204 [GT.val a (), GT.val b ()].toArray w0 (fun e w' => e = .returned (B (decide (a = b))) ∧ Chg NoB w0 w') := by
 refine Calls.walk (args := [GT.val a (), GT.val b ()]) NoB Tryz.func204 rfl rfl ?_
 intro ac β S
 refine ws (rg ?_)
 refine S.qem 3 [] [(2, .p 0 0), (3, .p 1 0)] 2 [(0, GT.cells a ()), (1, GT.cells b ())] ?_; clear S; intro ac w β S
 refine (nt (ws (ws (rg ?_))))
 refine S.qe 5 [] [(9, .v (B (a.opc != b.opc)))] ?_; clear S; intro ac w β S
 refine (nt (S.c (a.opc != b.opc) (fun h1 => ?_) (fun h1 => ?_)))
 ·have g2 : ¬ (a.opc = b.opc) := bne_iff_ne.1 h1
  refine ws (rg ?_)
  refine S.qe 1 [] [(4, .v (B false))] ?_; clear S; intro ac w β S
  exact (nt (wr (rt (S.r [B false] ⟨retB k0_laws_eqIns, S.chg⟩))))
 ·have g3 : a.opc = b.opc := ne_f h1
  refine wk (nt (ws (ws (rg ?_))))
  refine S.qem 5 [] [(14, .v (B (a.x != b.x)))] 0 [] ?_; clear S; intro ac w β S
  refine (nt (S.c (a.x != b.x) (fun h4 => ?_) (fun h4 => ?_)))
  ·have g5 : ¬ (a.x = b.x) := bne_iff_ne.1 h4
   refine ws (rg ?_)
   refine S.qe 1 [] [(4, .v (B false))] ?_; clear S; intro ac w β S
   exact (nt (wr (rt (S.r [B false] ⟨retB k0_laws_eqIns, S.chg⟩))))
  ·have g6 : a.x = b.x := ne_f h4
   refine wk (nt (ws (rg ?_)))
   refine S.qe 1 [] [(4, .v (B true))] ?_; clear S; intro ac w β S
   exact (nt (wr (S.r [B true] ⟨retB k0_laws_eqIns, S.chg⟩)))

theorem k0_laws_eqInsS {p : Prop} (h : p := by clear S; first | (simp; intro e; subst e; simp_all; done) | (simp; rw [take_all (by omega), take_all (by omega)] at he; exact he) | (simp; exact take_ne (by simp_all))) : p := h
set_option maxRecDepth 100000 in
theorem c_laws_eqInsS (w0 : World) (a : List TIns) (pa : LP TIns) (ha : GT.rd KK (Lt w0.heap.size) w0 a pa) (b : List TIns) (pb : LP TIns) (hb : GT.rd KK (Lt w0.heap.size) w0 b pb) : Calls Tryz.prog 194 [slv (a).length pa.1, slv (b).length pb.1].toArray w0 (fun e w' => e = .returned (B (decide (a = b))) ∧ Chg NoB w0 w') := by
 refine Calls.walk (args := [slv (a).length pa.1, slv (b).length pb.1]) NoB Tryz.func194 rfl rfl ?_
 intro ac β S
 have hlea : a.length ≤ 4194304 := LRd.le ha
 have hleb : b.length ≤ 4194304 := LRd.le hb
 refine ws (rg ?_)
 refine S.qe 1 [] [] ?_; clear S; intro ac w β S
 refine (nt (ws (ws (rg ?_))))
 refine S.qe 5 [] [(10, .v (B (((a).length : Int) != ((b).length : Int))))] ?_; clear S; intro ac w β S
 refine (nt (S.c (((a).length : Int) != ((b).length : Int)) (fun h1 => ?_) (fun h1 => ?_)))
 ·have g2 : ¬ (((a).length : Int) = ((b).length : Int)) := bne_iff_ne.1 h1
  refine ws (rg ?_)
  refine S.qe 1 [] [(4, .v (B false))] ?_; clear S; intro ac w β S
  exact (nt (wr (rt (S.r [B false] ⟨retB k0_laws_eqInsS, S.chg⟩))))
 ·have g3 : ((a).length : Int) = ((b).length : Int) := ne_f h1
  refine wk (nt (ws (ws (rg ?_))))
  refine S.qe 1 [] [(5, .v (I 0))] ?_; clear S; intro ac w β S
  refine (nt (wp_block ?_))
  refine wp_loop_down (fun mm ac w => ∃ (k : Nat)  (u : World) (N : Bl) (β : Nat → Nat), mm = a.length - k ∧ (k ≤ a.length) ∧ (a.length = b.length) ∧ (a.take k = b.take k) ∧ St Tryz.prog Tryz.f194.ntmps w0 NoB u N β ⟨[(0, .v (slv (a).length pa.1)), (1, .v (slv (b).length pb.1)), (5, .v (I (k : Int)))], []⟩ ac w) _ ⟨0, _, _, _, rfl, (by first | omega | (simp; done) | (simp; omega)), (by first | omega | (simp; done) | (simp; omega)), (by simp), S.z⟩ ?_
  clear S
  rintro mm ac w ⟨k, u, N, β, rfl, hk, hab, he, S⟩
  refine ws (ws (rg ?_))
  refine S.qe 4 [] [(14, .v (B (decide ((k : Int) < ((a).length : Int)))))] ?_; clear S; intro ac w β S
  refine (nt (S.c (decide ((k : Int) < ((a).length : Int))) (fun h4 => ?_) (fun h4 => ?_)))
  ·have g5 := of_decide_eq_true h4
   refine wk (nt (ws (wp_block (ws ?_))))
   refine S.drawn (keep := [0, 1, 5, 26]) (m := 0) (σ' := ⟨[(0, .v (slv (a).length pa.1)), (1, .v (slv (b).length pb.1)), (5, .v (I (k : Int))), (26, .v (B (!(decide ((el a k) = (el b k))))))], []⟩) (.cons (Q_idx (S.arg ha) (l := (a).length) (k := k) (i := (k : Int)) rfl rfl (by omega) Tryz.underlying95 (by kernel_rfl)) (.cons (Q_el (S.arg ha) (t := 181) (k := k) (by omega) rfl (by kernel_rfl) (by kernel_rfl)) (.cons (Q_idx (S.arg hb) (l := (b).length) (k := k) (i := (k : Int)) rfl rfl (by omega) Tryz.underlying95 (by kernel_rfl)) (.cons (Q_el (S.arg hb) (t := 181) (k := k) (by omega) rfl (by kernel_rfl) (by kernel_rfl)) (.cons (Q_call fun w hw => c_laws_eqIns w (el a k) (el b k)) .nil))))) rfl (by kernel_rfl) (by kernel_rfl) ?_
   clear S; intro ac w S
   refine id (nt (S.c (!(decide ((el a k) = (el b k)))) (fun h6 => ?_) (fun h6 => ?_)))
   ·have h7 := not_t h6
    have g8 := of_decide_eq_false h7
    refine ws (rg ?_)
    refine S.qe 1 [] [(4, .v (B false))] ?_; clear S; intro ac w β S
    exact (nt (wr (rb (rt (rt (rb (rt (S.r [B false] ⟨retB k0_laws_eqInsS, S.chg⟩))))))))
   ·have h9 := not_f h6
    have g10 := of_decide_eq_true h9
    refine wk (nb (nt (rg ?_)))
    refine S.qg 3 [] [(5, .v (I ((k : Int) + 1)))] (.cons (Q_add (x := (k : Int)) (y := 1) ⟨by omega, by omega⟩) .nil) ?_; clear S; intro ac w β S
    refine (nt ?_)
    refine ⟨a.length - (k + 1), by omega, k + 1, _, _, _, rfl, ?_, ?_, ?_, S.z⟩
    ·clear S; first | omega | (simp [*]; done) | (simp [*]; omega)
    ·clear S; first | omega | (simp [*]; done) | (simp [*]; omega)
    ·clear S; exact take_eq_step (by omega) (by omega) he (by simp_all)
  ·have g11 := of_decide_eq_false h4
   refine wp_exit (ex_then (ex_then (ex_hit (nt (ws (rg ?_))))))
   refine S.qe 1 [] [(4, .v (B true))] ?_; clear S; intro ac w β S
   exact (nt (wr (S.r [B true] ⟨retB k0_laws_eqInsS, S.chg⟩)))

theorem k0_laws_eqCtl {p : Prop} (h : p := by clear S; first | (simp [TCtl.ext_iff, *]; done) | (simp_all [TCtl.ext_iff]; done)) : p := h
set_option maxRecDepth 100000 in
theorem c_laws_eqCtl (w0 : World) (a : TCtl) (b : TCtl) : Calls Tryz.prog 195 [GT.val a (), GT.val b ()].toArray w0 (fun e w' => e = .returned (B (decide (a = b))) ∧ Chg NoB w0 w') := by
 refine Calls.walk (args := [GT.val a (), GT.val b ()]) NoB Tryz.func195 rfl rfl ?_
 intro ac β S
 refine ws (rg ?_)
 refine S.qem 3 [] [(2, .p 0 0), (3, .p 1 0)] 2 [(0, GT.cells a ()), (1, GT.cells b ())] ?_; clear S; intro ac w β S
 refine (nt (ws (ws (rg ?_))))
 refine S.qe 5 [] [(9, .v (B (a.traps != b.traps)))] ?_; clear S; intro ac w β S
 refine (nt (S.c (a.traps != b.traps) (fun h1 => ?_) (fun h1 => ?_)))
 ·have g2 : ¬ (a.traps = b.traps) := bne_iff_ne.1 h1
  refine ws (rg ?_)
  refine S.qe 1 [] [(4, .v (B false))] ?_; clear S; intro ac w β S
  exact (nt (wr (rt (S.r [B false] ⟨retB k0_laws_eqCtl, S.chg⟩))))
 ·have g3 : a.traps = b.traps := ne_f h1
  refine wk (nt (ws (ws (rg ?_))))
  refine S.qe 5 [] [(14, .v (B (a.post != b.post)))] ?_; clear S; intro ac w β S
  refine (nt (S.c (a.post != b.post) (fun h4 => ?_) (fun h4 => ?_)))
  ·have g5 : ¬ (a.post = b.post) := bne_iff_ne.1 h4
   refine ws (rg ?_)
   refine S.qe 1 [] [(4, .v (B false))] ?_; clear S; intro ac w β S
   exact (nt (wr (rt (S.r [B false] ⟨retB k0_laws_eqCtl, S.chg⟩))))
  ·have g6 : a.post = b.post := ne_f h4
   refine wk (nt (ws (ws (rg ?_))))
   refine S.qem 5 [] [(19, .v (B (!(a.opn == b.opn))))] 0 [] ?_; clear S; intro ac w β S
   refine (nt (S.c (!(a.opn == b.opn)) (fun h7 => ?_) (fun h7 => ?_)))
   ·have h8 := not_t h7
    have g9 : ¬ (a.opn = b.opn) := ne_of_beq_false h8
    refine ws (rg ?_)
    refine S.qe 1 [] [(4, .v (B false))] ?_; clear S; intro ac w β S
    exact (nt (wr (rt (S.r [B false] ⟨retB k0_laws_eqCtl, S.chg⟩))))
   ·have h10 := not_f h7
    have g11 : a.opn = b.opn := eq_of_beq h10
    refine wk (nt (ws (rg ?_)))
    refine S.qe 1 [] [(4, .v (B true))] ?_; clear S; intro ac w β S
    exact (nt (wr (S.r [B true] ⟨retB k0_laws_eqCtl, S.chg⟩)))

theorem k0_laws_eqExit {p : Prop} (h : p := by clear S; first | (simp [TExit.ext_iff, *]; done) | (simp_all [TExit.ext_iff]; done)) : p := h
set_option maxRecDepth 100000 in
theorem c_laws_eqExit (w0 : World) (a : TExit) (b : TExit) : Calls Tryz.prog 196 [GT.val a (), GT.val b ()].toArray w0 (fun e w' => e = .returned (B (decide (a = b))) ∧ Chg NoB w0 w') := by
 refine Calls.walk (args := [GT.val a (), GT.val b ()]) NoB Tryz.func196 rfl rfl ?_
 intro ac β S
 refine ws (rg ?_)
 refine S.qem 3 [] [(2, .p 0 0), (3, .p 1 0)] 2 [(0, GT.cells a ()), (1, GT.cells b ())] ?_; clear S; intro ac w β S
 refine (nt (ws (ws (rg ?_))))
 refine S.qe 5 [] [(9, .v (B (a.kind != b.kind)))] ?_; clear S; intro ac w β S
 refine (nt (S.c (a.kind != b.kind) (fun h1 => ?_) (fun h1 => ?_)))
 ·have g2 : ¬ (a.kind = b.kind) := bne_iff_ne.1 h1
  refine ws (rg ?_)
  refine S.qe 1 [] [(4, .v (B false))] ?_; clear S; intro ac w β S
  exact (nt (wr (rt (S.r [B false] ⟨retB k0_laws_eqExit, S.chg⟩))))
 ·have g3 : a.kind = b.kind := ne_f h1
  refine wk (nt (ws (ws (rg ?_))))
  refine S.qe 5 [] [(14, .v (B (a.page != b.page)))] ?_; clear S; intro ac w β S
  refine (nt (S.c (a.page != b.page) (fun h4 => ?_) (fun h4 => ?_)))
  ·have g5 : ¬ (a.page = b.page) := bne_iff_ne.1 h4
   refine ws (rg ?_)
   refine S.qe 1 [] [(4, .v (B false))] ?_; clear S; intro ac w β S
   exact (nt (wr (rt (S.r [B false] ⟨retB k0_laws_eqExit, S.chg⟩))))
  ·have g6 : a.page = b.page := ne_f h4
   refine wk (nt (ws (ws (rg ?_))))
   refine S.qe 5 [] [(19, .v (B (!(a.wr == b.wr))))] ?_; clear S; intro ac w β S
   refine (nt (S.c (!(a.wr == b.wr)) (fun h7 => ?_) (fun h7 => ?_)))
   ·have h8 := not_t h7
    have g9 : ¬ (a.wr = b.wr) := ne_of_beq_false h8
    refine ws (rg ?_)
    refine S.qe 1 [] [(4, .v (B false))] ?_; clear S; intro ac w β S
    exact (nt (wr (rt (S.r [B false] ⟨retB k0_laws_eqExit, S.chg⟩))))
   ·have h10 := not_f h7
    have g11 : a.wr = b.wr := eq_of_beq h10
    refine wk (nt (ws (ws (rg ?_))))
    refine S.qem 5 [] [(24, .v (B (a.n != b.n)))] 0 [] ?_; clear S; intro ac w β S
    refine (nt (S.c (a.n != b.n) (fun h12 => ?_) (fun h12 => ?_)))
    ·have g13 : ¬ (a.n = b.n) := bne_iff_ne.1 h12
     refine ws (rg ?_)
     refine S.qe 1 [] [(4, .v (B false))] ?_; clear S; intro ac w β S
     exact (nt (wr (rt (S.r [B false] ⟨retB k0_laws_eqExit, S.chg⟩))))
    ·have g14 : a.n = b.n := ne_f h12
     refine wk (nt (ws (rg ?_)))
     refine S.qe 1 [] [(4, .v (B true))] ?_; clear S; intro ac w β S
     exact (nt (wr (S.r [B true] ⟨retB k0_laws_eqExit, S.chg⟩)))

theorem k0_laws_eqGuest {p : Prop} (h : p := by clear S; first | (simp [TGuest.ext_iff, *]; done) | (simp_all [TGuest.ext_iff]; done)) : p := h
set_option maxRecDepth 100000 in
theorem c_laws_eqGuest (w0 : World) (a : TGuest) (pa : PGuest) (ha : GT.rd KK (Lt w0.heap.size) w0 a pa) (b : TGuest) (pb : PGuest) (hb : GT.rd KK (Lt w0.heap.size) w0 b pb) : Calls Tryz.prog 179 [GT.val a pa, GT.val b pb].toArray w0 (fun e w' => e = .returned (B (decide (a = b))) ∧ Chg NoB w0 w') := by
 refine Calls.walk (args := [GT.val a pa, GT.val b pb]) NoB Tryz.func179 rfl rfl ?_
 intro ac β S
 have hlea_prog : a.prog.length ≤ 4194304 := LRd.le (RGuest.prog (d := a) ha)
 have hlea_written : a.written.length ≤ 4194304 := LRd.le (RGuest.written (d := a) ha)
 have hlea_live : a.live.length ≤ 4194304 := LRd.le (RGuest.live (d := a) ha)
 have hlea_seen : a.seen.length ≤ 4194304 := LRd.le (RGuest.seen (d := a) ha)
 have hleb_prog : b.prog.length ≤ 4194304 := LRd.le (RGuest.prog (d := b) hb)
 have hleb_written : b.written.length ≤ 4194304 := LRd.le (RGuest.written (d := b) hb)
 have hleb_live : b.live.length ≤ 4194304 := LRd.le (RGuest.live (d := b) hb)
 have hleb_seen : b.seen.length ≤ 4194304 := LRd.le (RGuest.seen (d := b) hb)
 refine ws (rg ?_)
 refine S.qem 3 [] [(2, .p 0 0), (3, .p 1 0)] 2 [(0, GT.cells a pa), (1, GT.cells b pb)] ?_; clear S; intro ac w β S
 refine (nt (ws (ws (rg ?_))))
 refine S.qg 6 [] [(10, .v (B (!(decide (a.prog = b.prog)))))] (.cons (Q_call fun w hw => c_laws_eqInsS w a.prog pa.prog (rd_of (RGuest.prog (d := a) (S.arg ha)) hw) b.prog pb.prog (rd_of (RGuest.prog (d := b) (S.arg hb)) hw)) .nil) ?_; clear S; intro ac w β S
 refine (nt (S.c (!(decide (a.prog = b.prog))) (fun h1 => ?_) (fun h1 => ?_)))
 ·have h2 := not_t h1
  have g3 := of_decide_eq_false h2
  refine ws (rg ?_)
  refine S.qe 1 [] [(4, .v (B false))] ?_; clear S; intro ac w β S
  exact (nt (wr (rt (S.r [B false] ⟨retB k0_laws_eqGuest, S.chg⟩))))
 ·have h4 := not_f h1
  have g5 := of_decide_eq_true h4
  refine wk (nt (ws (ws (rg ?_))))
  refine S.qe 5 [] [(15, .v (B (a.acc != b.acc)))] ?_; clear S; intro ac w β S
  refine (nt (S.c (a.acc != b.acc) (fun h6 => ?_) (fun h6 => ?_)))
  ·have g7 : ¬ (a.acc = b.acc) := bne_iff_ne.1 h6
   refine ws (rg ?_)
   refine S.qe 1 [] [(4, .v (B false))] ?_; clear S; intro ac w β S
   exact (nt (wr (rt (S.r [B false] ⟨retB k0_laws_eqGuest, S.chg⟩))))
  ·have g8 : a.acc = b.acc := ne_f h6
   refine wk (nt (ws (ws (rg ?_))))
   refine S.qe 5 [] [(20, .v (B (a.pc != b.pc)))] ?_; clear S; intro ac w β S
   refine (nt (S.c (a.pc != b.pc) (fun h9 => ?_) (fun h9 => ?_)))
   ·have g10 : ¬ (a.pc = b.pc) := bne_iff_ne.1 h9
    refine ws (rg ?_)
    refine S.qe 1 [] [(4, .v (B false))] ?_; clear S; intro ac w β S
    exact (nt (wr (rt (S.r [B false] ⟨retB k0_laws_eqGuest, S.chg⟩))))
   ·have g11 : a.pc = b.pc := ne_f h9
    refine wk (nt (ws (ws (rg ?_))))
    refine S.qg 6 [] [(26, .v (B (!(decide (a.written = b.written)))))] (.cons (Q_call fun w hw => c_laws_eqSlotS w a.written pa.written (rd_of (RGuest.written (d := a) (S.arg ha)) hw) b.written pb.written (rd_of (RGuest.written (d := b) (S.arg hb)) hw)) .nil) ?_; clear S; intro ac w β S
    refine (nt (S.c (!(decide (a.written = b.written))) (fun h12 => ?_) (fun h12 => ?_)))
    ·have h13 := not_t h12
     have g14 := of_decide_eq_false h13
     refine ws (rg ?_)
     refine S.qe 1 [] [(4, .v (B false))] ?_; clear S; intro ac w β S
     exact (nt (wr (rt (S.r [B false] ⟨retB k0_laws_eqGuest, S.chg⟩))))
    ·have h15 := not_f h12
     have g16 := of_decide_eq_true h15
     refine wk (nt (ws (ws (rg ?_))))
     refine S.qg 6 [] [(32, .v (B (!(decide (a.live = b.live)))))] (.cons (Q_call fun w hw => c_laws_eqSlotS w a.live pa.live (rd_of (RGuest.live (d := a) (S.arg ha)) hw) b.live pb.live (rd_of (RGuest.live (d := b) (S.arg hb)) hw)) .nil) ?_; clear S; intro ac w β S
     refine (nt (S.c (!(decide (a.live = b.live))) (fun h17 => ?_) (fun h17 => ?_)))
     ·have h18 := not_t h17
      have g19 := of_decide_eq_false h18
      refine ws (rg ?_)
      refine S.qe 1 [] [(4, .v (B false))] ?_; clear S; intro ac w β S
      exact (nt (wr (rt (S.r [B false] ⟨retB k0_laws_eqGuest, S.chg⟩))))
     ·have h20 := not_f h17
      have g21 := of_decide_eq_true h20
      refine wk (nt (ws (ws (rg ?_))))
      refine S.qg 6 [] [(38, .v (B (!(decide (a.ctl = b.ctl)))))] (.cons (Q_call fun w hw => c_laws_eqCtl w a.ctl b.ctl) .nil) ?_; clear S; intro ac w β S
      refine (nt (S.c (!(decide (a.ctl = b.ctl))) (fun h22 => ?_) (fun h22 => ?_)))
      ·have h23 := not_t h22
       have g24 := of_decide_eq_false h23
       refine ws (rg ?_)
       refine S.qe 1 [] [(4, .v (B false))] ?_; clear S; intro ac w β S
       exact (nt (wr (rt (S.r [B false] ⟨retB k0_laws_eqGuest, S.chg⟩))))
      ·have h25 := not_f h22
       have g26 := of_decide_eq_true h25
       refine wk (nt (ws (ws (rg ?_))))
       refine S.qe 5 [] [(43, .v (B (a.pend != b.pend)))] ?_; clear S; intro ac w β S
       refine (nt (S.c (a.pend != b.pend) (fun h27 => ?_) (fun h27 => ?_)))
       ·have g28 : ¬ (a.pend = b.pend) := bne_iff_ne.1 h27
        refine ws (rg ?_)
        refine S.qe 1 [] [(4, .v (B false))] ?_; clear S; intro ac w β S
        exact (nt (wr (rt (S.r [B false] ⟨retB k0_laws_eqGuest, S.chg⟩))))
       ·have g29 : a.pend = b.pend := ne_f h27
        refine wk (nt (ws (ws (rg ?_))))
        refine S.qg 6 [] [(49, .v (B (!(decide (a.exit = b.exit)))))] (.cons (Q_call fun w hw => c_laws_eqExit w a.exit b.exit) .nil) ?_; clear S; intro ac w β S
        refine (nt (S.c (!(decide (a.exit = b.exit))) (fun h30 => ?_) (fun h30 => ?_)))
        ·have h31 := not_t h30
         have g32 := of_decide_eq_false h31
         refine ws (rg ?_)
         refine S.qe 1 [] [(4, .v (B false))] ?_; clear S; intro ac w β S
         exact (nt (wr (rt (S.r [B false] ⟨retB k0_laws_eqGuest, S.chg⟩))))
        ·have h33 := not_f h30
         have g34 := of_decide_eq_true h33
         refine wk (nt (ws (ws (rg ?_))))
         refine S.qe 5 [] [(54, .v (B (!(a.halted == b.halted))))] ?_; clear S; intro ac w β S
         refine (nt (S.c (!(a.halted == b.halted)) (fun h35 => ?_) (fun h35 => ?_)))
         ·have h36 := not_t h35
          have g37 : ¬ (a.halted = b.halted) := ne_of_beq_false h36
          refine ws (rg ?_)
          refine S.qe 1 [0, 1, 2, 3, 10, 15, 20, 26, 32, 38, 43, 49, 54] [(4, .v (B false))] ?_; clear S; intro ac w β S
          exact (nt (wr (rt (S.r [B false] ⟨retB k0_laws_eqGuest, S.chg⟩))))
         ·have h38 := not_f h35
          have g39 : a.halted = b.halted := eq_of_beq h38
          refine wk (nt (ws (ws (rg ?_))))
          refine S.qgm 6 [0, 1, 2, 3, 10, 15, 20, 26, 32, 38, 43, 49, 54] [(60, .v (B (!(decide (a.seen = b.seen)))))] (.cons (Q_call fun w hw => c_laws_eqIntS w a.seen pa.seen (rd_of (RGuest.seen (d := a) (S.arg ha)) hw) b.seen pb.seen (rd_of (RGuest.seen (d := b) (S.arg hb)) hw)) .nil) 0 [] ?_; clear S; intro ac w β S
          refine (nt (S.c (!(decide (a.seen = b.seen))) (fun h40 => ?_) (fun h40 => ?_)))
          ·have h41 := not_t h40
           have g42 := of_decide_eq_false h41
           refine ws (rg ?_)
           refine S.qe 1 [] [(4, .v (B false))] ?_; clear S; intro ac w β S
           exact (nt (wr (rt (S.r [B false] ⟨retB k0_laws_eqGuest, S.chg⟩))))
          ·have h43 := not_f h40
           have g44 := of_decide_eq_true h43
           refine wk (nt (ws (rg ?_)))
           refine S.qe 1 [] [(4, .v (B true))] ?_; clear S; intro ac w β S
           exact (nt (wr (S.r [B true] ⟨retB k0_laws_eqGuest, S.chg⟩)))

theorem k0_laws_eqGuestS {p : Prop} (h : p := by clear S; first | (simp; intro e; subst e; simp_all; done) | (simp; rw [take_all (by omega), take_all (by omega)] at he; exact he) | (simp; exact take_ne (by simp_all))) : p := h
set_option maxRecDepth 100000 in
theorem c_laws_eqGuestS (w0 : World) (a : List TGuest) (pa : LP TGuest) (ha : GT.rd KK (Lt w0.heap.size) w0 a pa) (b : List TGuest) (pb : LP TGuest) (hb : GT.rd KK (Lt w0.heap.size) w0 b pb) : Calls Tryz.prog 151 [slv (a).length pa.1, slv (b).length pb.1].toArray w0 (fun e w' => e = .returned (B (decide (a = b))) ∧ Chg NoB w0 w') := by
 refine Calls.walk (args := [slv (a).length pa.1, slv (b).length pb.1]) NoB Tryz.func151 rfl rfl ?_
 intro ac β S
 have hlea : a.length ≤ 4194304 := LRd.le ha
 have hleb : b.length ≤ 4194304 := LRd.le hb
 refine ws (rg ?_)
 refine S.qe 1 [] [] ?_; clear S; intro ac w β S
 refine (nt (ws (ws (rg ?_))))
 refine S.qe 5 [] [(10, .v (B (((a).length : Int) != ((b).length : Int))))] ?_; clear S; intro ac w β S
 refine (nt (S.c (((a).length : Int) != ((b).length : Int)) (fun h1 => ?_) (fun h1 => ?_)))
 ·have g2 : ¬ (((a).length : Int) = ((b).length : Int)) := bne_iff_ne.1 h1
  refine ws (rg ?_)
  refine S.qe 1 [] [(4, .v (B false))] ?_; clear S; intro ac w β S
  exact (nt (wr (rt (S.r [B false] ⟨retB k0_laws_eqGuestS, S.chg⟩))))
 ·have g3 : ((a).length : Int) = ((b).length : Int) := ne_f h1
  refine wk (nt (ws (ws (rg ?_))))
  refine S.qe 1 [] [(5, .v (I 0))] ?_; clear S; intro ac w β S
  refine (nt (wp_block ?_))
  refine wp_loop_down (fun mm ac w => ∃ (k : Nat)  (u : World) (N : Bl) (β : Nat → Nat), mm = a.length - k ∧ (k ≤ a.length) ∧ (a.length = b.length) ∧ (a.take k = b.take k) ∧ St Tryz.prog Tryz.f151.ntmps w0 NoB u N β ⟨[(0, .v (slv (a).length pa.1)), (1, .v (slv (b).length pb.1)), (5, .v (I (k : Int)))], []⟩ ac w) _ ⟨0, _, _, _, rfl, (by first | omega | (simp; done) | (simp; omega)), (by first | omega | (simp; done) | (simp; omega)), (by simp), S.z⟩ ?_
  clear S
  rintro mm ac w ⟨k, u, N, β, rfl, hk, hab, he, S⟩
  refine ws (ws (rg ?_))
  refine S.qe 4 [] [(14, .v (B (decide ((k : Int) < ((a).length : Int)))))] ?_; clear S; intro ac w β S
  refine (nt (S.c (decide ((k : Int) < ((a).length : Int))) (fun h4 => ?_) (fun h4 => ?_)))
  ·have g5 := of_decide_eq_true h4
   refine wk (nt (ws (wp_block (ws ?_))))
   refine S.drawn (keep := [0, 1, 5, 26]) (m := 0) (σ' := ⟨[(0, .v (slv (a).length pa.1)), (1, .v (slv (b).length pb.1)), (5, .v (I (k : Int))), (26, .v (B (!(decide ((el a k) = (el b k))))))], []⟩) (.cons (Q_idx (S.arg ha) (l := (a).length) (k := k) (i := (k : Int)) rfl rfl (by omega) Tryz.underlying54 (by kernel_rfl)) (.cons (Q_el (S.arg ha) (t := 101) (k := k) (by omega) rfl (by kernel_rfl) (by kernel_rfl)) (.cons (Q_idx (S.arg hb) (l := (b).length) (k := k) (i := (k : Int)) rfl rfl (by omega) Tryz.underlying54 (by kernel_rfl)) (.cons (Q_el (S.arg hb) (t := 101) (k := k) (by omega) rfl (by kernel_rfl) (by kernel_rfl)) (.cons (Q_call fun w hw => c_laws_eqGuest w (el a k) (pa.2 k) (rd_of (LRd.el (S.arg ha) k (by omega)) hw) (el b k) (pb.2 k) (rd_of (LRd.el (S.arg hb) k (by omega)) hw)) .nil))))) rfl (by kernel_rfl) (by kernel_rfl) ?_
   clear S; intro ac w S
   refine id (nt (S.c (!(decide ((el a k) = (el b k)))) (fun h6 => ?_) (fun h6 => ?_)))
   ·have h7 := not_t h6
    have g8 := of_decide_eq_false h7
    refine ws (rg ?_)
    refine S.qe 1 [] [(4, .v (B false))] ?_; clear S; intro ac w β S
    exact (nt (wr (rb (rt (rt (rb (rt (S.r [B false] ⟨retB k0_laws_eqGuestS, S.chg⟩))))))))
   ·have h9 := not_f h6
    have g10 := of_decide_eq_true h9
    refine wk (nb (nt (rg ?_)))
    refine S.qg 3 [] [(5, .v (I ((k : Int) + 1)))] (.cons (Q_add (x := (k : Int)) (y := 1) ⟨by omega, by omega⟩) .nil) ?_; clear S; intro ac w β S
    refine (nt ?_)
    refine ⟨a.length - (k + 1), by omega, k + 1, _, _, _, rfl, ?_, ?_, ?_, S.z⟩
    ·clear S; first | omega | (simp [*]; done) | (simp [*]; omega)
    ·clear S; first | omega | (simp [*]; done) | (simp [*]; omega)
    ·clear S; exact take_eq_step (by omega) (by omega) he (by simp_all)
  ·have g11 := of_decide_eq_false h4
   refine wp_exit (ex_then (ex_then (ex_hit (nt (ws (rg ?_))))))
   refine S.qe 1 [] [(4, .v (B true))] ?_; clear S; intro ac w β S
   exact (nt (wr (S.r [B true] ⟨retB k0_laws_eqGuestS, S.chg⟩)))

theorem k0_laws_eqKept {p : Prop} (h : p := by clear S; first | (simp [TKept.ext_iff, *]; done) | (simp_all [TKept.ext_iff]; done)) : p := h
set_option maxRecDepth 100000 in
theorem c_laws_eqKept (w0 : World) (a : TKept) (pa : PKept) (ha : GT.rd KK (Lt w0.heap.size) w0 a pa) (b : TKept) (pb : PKept) (hb : GT.rd KK (Lt w0.heap.size) w0 b pb) : Calls Tryz.prog 180 [GT.val a pa, GT.val b pb].toArray w0 (fun e w' => e = .returned (B (decide (a = b))) ∧ Chg NoB w0 w') := by
 refine Calls.walk (args := [GT.val a pa, GT.val b pb]) NoB Tryz.func180 rfl rfl ?_
 intro ac β S
 have hlea_known : a.known.length ≤ 4194304 := LRd.le (RKept.known (d := a) ha)
 have hlea_slots : a.slots.length ≤ 4194304 := LRd.le (RKept.slots (d := a) ha)
 have hleb_known : b.known.length ≤ 4194304 := LRd.le (RKept.known (d := b) hb)
 have hleb_slots : b.slots.length ≤ 4194304 := LRd.le (RKept.slots (d := b) hb)
 refine ws (rg ?_)
 refine S.qem 3 [] [(2, .p 0 0), (3, .p 1 0)] 2 [(0, GT.cells a pa), (1, GT.cells b pb)] ?_; clear S; intro ac w β S
 refine (nt (ws (ws (rg ?_))))
 refine S.qg 6 [] [(10, .v (B (!(decide (a.known = b.known)))))] (.cons (Q_call fun w hw => c_laws_eqBoolS w a.known pa.known (rd_of (RKept.known (d := a) (S.arg ha)) hw) b.known pb.known (rd_of (RKept.known (d := b) (S.arg hb)) hw)) .nil) ?_; clear S; intro ac w β S
 refine (nt (S.c (!(decide (a.known = b.known))) (fun h1 => ?_) (fun h1 => ?_)))
 ·have h2 := not_t h1
  have g3 := of_decide_eq_false h2
  refine ws (rg ?_)
  refine S.qe 1 [] [(4, .v (B false))] ?_; clear S; intro ac w β S
  exact (nt (wr (rt (S.r [B false] ⟨retB k0_laws_eqKept, S.chg⟩))))
 ·have h4 := not_f h1
  have g5 := of_decide_eq_true h4
  refine wk (nt (ws (ws (rg ?_))))
  refine S.qgm 6 [] [(16, .v (B (!(decide (a.slots = b.slots)))))] (.cons (Q_call fun w hw => c_laws_eqSlotS w a.slots pa.slots (rd_of (RKept.slots (d := a) (S.arg ha)) hw) b.slots pb.slots (rd_of (RKept.slots (d := b) (S.arg hb)) hw)) .nil) 0 [] ?_; clear S; intro ac w β S
  refine (nt (S.c (!(decide (a.slots = b.slots))) (fun h6 => ?_) (fun h6 => ?_)))
  ·have h7 := not_t h6
   have g8 := of_decide_eq_false h7
   refine ws (rg ?_)
   refine S.qe 1 [] [(4, .v (B false))] ?_; clear S; intro ac w β S
   exact (nt (wr (rt (S.r [B false] ⟨retB k0_laws_eqKept, S.chg⟩))))
  ·have h9 := not_f h6
   have g10 := of_decide_eq_true h9
   refine wk (nt (ws (rg ?_)))
   refine S.qe 1 [] [(4, .v (B true))] ?_; clear S; intro ac w β S
   exact (nt (wr (S.r [B true] ⟨retB k0_laws_eqKept, S.chg⟩)))

theorem k0_laws_eqKeptS {p : Prop} (h : p := by clear S; first | (simp; intro e; subst e; simp_all; done) | (simp; rw [take_all (by omega), take_all (by omega)] at he; exact he) | (simp; exact take_ne (by simp_all))) : p := h
set_option maxRecDepth 100000 in
theorem c_laws_eqKeptS (w0 : World) (a : List TKept) (pa : LP TKept) (ha : GT.rd KK (Lt w0.heap.size) w0 a pa) (b : List TKept) (pb : LP TKept) (hb : GT.rd KK (Lt w0.heap.size) w0 b pb) : Calls Tryz.prog 152 [slv (a).length pa.1, slv (b).length pb.1].toArray w0 (fun e w' => e = .returned (B (decide (a = b))) ∧ Chg NoB w0 w') := by
 refine Calls.walk (args := [slv (a).length pa.1, slv (b).length pb.1]) NoB Tryz.func152 rfl rfl ?_
 intro ac β S
 have hlea : a.length ≤ 4194304 := LRd.le ha
 have hleb : b.length ≤ 4194304 := LRd.le hb
 refine ws (rg ?_)
 refine S.qe 1 [] [] ?_; clear S; intro ac w β S
 refine (nt (ws (ws (rg ?_))))
 refine S.qe 5 [] [(10, .v (B (((a).length : Int) != ((b).length : Int))))] ?_; clear S; intro ac w β S
 refine (nt (S.c (((a).length : Int) != ((b).length : Int)) (fun h1 => ?_) (fun h1 => ?_)))
 ·have g2 : ¬ (((a).length : Int) = ((b).length : Int)) := bne_iff_ne.1 h1
  refine ws (rg ?_)
  refine S.qe 1 [] [(4, .v (B false))] ?_; clear S; intro ac w β S
  exact (nt (wr (rt (S.r [B false] ⟨retB k0_laws_eqKeptS, S.chg⟩))))
 ·have g3 : ((a).length : Int) = ((b).length : Int) := ne_f h1
  refine wk (nt (ws (ws (rg ?_))))
  refine S.qe 1 [] [(5, .v (I 0))] ?_; clear S; intro ac w β S
  refine (nt (wp_block ?_))
  refine wp_loop_down (fun mm ac w => ∃ (k : Nat)  (u : World) (N : Bl) (β : Nat → Nat), mm = a.length - k ∧ (k ≤ a.length) ∧ (a.length = b.length) ∧ (a.take k = b.take k) ∧ St Tryz.prog Tryz.f152.ntmps w0 NoB u N β ⟨[(0, .v (slv (a).length pa.1)), (1, .v (slv (b).length pb.1)), (5, .v (I (k : Int)))], []⟩ ac w) _ ⟨0, _, _, _, rfl, (by first | omega | (simp; done) | (simp; omega)), (by first | omega | (simp; done) | (simp; omega)), (by simp), S.z⟩ ?_
  clear S
  rintro mm ac w ⟨k, u, N, β, rfl, hk, hab, he, S⟩
  refine ws (ws (rg ?_))
  refine S.qe 4 [] [(14, .v (B (decide ((k : Int) < ((a).length : Int)))))] ?_; clear S; intro ac w β S
  refine (nt (S.c (decide ((k : Int) < ((a).length : Int))) (fun h4 => ?_) (fun h4 => ?_)))
  ·have g5 := of_decide_eq_true h4
   refine wk (nt (ws (wp_block (ws ?_))))
   refine S.drawn (keep := [0, 1, 5, 26]) (m := 0) (σ' := ⟨[(0, .v (slv (a).length pa.1)), (1, .v (slv (b).length pb.1)), (5, .v (I (k : Int))), (26, .v (B (!(decide ((el a k) = (el b k))))))], []⟩) (.cons (Q_idx (S.arg ha) (l := (a).length) (k := k) (i := (k : Int)) rfl rfl (by omega) Tryz.underlying63 (by kernel_rfl)) (.cons (Q_el (S.arg ha) (t := 135) (k := k) (by omega) rfl (by kernel_rfl) (by kernel_rfl)) (.cons (Q_idx (S.arg hb) (l := (b).length) (k := k) (i := (k : Int)) rfl rfl (by omega) Tryz.underlying63 (by kernel_rfl)) (.cons (Q_el (S.arg hb) (t := 135) (k := k) (by omega) rfl (by kernel_rfl) (by kernel_rfl)) (.cons (Q_call fun w hw => c_laws_eqKept w (el a k) (pa.2 k) (rd_of (LRd.el (S.arg ha) k (by omega)) hw) (el b k) (pb.2 k) (rd_of (LRd.el (S.arg hb) k (by omega)) hw)) .nil))))) rfl (by kernel_rfl) (by kernel_rfl) ?_
   clear S; intro ac w S
   refine id (nt (S.c (!(decide ((el a k) = (el b k)))) (fun h6 => ?_) (fun h6 => ?_)))
   ·have h7 := not_t h6
    have g8 := of_decide_eq_false h7
    refine ws (rg ?_)
    refine S.qe 1 [] [(4, .v (B false))] ?_; clear S; intro ac w β S
    exact (nt (wr (rb (rt (rt (rb (rt (S.r [B false] ⟨retB k0_laws_eqKeptS, S.chg⟩))))))))
   ·have h9 := not_f h6
    have g10 := of_decide_eq_true h9
    refine wk (nb (nt (rg ?_)))
    refine S.qg 3 [] [(5, .v (I ((k : Int) + 1)))] (.cons (Q_add (x := (k : Int)) (y := 1) ⟨by omega, by omega⟩) .nil) ?_; clear S; intro ac w β S
    refine (nt ?_)
    refine ⟨a.length - (k + 1), by omega, k + 1, _, _, _, rfl, ?_, ?_, ?_, S.z⟩
    ·clear S; first | omega | (simp [*]; done) | (simp [*]; omega)
    ·clear S; first | omega | (simp [*]; done) | (simp [*]; omega)
    ·clear S; exact take_eq_step (by omega) (by omega) he (by simp_all)
  ·have g11 := of_decide_eq_false h4
   refine wp_exit (ex_then (ex_then (ex_hit (nt (ws (rg ?_))))))
   refine S.qe 1 [] [(4, .v (B true))] ?_; clear S; intro ac w β S
   exact (nt (wr (S.r [B true] ⟨retB k0_laws_eqKeptS, S.chg⟩)))

theorem k0_laws_eqMon {p : Prop} (h : p := by clear S; first | (simp [TMon.ext_iff, *]; done) | (simp_all [TMon.ext_iff]; done)) : p := h
set_option maxRecDepth 100000 in
theorem c_laws_eqMon (w0 : World) (a : TMon) (pa : PMon) (ha : GT.rd KK (Lt w0.heap.size) w0 a pa) (b : TMon) (pb : PMon) (hb : GT.rd KK (Lt w0.heap.size) w0 b pb) : Calls Tryz.prog 90 [GT.val a pa, GT.val b pb].toArray w0 (fun e w' => e = .returned (B (decide (a = b))) ∧ Chg NoB w0 w') := by
 refine Calls.walk (args := [GT.val a pa, GT.val b pb]) NoB Tryz.func90 rfl rfl ?_
 intro ac β S
 have hlea_outer : a.outer.length ≤ 4194304 := LRd.le (RMon.outer (d := a) ha)
 have hlea_out : a.out.length ≤ 4194304 := LRd.le (RMon.out (d := a) ha)
 have hlea_dirty : a.dirty.length ≤ 4194304 := LRd.le (RMon.dirty (d := a) ha)
 have hlea_guests : a.guests.length ≤ 4194304 := LRd.le (RMon.guests (d := a) ha)
 have hlea_outs : a.outs.length ≤ 4194304 := LRd.le (RMon.outs (d := a) ha)
 have hlea_tables : a.tables.length ≤ 4194304 := LRd.le (RMon.tables (d := a) ha)
 have hleb_outer : b.outer.length ≤ 4194304 := LRd.le (RMon.outer (d := b) hb)
 have hleb_out : b.out.length ≤ 4194304 := LRd.le (RMon.out (d := b) hb)
 have hleb_dirty : b.dirty.length ≤ 4194304 := LRd.le (RMon.dirty (d := b) hb)
 have hleb_guests : b.guests.length ≤ 4194304 := LRd.le (RMon.guests (d := b) hb)
 have hleb_outs : b.outs.length ≤ 4194304 := LRd.le (RMon.outs (d := b) hb)
 have hleb_tables : b.tables.length ≤ 4194304 := LRd.le (RMon.tables (d := b) hb)
 refine ws (rg ?_)
 refine S.qem 3 [] [(2, .p 0 0), (3, .p 1 0)] 2 [(0, GT.cells a pa), (1, GT.cells b pb)] ?_; clear S; intro ac w β S
 refine (nt (ws (ws (rg ?_))))
 refine S.qg 6 [] [(10, .v (B (!(decide (a.outer = b.outer)))))] (.cons (Q_call fun w hw => c_laws_eqSlotS w a.outer pa.outer (rd_of (RMon.outer (d := a) (S.arg ha)) hw) b.outer pb.outer (rd_of (RMon.outer (d := b) (S.arg hb)) hw)) .nil) ?_; clear S; intro ac w β S
 refine (nt (S.c (!(decide (a.outer = b.outer))) (fun h1 => ?_) (fun h1 => ?_)))
 ·have h2 := not_t h1
  have g3 := of_decide_eq_false h2
  refine ws (rg ?_)
  refine S.qe 1 [] [(4, .v (B false))] ?_; clear S; intro ac w β S
  exact (nt (wr (rt (S.r [B false] ⟨retB k0_laws_eqMon, S.chg⟩))))
 ·have h4 := not_f h1
  have g5 := of_decide_eq_true h4
  refine wk (nt (ws (ws (rg ?_))))
  refine S.qg 6 [] [(16, .v (B (!(decide (a.out = b.out)))))] (.cons (Q_call fun w hw => c_laws_eqIntSS w a.out pa.out (rd_of (RMon.out (d := a) (S.arg ha)) hw) b.out pb.out (rd_of (RMon.out (d := b) (S.arg hb)) hw)) .nil) ?_; clear S; intro ac w β S
  refine (nt (S.c (!(decide (a.out = b.out))) (fun h6 => ?_) (fun h6 => ?_)))
  ·have h7 := not_t h6
   have g8 := of_decide_eq_false h7
   refine ws (rg ?_)
   refine S.qe 1 [] [(4, .v (B false))] ?_; clear S; intro ac w β S
   exact (nt (wr (rt (S.r [B false] ⟨retB k0_laws_eqMon, S.chg⟩))))
  ·have h9 := not_f h6
   have g10 := of_decide_eq_true h9
   refine wk (nt (ws (ws (rg ?_))))
   refine S.qg 6 [] [(22, .v (B (!(decide (a.dirty = b.dirty)))))] (.cons (Q_call fun w hw => c_laws_eqBoolS w a.dirty pa.dirty (rd_of (RMon.dirty (d := a) (S.arg ha)) hw) b.dirty pb.dirty (rd_of (RMon.dirty (d := b) (S.arg hb)) hw)) .nil) ?_; clear S; intro ac w β S
   refine (nt (S.c (!(decide (a.dirty = b.dirty))) (fun h11 => ?_) (fun h11 => ?_)))
   ·have h12 := not_t h11
    have g13 := of_decide_eq_false h12
    refine ws (rg ?_)
    refine S.qe 1 [] [(4, .v (B false))] ?_; clear S; intro ac w β S
    exact (nt (wr (rt (S.r [B false] ⟨retB k0_laws_eqMon, S.chg⟩))))
   ·have h14 := not_f h11
    have g15 := of_decide_eq_true h14
    refine wk (nt (ws (ws (rg ?_))))
    refine S.qg 6 [] [(28, .v (B (!(decide (a.guests = b.guests)))))] (.cons (Q_call fun w hw => c_laws_eqGuestS w a.guests pa.guests (rd_of (RMon.guests (d := a) (S.arg ha)) hw) b.guests pb.guests (rd_of (RMon.guests (d := b) (S.arg hb)) hw)) .nil) ?_; clear S; intro ac w β S
    refine (nt (S.c (!(decide (a.guests = b.guests))) (fun h16 => ?_) (fun h16 => ?_)))
    ·have h17 := not_t h16
     have g18 := of_decide_eq_false h17
     refine ws (rg ?_)
     refine S.qe 1 [] [(4, .v (B false))] ?_; clear S; intro ac w β S
     exact (nt (wr (rt (S.r [B false] ⟨retB k0_laws_eqMon, S.chg⟩))))
    ·have h19 := not_f h16
     have g20 := of_decide_eq_true h19
     refine wk (nt (ws (ws (rg ?_))))
     refine S.qg 6 [] [(34, .v (B (!(decide (a.outs = b.outs)))))] (.cons (Q_call fun w hw => c_laws_eqIntS w a.outs pa.outs (rd_of (RMon.outs (d := a) (S.arg ha)) hw) b.outs pb.outs (rd_of (RMon.outs (d := b) (S.arg hb)) hw)) .nil) ?_; clear S; intro ac w β S
     refine (nt (S.c (!(decide (a.outs = b.outs))) (fun h21 => ?_) (fun h21 => ?_)))
     ·have h22 := not_t h21
      have g23 := of_decide_eq_false h22
      refine ws (rg ?_)
      refine S.qe 1 [] [(4, .v (B false))] ?_; clear S; intro ac w β S
      exact (nt (wr (rt (S.r [B false] ⟨retB k0_laws_eqMon, S.chg⟩))))
     ·have h24 := not_f h21
      have g25 := of_decide_eq_true h24
      refine wk (nt (ws (ws (rg ?_))))
      refine S.qe 5 [] [(39, .v (B (a.pend != b.pend)))] ?_; clear S; intro ac w β S
      refine (nt (S.c (a.pend != b.pend) (fun h26 => ?_) (fun h26 => ?_)))
      ·have g27 : ¬ (a.pend = b.pend) := bne_iff_ne.1 h26
       refine ws (rg ?_)
       refine S.qe 1 [] [(4, .v (B false))] ?_; clear S; intro ac w β S
       exact (nt (wr (rt (S.r [B false] ⟨retB k0_laws_eqMon, S.chg⟩))))
      ·have g28 : a.pend = b.pend := ne_f h26
       refine wk (nt (ws (ws (rg ?_))))
       refine S.qe 5 [] [(44, .v (B (a.traps != b.traps)))] ?_; clear S; intro ac w β S
       refine (nt (S.c (a.traps != b.traps) (fun h29 => ?_) (fun h29 => ?_)))
       ·have g30 : ¬ (a.traps = b.traps) := bne_iff_ne.1 h29
        refine ws (rg ?_)
        refine S.qe 1 [] [(4, .v (B false))] ?_; clear S; intro ac w β S
        exact (nt (wr (rt (S.r [B false] ⟨retB k0_laws_eqMon, S.chg⟩))))
       ·have g31 : a.traps = b.traps := ne_f h29
        refine wk (nt (ws (ws (rg ?_))))
        refine S.qg 6 [] [(50, .v (B (!(decide (a.tables = b.tables)))))] (.cons (Q_call fun w hw => c_laws_eqKeptS w a.tables pa.tables (rd_of (RMon.tables (d := a) (S.arg ha)) hw) b.tables pb.tables (rd_of (RMon.tables (d := b) (S.arg hb)) hw)) .nil) ?_; clear S; intro ac w β S
        refine (nt (S.c (!(decide (a.tables = b.tables))) (fun h32 => ?_) (fun h32 => ?_)))
        ·have h33 := not_t h32
         have g34 := of_decide_eq_false h33
         refine ws (rg ?_)
         refine S.qe 1 [] [(4, .v (B false))] ?_; clear S; intro ac w β S
         exact (nt (wr (rt (S.r [B false] ⟨retB k0_laws_eqMon, S.chg⟩))))
        ·have h35 := not_f h32
         have g36 := of_decide_eq_true h35
         refine wk (nt (ws (ws (rg ?_))))
         refine S.qem 5 [] [(55, .v (B (a.owned != b.owned)))] 0 [] ?_; clear S; intro ac w β S
         refine (nt (S.c (a.owned != b.owned) (fun h37 => ?_) (fun h37 => ?_)))
         ·have g38 : ¬ (a.owned = b.owned) := bne_iff_ne.1 h37
          refine ws (rg ?_)
          refine S.qe 1 [] [(4, .v (B false))] ?_; clear S; intro ac w β S
          exact (nt (wr (rt (S.r [B false] ⟨retB k0_laws_eqMon, S.chg⟩))))
         ·have g39 : a.owned = b.owned := ne_f h37
          refine wk (nt (ws (rg ?_)))
          refine S.qe 1 [] [(4, .v (B true))] ?_; clear S; intro ac w β S
          exact (nt (wr (S.r [B true] ⟨retB k0_laws_eqMon, S.chg⟩)))

theorem k0_laws_eqMonS {p : Prop} (h : p := by clear S; first | (simp; intro e; subst e; simp_all; done) | (simp; rw [take_all (by omega), take_all (by omega)] at he; exact he) | (simp; exact take_ne (by simp_all))) : p := h
set_option maxRecDepth 100000 in
theorem c_laws_eqMonS (w0 : World) (a : List TMon) (pa : LP TMon) (ha : GT.rd KK (Lt w0.heap.size) w0 a pa) (b : List TMon) (pb : LP TMon) (hb : GT.rd KK (Lt w0.heap.size) w0 b pb) : Calls Tryz.prog 42 [slv (a).length pa.1, slv (b).length pb.1].toArray w0 (fun e w' => e = .returned (B (decide (a = b))) ∧ Chg NoB w0 w') := by
 refine Calls.walk (args := [slv (a).length pa.1, slv (b).length pb.1]) NoB Tryz.func42 rfl rfl ?_
 intro ac β S
 have hlea : a.length ≤ 4194304 := LRd.le ha
 have hleb : b.length ≤ 4194304 := LRd.le hb
 refine ws (rg ?_)
 refine S.qe 1 [] [] ?_; clear S; intro ac w β S
 refine (nt (ws (ws (rg ?_))))
 refine S.qe 5 [] [(10, .v (B (((a).length : Int) != ((b).length : Int))))] ?_; clear S; intro ac w β S
 refine (nt (S.c (((a).length : Int) != ((b).length : Int)) (fun h1 => ?_) (fun h1 => ?_)))
 ·have g2 : ¬ (((a).length : Int) = ((b).length : Int)) := bne_iff_ne.1 h1
  refine ws (rg ?_)
  refine S.qe 1 [] [(4, .v (B false))] ?_; clear S; intro ac w β S
  exact (nt (wr (rt (S.r [B false] ⟨retB k0_laws_eqMonS, S.chg⟩))))
 ·have g3 : ((a).length : Int) = ((b).length : Int) := ne_f h1
  refine wk (nt (ws (ws (rg ?_))))
  refine S.qe 1 [] [(5, .v (I 0))] ?_; clear S; intro ac w β S
  refine (nt (wp_block ?_))
  refine wp_loop_down (fun mm ac w => ∃ (k : Nat)  (u : World) (N : Bl) (β : Nat → Nat), mm = a.length - k ∧ (k ≤ a.length) ∧ (a.length = b.length) ∧ (a.take k = b.take k) ∧ St Tryz.prog Tryz.f42.ntmps w0 NoB u N β ⟨[(0, .v (slv (a).length pa.1)), (1, .v (slv (b).length pb.1)), (5, .v (I (k : Int)))], []⟩ ac w) _ ⟨0, _, _, _, rfl, (by first | omega | (simp; done) | (simp; omega)), (by first | omega | (simp; done) | (simp; omega)), (by simp), S.z⟩ ?_
  clear S
  rintro mm ac w ⟨k, u, N, β, rfl, hk, hab, he, S⟩
  refine ws (ws (rg ?_))
  refine S.qe 4 [] [(14, .v (B (decide ((k : Int) < ((a).length : Int)))))] ?_; clear S; intro ac w β S
  refine (nt (S.c (decide ((k : Int) < ((a).length : Int))) (fun h4 => ?_) (fun h4 => ?_)))
  ·have g5 := of_decide_eq_true h4
   refine wk (nt (ws (wp_block (ws ?_))))
   refine S.drawn (keep := [0, 1, 5, 26]) (m := 0) (σ' := ⟨[(0, .v (slv (a).length pa.1)), (1, .v (slv (b).length pb.1)), (5, .v (I (k : Int))), (26, .v (B (!(decide ((el a k) = (el b k))))))], []⟩) (.cons (Q_idx (S.arg ha) (l := (a).length) (k := k) (i := (k : Int)) rfl rfl (by omega) Tryz.underlying30 (by kernel_rfl)) (.cons (Q_el (S.arg ha) (t := 65) (k := k) (by omega) rfl (by kernel_rfl) (by kernel_rfl)) (.cons (Q_idx (S.arg hb) (l := (b).length) (k := k) (i := (k : Int)) rfl rfl (by omega) Tryz.underlying30 (by kernel_rfl)) (.cons (Q_el (S.arg hb) (t := 65) (k := k) (by omega) rfl (by kernel_rfl) (by kernel_rfl)) (.cons (Q_call fun w hw => c_laws_eqMon w (el a k) (pa.2 k) (rd_of (LRd.el (S.arg ha) k (by omega)) hw) (el b k) (pb.2 k) (rd_of (LRd.el (S.arg hb) k (by omega)) hw)) .nil))))) rfl (by kernel_rfl) (by kernel_rfl) ?_
   clear S; intro ac w S
   refine id (nt (S.c (!(decide ((el a k) = (el b k)))) (fun h6 => ?_) (fun h6 => ?_)))
   ·have h7 := not_t h6
    have g8 := of_decide_eq_false h7
    refine ws (rg ?_)
    refine S.qe 1 [] [(4, .v (B false))] ?_; clear S; intro ac w β S
    exact (nt (wr (rb (rt (rt (rb (rt (S.r [B false] ⟨retB k0_laws_eqMonS, S.chg⟩))))))))
   ·have h9 := not_f h6
    have g10 := of_decide_eq_true h9
    refine wk (nb (nt (rg ?_)))
    refine S.qg 3 [] [(5, .v (I ((k : Int) + 1)))] (.cons (Q_add (x := (k : Int)) (y := 1) ⟨by omega, by omega⟩) .nil) ?_; clear S; intro ac w β S
    refine (nt ?_)
    refine ⟨a.length - (k + 1), by omega, k + 1, _, _, _, rfl, ?_, ?_, ?_, S.z⟩
    ·clear S; first | omega | (simp [*]; done) | (simp [*]; omega)
    ·clear S; first | omega | (simp [*]; done) | (simp [*]; omega)
    ·clear S; exact take_eq_step (by omega) (by omega) he (by simp_all)
  ·have g11 := of_decide_eq_false h4
   refine wp_exit (ex_then (ex_then (ex_hit (nt (ws (rg ?_))))))
   refine S.qe 1 [] [(4, .v (B true))] ?_; clear S; intro ac w β S
   exact (nt (wr (S.r [B true] ⟨retB k0_laws_eqMonS, S.chg⟩)))

theorem k0_laws_eqEntry {p : Prop} (h : p := by clear S; first | (simp [TEntry.ext_iff, *]; done) | (simp_all [TEntry.ext_iff]; done)) : p := h
set_option maxRecDepth 100000 in
theorem c_laws_eqEntry (w0 : World) (a : TEntry) (b : TEntry) : Calls Tryz.prog 91 [GT.val a (), GT.val b ()].toArray w0 (fun e w' => e = .returned (B (decide (a = b))) ∧ Chg NoB w0 w') := by
 refine Calls.walk (args := [GT.val a (), GT.val b ()]) NoB Tryz.func91 rfl rfl ?_
 intro ac β S
 refine ws (rg ?_)
 refine S.qem 3 [] [(2, .p 0 0), (3, .p 1 0)] 2 [(0, GT.cells a ()), (1, GT.cells b ())] ?_; clear S; intro ac w β S
 refine (nt (ws (ws (rg ?_))))
 refine S.qe 5 [] [(9, .v (B (a.tag != b.tag)))] ?_; clear S; intro ac w β S
 refine (nt (S.c (a.tag != b.tag) (fun h1 => ?_) (fun h1 => ?_)))
 ·have g2 : ¬ (a.tag = b.tag) := bne_iff_ne.1 h1
  refine ws (rg ?_)
  refine S.qe 1 [] [(4, .v (B false))] ?_; clear S; intro ac w β S
  exact (nt (wr (rt (S.r [B false] ⟨retB k0_laws_eqEntry, S.chg⟩))))
 ·have g3 : a.tag = b.tag := ne_f h1
  refine wk (nt (ws (ws (rg ?_))))
  refine S.qe 5 [] [(14, .v (B (a.page != b.page)))] ?_; clear S; intro ac w β S
  refine (nt (S.c (a.page != b.page) (fun h4 => ?_) (fun h4 => ?_)))
  ·have g5 : ¬ (a.page = b.page) := bne_iff_ne.1 h4
   refine ws (rg ?_)
   refine S.qe 1 [] [(4, .v (B false))] ?_; clear S; intro ac w β S
   exact (nt (wr (rt (S.r [B false] ⟨retB k0_laws_eqEntry, S.chg⟩))))
  ·have g6 : a.page = b.page := ne_f h4
   refine wk (nt (ws (ws (rg ?_))))
   refine S.qe 5 [] [(19, .v (B (a.host != b.host)))] ?_; clear S; intro ac w β S
   refine (nt (S.c (a.host != b.host) (fun h7 => ?_) (fun h7 => ?_)))
   ·have g8 : ¬ (a.host = b.host) := bne_iff_ne.1 h7
    refine ws (rg ?_)
    refine S.qe 1 [] [(4, .v (B false))] ?_; clear S; intro ac w β S
    exact (nt (wr (rt (S.r [B false] ⟨retB k0_laws_eqEntry, S.chg⟩))))
   ·have g9 : a.host = b.host := ne_f h7
    refine wk (nt (ws (ws (rg ?_))))
    refine S.qem 5 [] [(24, .v (B (a.rights != b.rights)))] 0 [] ?_; clear S; intro ac w β S
    refine (nt (S.c (a.rights != b.rights) (fun h10 => ?_) (fun h10 => ?_)))
    ·have g11 : ¬ (a.rights = b.rights) := bne_iff_ne.1 h10
     refine ws (rg ?_)
     refine S.qe 1 [] [(4, .v (B false))] ?_; clear S; intro ac w β S
     exact (nt (wr (rt (S.r [B false] ⟨retB k0_laws_eqEntry, S.chg⟩))))
    ·have g12 : a.rights = b.rights := ne_f h10
     refine wk (nt (ws (rg ?_)))
     refine S.qe 1 [] [(4, .v (B true))] ?_; clear S; intro ac w β S
     exact (nt (wr (S.r [B true] ⟨retB k0_laws_eqEntry, S.chg⟩)))

theorem k0_laws_eqEntryS {p : Prop} (h : p := by clear S; first | (simp; intro e; subst e; simp_all; done) | (simp; rw [take_all (by omega), take_all (by omega)] at he; exact he) | (simp; exact take_ne (by simp_all))) : p := h
set_option maxRecDepth 100000 in
theorem c_laws_eqEntryS (w0 : World) (a : List TEntry) (pa : LP TEntry) (ha : GT.rd KK (Lt w0.heap.size) w0 a pa) (b : List TEntry) (pb : LP TEntry) (hb : GT.rd KK (Lt w0.heap.size) w0 b pb) : Calls Tryz.prog 43 [slv (a).length pa.1, slv (b).length pb.1].toArray w0 (fun e w' => e = .returned (B (decide (a = b))) ∧ Chg NoB w0 w') := by
 refine Calls.walk (args := [slv (a).length pa.1, slv (b).length pb.1]) NoB Tryz.func43 rfl rfl ?_
 intro ac β S
 have hlea : a.length ≤ 4194304 := LRd.le ha
 have hleb : b.length ≤ 4194304 := LRd.le hb
 refine ws (rg ?_)
 refine S.qe 1 [] [] ?_; clear S; intro ac w β S
 refine (nt (ws (ws (rg ?_))))
 refine S.qe 5 [] [(10, .v (B (((a).length : Int) != ((b).length : Int))))] ?_; clear S; intro ac w β S
 refine (nt (S.c (((a).length : Int) != ((b).length : Int)) (fun h1 => ?_) (fun h1 => ?_)))
 ·have g2 : ¬ (((a).length : Int) = ((b).length : Int)) := bne_iff_ne.1 h1
  refine ws (rg ?_)
  refine S.qe 1 [] [(4, .v (B false))] ?_; clear S; intro ac w β S
  exact (nt (wr (rt (S.r [B false] ⟨retB k0_laws_eqEntryS, S.chg⟩))))
 ·have g3 : ((a).length : Int) = ((b).length : Int) := ne_f h1
  refine wk (nt (ws (ws (rg ?_))))
  refine S.qe 1 [] [(5, .v (I 0))] ?_; clear S; intro ac w β S
  refine (nt (wp_block ?_))
  refine wp_loop_down (fun mm ac w => ∃ (k : Nat)  (u : World) (N : Bl) (β : Nat → Nat), mm = a.length - k ∧ (k ≤ a.length) ∧ (a.length = b.length) ∧ (a.take k = b.take k) ∧ St Tryz.prog Tryz.f43.ntmps w0 NoB u N β ⟨[(0, .v (slv (a).length pa.1)), (1, .v (slv (b).length pb.1)), (5, .v (I (k : Int)))], []⟩ ac w) _ ⟨0, _, _, _, rfl, (by first | omega | (simp; done) | (simp; omega)), (by first | omega | (simp; done) | (simp; omega)), (by simp), S.z⟩ ?_
  clear S
  rintro mm ac w ⟨k, u, N, β, rfl, hk, hab, he, S⟩
  refine ws (ws (rg ?_))
  refine S.qe 4 [] [(14, .v (B (decide ((k : Int) < ((a).length : Int)))))] ?_; clear S; intro ac w β S
  refine (nt (S.c (decide ((k : Int) < ((a).length : Int))) (fun h4 => ?_) (fun h4 => ?_)))
  ·have g5 := of_decide_eq_true h4
   refine wk (nt (ws (wp_block (ws ?_))))
   refine S.drawn (keep := [0, 1, 5, 26]) (m := 0) (σ' := ⟨[(0, .v (slv (a).length pa.1)), (1, .v (slv (b).length pb.1)), (5, .v (I (k : Int))), (26, .v (B (!(decide ((el a k) = (el b k))))))], []⟩) (.cons (Q_idx (S.arg ha) (l := (a).length) (k := k) (i := (k : Int)) rfl rfl (by omega) Tryz.underlying31 (by kernel_rfl)) (.cons (Q_el (S.arg ha) (t := 107) (k := k) (by omega) rfl (by kernel_rfl) (by kernel_rfl)) (.cons (Q_idx (S.arg hb) (l := (b).length) (k := k) (i := (k : Int)) rfl rfl (by omega) Tryz.underlying31 (by kernel_rfl)) (.cons (Q_el (S.arg hb) (t := 107) (k := k) (by omega) rfl (by kernel_rfl) (by kernel_rfl)) (.cons (Q_call fun w hw => c_laws_eqEntry w (el a k) (el b k)) .nil))))) rfl (by kernel_rfl) (by kernel_rfl) ?_
   clear S; intro ac w S
   refine id (nt (S.c (!(decide ((el a k) = (el b k)))) (fun h6 => ?_) (fun h6 => ?_)))
   ·have h7 := not_t h6
    have g8 := of_decide_eq_false h7
    refine ws (rg ?_)
    refine S.qe 1 [] [(4, .v (B false))] ?_; clear S; intro ac w β S
    exact (nt (wr (rb (rt (rt (rb (rt (S.r [B false] ⟨retB k0_laws_eqEntryS, S.chg⟩))))))))
   ·have h9 := not_f h6
    have g10 := of_decide_eq_true h9
    refine wk (nb (nt (rg ?_)))
    refine S.qg 3 [] [(5, .v (I ((k : Int) + 1)))] (.cons (Q_add (x := (k : Int)) (y := 1) ⟨by omega, by omega⟩) .nil) ?_; clear S; intro ac w β S
    refine (nt ?_)
    refine ⟨a.length - (k + 1), by omega, k + 1, _, _, _, rfl, ?_, ?_, ?_, S.z⟩
    ·clear S; first | omega | (simp [*]; done) | (simp [*]; omega)
    ·clear S; first | omega | (simp [*]; done) | (simp [*]; omega)
    ·clear S; exact take_eq_step (by omega) (by omega) he (by simp_all)
  ·have g11 := of_decide_eq_false h4
   refine wp_exit (ex_then (ex_then (ex_hit (nt (ws (rg ?_))))))
   refine S.qe 1 [] [(4, .v (B true))] ?_; clear S; intro ac w β S
   exact (nt (wr (S.r [B true] ⟨retB k0_laws_eqEntryS, S.chg⟩)))

theorem k0_laws_eqHost {p : Prop} (h : p := by clear S; first | (simp [THost.ext_iff, *]; done) | (simp_all [THost.ext_iff]; done)) : p := h
set_option maxRecDepth 100000 in
theorem c_laws_eqHost (w0 : World) (a : THost) (pa : PHost) (ha : GT.rd KK (Lt w0.heap.size) w0 a pa) (b : THost) (pb : PHost) (hb : GT.rd KK (Lt w0.heap.size) w0 b pb) : Calls Tryz.prog 14 [GT.val a pa, GT.val b pb].toArray w0 (fun e w' => e = .returned (B (decide (a = b))) ∧ Chg NoB w0 w') := by
 refine Calls.walk (args := [GT.val a pa, GT.val b pb]) NoB Tryz.func14 rfl rfl ?_
 intro ac β S
 have hlea_mem : a.mem.length ≤ 4194304 := LRd.le (RHost.mem (d := a) ha)
 have hlea_mons : a.mons.length ≤ 4194304 := LRd.le (RHost.mons (d := a) ha)
 have hlea_buf : a.buf.length ≤ 4194304 := LRd.le (RHost.buf (d := a) ha)
 have hlea_iobuf : a.iobuf.length ≤ 4194304 := LRd.le (RHost.iobuf (d := a) ha)
 have hleb_mem : b.mem.length ≤ 4194304 := LRd.le (RHost.mem (d := b) hb)
 have hleb_mons : b.mons.length ≤ 4194304 := LRd.le (RHost.mons (d := b) hb)
 have hleb_buf : b.buf.length ≤ 4194304 := LRd.le (RHost.buf (d := b) hb)
 have hleb_iobuf : b.iobuf.length ≤ 4194304 := LRd.le (RHost.iobuf (d := b) hb)
 refine ws (rg ?_)
 refine S.qem 3 [] [(2, .p 0 0), (3, .p 1 0)] 2 [(0, GT.cells a pa), (1, GT.cells b pb)] ?_; clear S; intro ac w β S
 refine (nt (ws (ws (rg ?_))))
 refine S.qg 6 [] [(10, .v (B (!(decide (a.mem = b.mem)))))] (.cons (Q_call fun w hw => c_laws_eqIntSS w a.mem pa.mem (rd_of (RHost.mem (d := a) (S.arg ha)) hw) b.mem pb.mem (rd_of (RHost.mem (d := b) (S.arg hb)) hw)) .nil) ?_; clear S; intro ac w β S
 refine (nt (S.c (!(decide (a.mem = b.mem))) (fun h1 => ?_) (fun h1 => ?_)))
 ·have h2 := not_t h1
  have g3 := of_decide_eq_false h2
  refine ws (rg ?_)
  refine S.qe 1 [] [(4, .v (B false))] ?_; clear S; intro ac w β S
  exact (nt (wr (rt (S.r [B false] ⟨retB k0_laws_eqHost, S.chg⟩))))
 ·have h4 := not_f h1
  have g5 := of_decide_eq_true h4
  refine wk (nt (ws (ws (rg ?_))))
  refine S.qg 6 [] [(16, .v (B (!(decide (a.mons = b.mons)))))] (.cons (Q_call fun w hw => c_laws_eqMonS w a.mons pa.mons (rd_of (RHost.mons (d := a) (S.arg ha)) hw) b.mons pb.mons (rd_of (RHost.mons (d := b) (S.arg hb)) hw)) .nil) ?_; clear S; intro ac w β S
  refine (nt (S.c (!(decide (a.mons = b.mons))) (fun h6 => ?_) (fun h6 => ?_)))
  ·have h7 := not_t h6
   have g8 := of_decide_eq_false h7
   refine ws (rg ?_)
   refine S.qe 1 [] [(4, .v (B false))] ?_; clear S; intro ac w β S
   exact (nt (wr (rt (S.r [B false] ⟨retB k0_laws_eqHost, S.chg⟩))))
  ·have h9 := not_f h6
   have g10 := of_decide_eq_true h9
   refine wk (nt (ws (ws (rg ?_))))
   refine S.qg 6 [] [(22, .v (B (!(decide (a.buf = b.buf)))))] (.cons (Q_call fun w hw => c_laws_eqEntryS w a.buf pa.buf (rd_of (RHost.buf (d := a) (S.arg ha)) hw) b.buf pb.buf (rd_of (RHost.buf (d := b) (S.arg hb)) hw)) .nil) ?_; clear S; intro ac w β S
   refine (nt (S.c (!(decide (a.buf = b.buf))) (fun h11 => ?_) (fun h11 => ?_)))
   ·have h12 := not_t h11
    have g13 := of_decide_eq_false h12
    refine ws (rg ?_)
    refine S.qe 1 [] [(4, .v (B false))] ?_; clear S; intro ac w β S
    exact (nt (wr (rt (S.r [B false] ⟨retB k0_laws_eqHost, S.chg⟩))))
   ·have h14 := not_f h11
    have g15 := of_decide_eq_true h14
    refine wk (nt (ws (ws (rg ?_))))
    refine S.qgm 6 [] [(28, .v (B (!(decide (a.iobuf = b.iobuf)))))] (.cons (Q_call fun w hw => c_laws_eqEntryS w a.iobuf pa.iobuf (rd_of (RHost.iobuf (d := a) (S.arg ha)) hw) b.iobuf pb.iobuf (rd_of (RHost.iobuf (d := b) (S.arg hb)) hw)) .nil) 0 [] ?_; clear S; intro ac w β S
    refine (nt (S.c (!(decide (a.iobuf = b.iobuf))) (fun h16 => ?_) (fun h16 => ?_)))
    ·have h17 := not_t h16
     have g18 := of_decide_eq_false h17
     refine ws (rg ?_)
     refine S.qe 1 [] [(4, .v (B false))] ?_; clear S; intro ac w β S
     exact (nt (wr (rt (S.r [B false] ⟨retB k0_laws_eqHost, S.chg⟩))))
    ·have h19 := not_f h16
     have g20 := of_decide_eq_true h19
     refine wk (nt (ws (rg ?_)))
     refine S.qe 1 [] [(4, .v (B true))] ?_; clear S; intro ac w β S
     exact (nt (wr (S.r [B true] ⟨retB k0_laws_eqHost, S.chg⟩)))

set_option maxRecDepth 100000 in
theorem c_laws_markIntS (w0 : World) (a : List Int) (pa : LP Int) (F : Bl) (ha : GT.own KK F w0 a pa) (hF : ∀ b, F b → b < w0.heap.size) (k : Int) (pre0 : 0 ≤ k) (pre1 : k + 16 * (SZ.sz a : Int) ≤ 4611686018427387904) : Calls Tryz.prog 92 [slv (a).length pa.1, I k].toArray w0 (RetX hdl F w0 pa a k) := by
 refine Calls.walk (args := [slv (a).length pa.1, I k]) F Tryz.func92 rfl rfl ?_
 intro ac β S
 have oa : Ow w0 F w0 (Lt w0.heap.size) F a pa := ⟨ha, hF, fun b hb => .inr hb⟩
 have hz := szl_Int a
 have hlea : a.length ≤ 4194304 := LOwn.le ha
 refine ws (rg ?_)
 refine S.qe 1 [] [] ?_; clear S; intro ac w β S
 refine (nt (ws (ws (rg ?_))))
 refine S.qe 1 [] [(5, .v (I 0))] ?_; clear S; intro ac w β S
 refine (nt (wp_block ?_))
 refine wp_loop_down (fun mm ac w => ∃ (i : Nat) (acc : List Int) (j : Int) (q1 : GT.Ptr (List Int)) (F2 : Bl) (u : World) (N : Bl) (β : Nat → Nat), mm = a.length - i ∧ (i ≤ a.length) ∧ (acc = f_marksInt i k ++ a.drop i) ∧ (j = k + 1 * (i : Int)) ∧ St Tryz.prog Tryz.f92.ntmps w0 F u N β ⟨[(0, .v (slv a.length q1.1)), (1, .v (I j)), (5, .v (I (i : Int)))], []⟩ ac w ∧ Ow w0 F u N F2 acc q1 ∧ q1.1 = pa.1 ∧ (∀ b, F2 b → F b)) _ ⟨0, a, k, pa, F, _, _, _, rfl, (by first | omega | (simp; done) | (simp; omega)), (by simp [f_marksInt]), (by simp), S.z, oa, rfl, (fun _ h => h)⟩ ?_
 clear S oa
 rintro mm ac w ⟨i, acc, j, q1, F2, u, N, β, rfl, hi, hacc, hj, S, o3, hq, hs⟩
 have hlacc : acc.length = a.length := by rw [hacc]; simp [f_marksInt]; omega
 refine ws (ws (rg ?_))
 refine S.qe 4 [] [(9, .v (B (decide ((i : Int) < (a.length : Int)))))] ?_; clear S; intro ac w β S
 refine (nt (S.c (decide ((i : Int) < (a.length : Int))) (fun h4 => ?_) (fun h4 => ?_)))
 ·have g5 := of_decide_eq_true h4
  refine wk (nt (ws (wp_block (ws (rg ?_)))))
  refine S.qb 4 [] [(14, .v (I j)), (15, .v (pt q1.1.b (q1.1.off + i * 1)))] (.cons (Q_idx o3.rn (l := a.length) (k := i) (i := (i : Int)) (by rw [hacc]; simp [f_marksInt]; omega) rfl (by omega) Tryz.underlying55 (by kernel_rfl)) .nil) ?_; clear S; intro ac w β S
  refine RG.op rfl (S.setEl (α := Int) o3 (t := 3) (v := I j) (k := i) (j := 0) (off := q1.1.off + i * 1) (y := j) (q := ()) (Fy := NoB) (by kernel_rfl) (by kernel_rfl) (by omega) (by kernel_rfl) (by kernel_rfl) (Nat.le_of_ble_eq_true (by kernel_rfl)) (by kernel_rfl) (fun _ _ _ => ⟨NoB, ⟨by omega, by omega⟩, fun _ h => False.elim h⟩) (fun b _ h => False.elim h) (fun b h => False.elim h) (fun b h => False.elim h) ?_)
  clear S; intro w N F7 q8 S up o6 d9 s10 n11
  have s12 : ∀ b, F7 b → F b := fun b h => (s10 b h).elim (hs b) (fun h => False.elim h)
  clear up d9 o3 n11
  have l13 : (acc.set i j).length = (acc).length := List.length_set
  refine rd (nt (rg ?_))
  refine S.qg 3 [] [(1, .v (I (j + 1)))] (.cons (Q_add (x := j) (y := 1) ⟨by omega, by omega⟩) .nil) ?_; clear S; intro ac w β S
  refine (nb (nt (rg ?_)))
  refine S.qg 3 [] [(5, .v (I ((i : Int) + 1)))] (.cons (Q_add (x := (i : Int)) (y := 1) ⟨by omega, by omega⟩) .nil) ?_; clear S; intro ac w β S
  refine (nt ?_)
  refine ⟨a.length - (i + 1), by omega, i + 1, (acc.set i j), (j + 1), (q1.1, q8), F7, _, _, _, rfl, ?_, ?_, ?_, S.z, o6, hq, s12⟩
  ·clear S; first | omega | (simp [*]; done) | (simp [*]; omega)
  ·clear S; (have hlt : i < acc.length := (by omega)); rw [hacc, ← marksInt_step (by omega) hj]; (first | rfl | (simp [g_markInt, Int.add_assoc]; done))
  ·clear S; omega
 ·have g14 := of_decide_eq_false h4
  refine wp_exit (ex_then (ex_then (ex_hit (nt (ws (rg ?_))))))
  refine S.qe 2 [] [(4, .v (I j))] ?_; clear S; intro ac w β S
  refine (nt (wr (S.r [I j] ?_)))
  have hyd : hdl acc k = j := by clear S; (have e : i = a.length := (by omega)); subst e; rw [hacc, List.drop_length, List.append_nil, hj]; exact hd_marksInt k (by omega) _ (by omega) id
  have hyb : k ≤ j ∧ j ≤ k + 16 * ((SZ.sz a : Nat) : Int) := by clear S; skip; constructor <;> omega
  exact retX_of S hyd hyb.1 hyb.2 (by show [slv _ _] = [slv _ _]; rw [hlacc, hq]) o3 hs

set_option maxRecDepth 100000 in
theorem c_laws_markIntSS (w0 : World) (a : List (List Int)) (pa : LP (List Int)) (F : Bl) (ha : GT.own KK F w0 a pa) (hF : ∀ b, F b → b < w0.heap.size) (k : Int) (pre0 : 0 ≤ k) (pre1 : k + 16 * (SZ.sz a : Int) ≤ 4611686018427387904) : Calls Tryz.prog 44 [slv (a).length pa.1, I k].toArray w0 (RetX hdl F w0 pa a k) := by
 refine Calls.walk (args := [slv (a).length pa.1, I k]) F Tryz.func44 rfl rfl ?_
 intro ac β S
 have oa : Ow w0 F w0 (Lt w0.heap.size) F a pa := ⟨ha, hF, fun b hb => .inr hb⟩
 have hz := sz_list a
 have hlea : a.length ≤ 4194304 := LOwn.le ha
 refine ws (rg ?_)
 refine S.qe 1 [] [] ?_; clear S; intro ac w β S
 refine (nt (ws (ws (rg ?_))))
 refine S.qe 1 [] [(5, .v (I 0))] ?_; clear S; intro ac w β S
 refine (nt (wp_block ?_))
 refine wp_loop_down (fun mm ac w => ∃ (i : Nat) (acc : List (List Int)) (j : Int) (q1 : GT.Ptr (List (List Int))) (F2 : Bl) (u : World) (N : Bl) (β : Nat → Nat), mm = a.length - i ∧ (i ≤ a.length) ∧ (acc.length = a.length) ∧ (∀ f, hdlc (acc.take i) k f = f j) ∧ (acc.drop i = a.drop i) ∧ (k ≤ j) ∧ (j ≤ k + 16 * ((i : Int) + (szsum (a.take i) : Nat))) ∧ St Tryz.prog Tryz.f44.ntmps w0 F u N β ⟨[(0, .v (slv a.length q1.1)), (1, .v (I j)), (5, .v (I (i : Int)))], []⟩ ac w ∧ Ow w0 F u N F2 acc q1 ∧ q1.1 = pa.1 ∧ (∀ b, F2 b → F b)) _ ⟨0, a, k, pa, F, _, _, _, rfl, (by first | omega | (simp; done) | (simp; omega)), (by rfl), (by intro f; rfl), (by rfl), (by first | omega | (simp; done) | (simp; omega)), (by simp [szsum_nil]), S.z, oa, rfl, (fun _ h => h)⟩ ?_
 clear S oa
 rintro mm ac w ⟨i, acc, j, q1, F2, u, N, β, rfl, hi, hl, hM, hD, hj0, hj1, S, o3, hq, hs⟩
 have hel := el_of_drop hD
 have hsl := szsum_take_le a i
 refine ws (ws (rg ?_))
 refine S.qe 4 [] [(9, .v (B (decide ((i : Int) < (a.length : Int)))))] ?_; clear S; intro ac w β S
 refine (nt (S.c (decide ((i : Int) < (a.length : Int))) (fun h4 => ?_) (fun h4 => ?_)))
 ·have g5 := of_decide_eq_true h4
  refine wk (nt (ws (wp_block (rg ?_))))
  refine S.qb 5 [] [(15, .v (slv ((el acc i)).length (q1.2 i).1)), (16, .v (I j))] (.cons (Q_idx o3.rn (l := a.length) (k := i) (i := (i : Int)) (by omega) rfl (by omega) Tryz.underlying22 (by kernel_rfl)) (.cons (Q_el1 o3.rn (t := 55) (k := i) (by omega) rfl (by kernel_rfl)) .nil)) ?_; clear S; intro ac w β S
  obtain ⟨F6, o7, s8, b9⟩ := foc_id o3 (k := i) (show i < (acc).length by omega)
  have z10 := szsum_take (xs := a) (k := i) (by omega)
  have z11 := szsum_take_le a (i + 1)
  have e12 : (el acc i) = el a i := by simp only [hel]
  refine RG.op rfl (S.callX (hd := hdl) (d := 17) o7 (c_laws_markIntS w (el acc i) (q1.2 i) F6 (S.ownw o7) (fun b hb => (S.sep b (o7.sub b hb)).1) j (by omega) (by rw [e12]; omega)) (by kernel_rfl) rfl ?_)
  clear S; intro ac w N q13 y14 k15 S up o16 c17 x18 b19 b20
  rw [e12] at b20
  obtain ⟨p21, o22⟩ := b9 _ _ _ _ up o16 c17
  clear up o3 o7 s8 b9 o16 c17
  obtain ⟨a23, e24⟩ : ∃ z, z = (acc).set i (y14) := ⟨_, rfl⟩
  rw [← e24] at o22
  have l25 : a23.length = (acc).length := by rw [e24]; exact List.length_set
  have e26 : el a23 i = y14 := by rw [e24]; exact el_set_self (show i < (acc).length by omega)
  have t27 : a23.take i = (acc).take i := by rw [e24]; exact take_set_self
  have d28 : a23.drop (i + 1) = (acc).drop (i + 1) := by rw [e24]; exact drop_set_self
  clear e24
  refine S.qe 1 [] [(1, .v (I k15))] ?_; clear S; intro ac w β S
  refine (nb (nt (rg ?_)))
  refine S.qg 3 [] [(5, .v (I ((i : Int) + 1)))] (.cons (Q_add (x := (i : Int)) (y := 1) ⟨by omega, by omega⟩) .nil) ?_; clear S; intro ac w β S
  refine (nt ?_)
  refine ⟨a.length - (i + 1), by omega, i + 1, a23, k15, (q1.1, p21), F2, _, _, _, rfl, ?_, ?_, ?_, ?_, ?_, ?_, S.z, o22, hq, hs⟩
  ·clear S; first | omega | (simp [*]; done) | (simp [*]; omega)
  ·clear S; omega
  ·clear S; refine mk_step (acc := a23) (by omega) (by intro f; rw [t27]; exact hM f) ?_; intro f; simp (disch := first | omega | rfl) only [he_list, he_list, e26, x18, hdc_pos, hdi_eq, hdb_eq]
  ·clear S; rw [d28]; exact drop_more hD
  ·clear S; omega
  ·clear S; omega
 ·have g29 := of_decide_eq_false h4
  refine wp_exit (ex_then (ex_then (ex_hit (nt (ws (rg ?_))))))
  refine S.qe 2 [] [(4, .v (I j))] ?_; clear S; intro ac w β S
  refine (nt (wr (S.r [I j] ?_)))
  have hyd : hdl acc k = j := by clear S; exact mk_end (by omega) hM
  have hyb : k ≤ j ∧ j ≤ k + 16 * ((SZ.sz a : Nat) : Int) := by clear S; have hs2 := szsum_take_le a i; constructor <;> omega
  exact retX_of S hyd hyb.1 hyb.2 (by show [slv _ _] = [slv _ _]; rw [hl, hq]) o3 hs

set_option maxRecDepth 100000 in
theorem c_laws_markSlotS (w0 : World) (a : List TSlot) (pa : LP TSlot) (F : Bl) (ha : GT.own KK F w0 a pa) (hF : ∀ b, F b → b < w0.heap.size) (k : Int) (pre0 : 0 ≤ k) (pre1 : k + 16 * (SZ.sz a : Int) ≤ 4611686018427387904) : Calls Tryz.prog 93 [slv (a).length pa.1, I k].toArray w0 (RetX hdl F w0 pa a k) := by
 refine Calls.walk (args := [slv (a).length pa.1, I k]) F Tryz.func93 rfl rfl ?_
 intro ac β S
 have oa : Ow w0 F w0 (Lt w0.heap.size) F a pa := ⟨ha, hF, fun b hb => .inr hb⟩
 have hz := szl_TSlot a
 have hlea : a.length ≤ 4194304 := LOwn.le ha
 refine ws (rg ?_)
 refine S.qe 1 [] [] ?_; clear S; intro ac w β S
 refine (nt (ws (ws (rg ?_))))
 refine S.qe 1 [] [(5, .v (I 0))] ?_; clear S; intro ac w β S
 refine (nt (wp_block ?_))
 refine wp_loop_down (fun mm ac w => ∃ (i : Nat) (acc : List TSlot) (j : Int) (q1 : GT.Ptr (List TSlot)) (F2 : Bl) (u : World) (N : Bl) (β : Nat → Nat), mm = a.length - i ∧ (i ≤ a.length) ∧ (acc = f_marksSlot i k ++ a.drop i) ∧ (j = k + 2 * (i : Int)) ∧ St Tryz.prog Tryz.f93.ntmps w0 F u N β ⟨[(0, .v (slv a.length q1.1)), (1, .v (I j)), (5, .v (I (i : Int)))], []⟩ ac w ∧ Ow w0 F u N F2 acc q1 ∧ q1.1 = pa.1 ∧ (∀ b, F2 b → F b)) _ ⟨0, a, k, pa, F, _, _, _, rfl, (by first | omega | (simp; done) | (simp; omega)), (by simp [f_marksSlot]), (by simp), S.z, oa, rfl, (fun _ h => h)⟩ ?_
 clear S oa
 rintro mm ac w ⟨i, acc, j, q1, F2, u, N, β, rfl, hi, hacc, hj, S, o3, hq, hs⟩
 have hlacc : acc.length = a.length := by rw [hacc]; simp [f_marksSlot]; omega
 refine ws (ws (rg ?_))
 refine S.qe 4 [] [(9, .v (B (decide ((i : Int) < (a.length : Int)))))] ?_; clear S; intro ac w β S
 refine (nt (S.c (decide ((i : Int) < (a.length : Int))) (fun h4 => ?_) (fun h4 => ?_)))
 ·have g5 := of_decide_eq_true h4
  refine wk (nt (ws (wp_block (ws (rg ?_)))))
  refine S.qb 5 [] [(14, .v (I j)), (16, .v (pt q1.1.b (q1.1.off + i * 2)))] (.cons (Q_idx o3.rn (l := a.length) (k := i) (i := (i : Int)) (by rw [hacc]; simp [f_marksSlot]; omega) rfl (by omega) Tryz.underlying61 (by kernel_rfl)) .nil) ?_; clear S; intro ac w β S
  have e6 : RSlot (el acc i) := (LRd.el o3.rn i (by omega))
  refine RG.op rfl (S.setEl (α := TSlot) o3 (t := 3) (v := I j) (k := i) (j := 0) (off := q1.1.off + i * 2) (y := (⟨j, (el acc i).rights⟩ : TSlot)) (q := ()) (Fy := NoB) (by kernel_rfl) (by kernel_rfl) (by omega) (by kernel_rfl) (by kernel_rfl) (Nat.le_of_ble_eq_true (by kernel_rfl)) (by kernel_rfl) (fun _ _ _ => ⟨NoB, (show RSlot (⟨j, (el acc i).rights⟩ : TSlot) from ⟨(show In64 j from ⟨by omega, by omega⟩), (RSlot.rights (d := (el acc i)) e6)⟩), fun _ h => False.elim h⟩) (fun b _ h => False.elim h) (fun b h => False.elim h) (fun b h => False.elim h) ?_)
  clear S; intro w N F8 q9 S up o7 d10 s11 n12
  have s13 : ∀ b, F8 b → F b := fun b h => (s11 b h).elim (hs b) (fun h => False.elim h)
  clear up d10 o3 n12
  have l14 : (acc.set i (⟨j, (el acc i).rights⟩ : TSlot)).length = (acc).length := List.length_set
  refine rd (nt (ws (rg ?_)))
  refine S.qg 3 [] [(1, .v (I (j + 1)))] (.cons (Q_add (x := j) (y := 1) ⟨by omega, by omega⟩) .nil) ?_; clear S; intro ac w β S
  refine (nt (ws (rg ?_)))
  refine S.qb 5 [] [(21, .v (I (j + 1))), (23, .v (pt q1.1.b (q1.1.off + i * 2 + 1)))] (.cons (Q_idx o7.rn (l := a.length) (k := i) (i := (i : Int)) (by rw [List.length_set]; exact (by rw [hacc]; simp [f_marksSlot]; omega)) rfl (by omega) Tryz.underlying61 (by kernel_rfl)) .nil) ?_; clear S; intro ac w β S
  refine RG.op rfl (S.setEl (α := TSlot) o7 (t := 3) (v := I (j + 1)) (k := i) (j := 1) (off := q1.1.off + i * 2 + 1) (y := (⟨j, (j + 1)⟩ : TSlot)) (q := ()) (Fy := NoB) (by kernel_rfl) (by kernel_rfl) (by omega) (by kernel_rfl) (by kernel_rfl) (Nat.le_of_ble_eq_true (by kernel_rfl)) (by rw [el_set_self (show i < (acc).length by omega)]; kernel_rfl) (fun _ _ _ => ⟨NoB, (show RSlot (⟨j, (j + 1)⟩ : TSlot) from ⟨(show In64 j from ⟨by omega, by omega⟩), (show In64 (j + 1) from ⟨by omega, by omega⟩)⟩), fun _ h => False.elim h⟩) (fun b _ h => False.elim h) (fun b h => False.elim h) (fun b h => False.elim h) ?_)
  clear S; intro w N F16 q17 S up o15 d18 s19 n20
  have s21 : ∀ b, F16 b → F b := fun b h => (s19 b h).elim (s13 b) (fun h => False.elim h)
  clear up d18 o7 n20
  rw [List.set_set] at o15
  have l22 : (acc.set i (⟨j, (j + 1)⟩ : TSlot)).length = (acc).length := List.length_set
  refine rd (nt (rg ?_))
  refine S.qg 3 [] [(1, .v (I ((j + 1) + 1)))] (.cons (Q_add (x := (j + 1)) (y := 1) ⟨by omega, by omega⟩) .nil) ?_; clear S; intro ac w β S
  refine (nb (nt (rg ?_)))
  refine S.qg 3 [] [(5, .v (I ((i : Int) + 1)))] (.cons (Q_add (x := (i : Int)) (y := 1) ⟨by omega, by omega⟩) .nil) ?_; clear S; intro ac w β S
  refine (nt ?_)
  refine ⟨a.length - (i + 1), by omega, i + 1, (acc.set i (⟨j, (j + 1)⟩ : TSlot)), ((j + 1) + 1), (q1.1, q17), F16, _, _, _, rfl, ?_, ?_, ?_, S.z, o15, hq, s21⟩
  ·clear S; first | omega | (simp [*]; done) | (simp [*]; omega)
  ·clear S; (have hlt : i < acc.length := (by omega)); rw [hacc, ← marksSlot_step (by omega) hj]; (first | rfl | (simp [g_markSlot, Int.add_assoc]; done))
  ·clear S; omega
 ·have g23 := of_decide_eq_false h4
  refine wp_exit (ex_then (ex_then (ex_hit (nt (ws (rg ?_))))))
  refine S.qe 2 [] [(4, .v (I j))] ?_; clear S; intro ac w β S
  refine (nt (wr (S.r [I j] ?_)))
  have hyd : hdl acc k = j := by clear S; (have e : i = a.length := (by omega)); subst e; rw [hacc, List.drop_length, List.append_nil, hj]; exact hd_marksSlot k (by omega) _ (by omega) id
  have hyb : k ≤ j ∧ j ≤ k + 16 * ((SZ.sz a : Nat) : Int) := by clear S; skip; constructor <;> omega
  exact retX_of S hyd hyb.1 hyb.2 (by show [slv _ _] = [slv _ _]; rw [hlacc, hq]) o3 hs

set_option maxRecDepth 100000 in
theorem c_laws_markBoolS (w0 : World) (a : List Bool) (pa : LP Bool) (F : Bl) (ha : GT.own KK F w0 a pa) (hF : ∀ b, F b → b < w0.heap.size) (k : Int) (pre0 : 0 ≤ k) (pre1 : k + 16 * (SZ.sz a : Int) ≤ 4611686018427387904) : Calls Tryz.prog 94 [slv (a).length pa.1, I k].toArray w0 (RetX hdl F w0 pa a k) := by
 refine Calls.walk (args := [slv (a).length pa.1, I k]) F Tryz.func94 rfl rfl ?_
 intro ac β S
 have oa : Ow w0 F w0 (Lt w0.heap.size) F a pa := ⟨ha, hF, fun b hb => .inr hb⟩
 have hz := szl_Bool a
 have hlea : a.length ≤ 4194304 := LOwn.le ha
 refine ws (rg ?_)
 refine S.qe 1 [] [] ?_; clear S; intro ac w β S
 refine (nt (ws (ws (rg ?_))))
 refine S.qe 1 [] [(5, .v (I 0))] ?_; clear S; intro ac w β S
 refine (nt (wp_block ?_))
 refine wp_loop_down (fun mm ac w => ∃ (i : Nat) (acc : List Bool) (j : Int) (q1 : GT.Ptr (List Bool)) (F2 : Bl) (u : World) (N : Bl) (β : Nat → Nat), mm = a.length - i ∧ (i ≤ a.length) ∧ (acc = f_marksBool i k ++ a.drop i) ∧ (j = k + 1 * (i : Int)) ∧ St Tryz.prog Tryz.f94.ntmps w0 F u N β ⟨[(0, .v (slv a.length q1.1)), (1, .v (I j)), (5, .v (I (i : Int)))], []⟩ ac w ∧ Ow w0 F u N F2 acc q1 ∧ q1.1 = pa.1 ∧ (∀ b, F2 b → F b)) _ ⟨0, a, k, pa, F, _, _, _, rfl, (by first | omega | (simp; done) | (simp; omega)), (by simp [f_marksBool]), (by simp), S.z, oa, rfl, (fun _ h => h)⟩ ?_
 clear S oa
 rintro mm ac w ⟨i, acc, j, q1, F2, u, N, β, rfl, hi, hacc, hj, S, o3, hq, hs⟩
 have hlacc : acc.length = a.length := by rw [hacc]; simp [f_marksBool]; omega
 refine ws (ws (rg ?_))
 refine S.qe 4 [] [(9, .v (B (decide ((i : Int) < (a.length : Int)))))] ?_; clear S; intro ac w β S
 refine (nt (S.c (decide ((i : Int) < (a.length : Int))) (fun h4 => ?_) (fun h4 => ?_)))
 ·have g5 := of_decide_eq_true h4
  refine wk (nt (ws (wp_block (ws (rg ?_)))))
  refine S.qb 6 [] [(16, .v (B ((Int.tmod j 3) == 0))), (17, .v (pt q1.1.b (q1.1.off + i * 1)))] (.cons (Q_rem (x := j) (y := 3) (by decide)) (.cons (Q_idx o3.rn (l := a.length) (k := i) (i := (i : Int)) (by rw [hacc]; simp [f_marksBool]; omega) rfl (by omega) Tryz.underlying62 (by kernel_rfl)) .nil)) ?_; clear S; intro ac w β S
  refine RG.op rfl (S.setEl (α := Bool) o3 (t := 4) (v := B ((Int.tmod j 3) == 0)) (k := i) (j := 0) (off := q1.1.off + i * 1) (y := ((Int.tmod j 3) == 0)) (q := ()) (Fy := NoB) (by kernel_rfl) (by kernel_rfl) (by omega) (by kernel_rfl) (by kernel_rfl) (Nat.le_of_ble_eq_true (by kernel_rfl)) (by kernel_rfl) (fun _ _ _ => ⟨NoB, trivial, fun _ h => False.elim h⟩) (fun b _ h => False.elim h) (fun b h => False.elim h) (fun b h => False.elim h) ?_)
  clear S; intro w N F7 q8 S up o6 d9 s10 n11
  have s12 : ∀ b, F7 b → F b := fun b h => (s10 b h).elim (hs b) (fun h => False.elim h)
  clear up d9 o3 n11
  have l13 : (acc.set i ((Int.tmod j 3) == 0)).length = (acc).length := List.length_set
  refine rd (nt (rg ?_))
  refine S.qg 3 [] [(1, .v (I (j + 1)))] (.cons (Q_add (x := j) (y := 1) ⟨by omega, by omega⟩) .nil) ?_; clear S; intro ac w β S
  refine (nb (nt (rg ?_)))
  refine S.qg 3 [] [(5, .v (I ((i : Int) + 1)))] (.cons (Q_add (x := (i : Int)) (y := 1) ⟨by omega, by omega⟩) .nil) ?_; clear S; intro ac w β S
  refine (nt ?_)
  refine ⟨a.length - (i + 1), by omega, i + 1, (acc.set i ((Int.tmod j 3) == 0)), (j + 1), (q1.1, q8), F7, _, _, _, rfl, ?_, ?_, ?_, S.z, o6, hq, s12⟩
  ·clear S; first | omega | (simp [*]; done) | (simp [*]; omega)
  ·clear S; (have hlt : i < acc.length := (by omega)); rw [hacc, ← marksBool_step (by omega) hj]; (first | rfl | (simp [g_markBool, Int.add_assoc]; done))
  ·clear S; omega
 ·have g14 := of_decide_eq_false h4
  refine wp_exit (ex_then (ex_then (ex_hit (nt (ws (rg ?_))))))
  refine S.qe 2 [] [(4, .v (I j))] ?_; clear S; intro ac w β S
  refine (nt (wr (S.r [I j] ?_)))
  have hyd : hdl acc k = j := by clear S; (have e : i = a.length := (by omega)); subst e; rw [hacc, List.drop_length, List.append_nil, hj]; exact hd_marksBool k (by omega) _ (by omega) id
  have hyb : k ≤ j ∧ j ≤ k + 16 * ((SZ.sz a : Nat) : Int) := by clear S; skip; constructor <;> omega
  exact retX_of S hyd hyb.1 hyb.2 (by show [slv _ _] = [slv _ _]; rw [hlacc, hq]) o3 hs

set_option maxRecDepth 100000 in
theorem c_laws_markInsS (w0 : World) (a : List TIns) (pa : LP TIns) (F : Bl) (ha : GT.own KK F w0 a pa) (hF : ∀ b, F b → b < w0.heap.size) (k : Int) (pre0 : 0 ≤ k) (pre1 : k + 16 * (SZ.sz a : Int) ≤ 4611686018427387904) : Calls Tryz.prog 153 [slv (a).length pa.1, I k].toArray w0 (RetX hdl F w0 pa a k) := by
 refine Calls.walk (args := [slv (a).length pa.1, I k]) F Tryz.func153 rfl rfl ?_
 intro ac β S
 have oa : Ow w0 F w0 (Lt w0.heap.size) F a pa := ⟨ha, hF, fun b hb => .inr hb⟩
 have hz := szl_TIns a
 have hlea : a.length ≤ 4194304 := LOwn.le ha
 refine ws (rg ?_)
 refine S.qe 1 [] [] ?_; clear S; intro ac w β S
 refine (nt (ws (ws (rg ?_))))
 refine S.qe 1 [] [(5, .v (I 0))] ?_; clear S; intro ac w β S
 refine (nt (wp_block ?_))
 refine wp_loop_down (fun mm ac w => ∃ (i : Nat) (acc : List TIns) (j : Int) (q1 : GT.Ptr (List TIns)) (F2 : Bl) (u : World) (N : Bl) (β : Nat → Nat), mm = a.length - i ∧ (i ≤ a.length) ∧ (acc = f_marksIns i k ++ a.drop i) ∧ (j = k + 2 * (i : Int)) ∧ St Tryz.prog Tryz.f153.ntmps w0 F u N β ⟨[(0, .v (slv a.length q1.1)), (1, .v (I j)), (5, .v (I (i : Int)))], []⟩ ac w ∧ Ow w0 F u N F2 acc q1 ∧ q1.1 = pa.1 ∧ (∀ b, F2 b → F b)) _ ⟨0, a, k, pa, F, _, _, _, rfl, (by first | omega | (simp; done) | (simp; omega)), (by simp [f_marksIns]), (by simp), S.z, oa, rfl, (fun _ h => h)⟩ ?_
 clear S oa
 rintro mm ac w ⟨i, acc, j, q1, F2, u, N, β, rfl, hi, hacc, hj, S, o3, hq, hs⟩
 have hlacc : acc.length = a.length := by rw [hacc]; simp [f_marksIns]; omega
 refine ws (ws (rg ?_))
 refine S.qe 4 [] [(9, .v (B (decide ((i : Int) < (a.length : Int)))))] ?_; clear S; intro ac w β S
 refine (nt (S.c (decide ((i : Int) < (a.length : Int))) (fun h4 => ?_) (fun h4 => ?_)))
 ·have g5 := of_decide_eq_true h4
  refine wk (nt (ws (wp_block (ws (rg ?_)))))
  refine S.qb 5 [] [(14, .v (I j)), (16, .v (pt q1.1.b (q1.1.off + i * 2)))] (.cons (Q_idx o3.rn (l := a.length) (k := i) (i := (i : Int)) (by rw [hacc]; simp [f_marksIns]; omega) rfl (by omega) Tryz.underlying95 (by kernel_rfl)) .nil) ?_; clear S; intro ac w β S
  have e6 : RIns (el acc i) := (LRd.el o3.rn i (by omega))
  refine RG.op rfl (S.setEl (α := TIns) o3 (t := 3) (v := I j) (k := i) (j := 0) (off := q1.1.off + i * 2) (y := (⟨j, (el acc i).x⟩ : TIns)) (q := ()) (Fy := NoB) (by kernel_rfl) (by kernel_rfl) (by omega) (by kernel_rfl) (by kernel_rfl) (Nat.le_of_ble_eq_true (by kernel_rfl)) (by kernel_rfl) (fun _ _ _ => ⟨NoB, (show RIns (⟨j, (el acc i).x⟩ : TIns) from ⟨(show In64 j from ⟨by omega, by omega⟩), (RIns.x (d := (el acc i)) e6)⟩), fun _ h => False.elim h⟩) (fun b _ h => False.elim h) (fun b h => False.elim h) (fun b h => False.elim h) ?_)
  clear S; intro w N F8 q9 S up o7 d10 s11 n12
  have s13 : ∀ b, F8 b → F b := fun b h => (s11 b h).elim (hs b) (fun h => False.elim h)
  clear up d10 o3 n12
  have l14 : (acc.set i (⟨j, (el acc i).x⟩ : TIns)).length = (acc).length := List.length_set
  refine rd (nt (ws (rg ?_)))
  refine S.qg 3 [] [(1, .v (I (j + 1)))] (.cons (Q_add (x := j) (y := 1) ⟨by omega, by omega⟩) .nil) ?_; clear S; intro ac w β S
  refine (nt (ws (rg ?_)))
  refine S.qb 5 [] [(21, .v (I (j + 1))), (23, .v (pt q1.1.b (q1.1.off + i * 2 + 1)))] (.cons (Q_idx o7.rn (l := a.length) (k := i) (i := (i : Int)) (by rw [List.length_set]; exact (by rw [hacc]; simp [f_marksIns]; omega)) rfl (by omega) Tryz.underlying95 (by kernel_rfl)) .nil) ?_; clear S; intro ac w β S
  refine RG.op rfl (S.setEl (α := TIns) o7 (t := 3) (v := I (j + 1)) (k := i) (j := 1) (off := q1.1.off + i * 2 + 1) (y := (⟨j, (j + 1)⟩ : TIns)) (q := ()) (Fy := NoB) (by kernel_rfl) (by kernel_rfl) (by omega) (by kernel_rfl) (by kernel_rfl) (Nat.le_of_ble_eq_true (by kernel_rfl)) (by rw [el_set_self (show i < (acc).length by omega)]; kernel_rfl) (fun _ _ _ => ⟨NoB, (show RIns (⟨j, (j + 1)⟩ : TIns) from ⟨(show In64 j from ⟨by omega, by omega⟩), (show In64 (j + 1) from ⟨by omega, by omega⟩)⟩), fun _ h => False.elim h⟩) (fun b _ h => False.elim h) (fun b h => False.elim h) (fun b h => False.elim h) ?_)
  clear S; intro w N F16 q17 S up o15 d18 s19 n20
  have s21 : ∀ b, F16 b → F b := fun b h => (s19 b h).elim (s13 b) (fun h => False.elim h)
  clear up d18 o7 n20
  rw [List.set_set] at o15
  have l22 : (acc.set i (⟨j, (j + 1)⟩ : TIns)).length = (acc).length := List.length_set
  refine rd (nt (rg ?_))
  refine S.qg 3 [] [(1, .v (I ((j + 1) + 1)))] (.cons (Q_add (x := (j + 1)) (y := 1) ⟨by omega, by omega⟩) .nil) ?_; clear S; intro ac w β S
  refine (nb (nt (rg ?_)))
  refine S.qg 3 [] [(5, .v (I ((i : Int) + 1)))] (.cons (Q_add (x := (i : Int)) (y := 1) ⟨by omega, by omega⟩) .nil) ?_; clear S; intro ac w β S
  refine (nt ?_)
  refine ⟨a.length - (i + 1), by omega, i + 1, (acc.set i (⟨j, (j + 1)⟩ : TIns)), ((j + 1) + 1), (q1.1, q17), F16, _, _, _, rfl, ?_, ?_, ?_, S.z, o15, hq, s21⟩
  ·clear S; first | omega | (simp [*]; done) | (simp [*]; omega)
  ·clear S; (have hlt : i < acc.length := (by omega)); rw [hacc, ← marksIns_step (by omega) hj]; (first | rfl | (simp [g_markIns, Int.add_assoc]; done))
  ·clear S; omega
 ·have g23 := of_decide_eq_false h4
  refine wp_exit (ex_then (ex_then (ex_hit (nt (ws (rg ?_))))))
  refine S.qe 2 [] [(4, .v (I j))] ?_; clear S; intro ac w β S
  refine (nt (wr (S.r [I j] ?_)))
  have hyd : hdl acc k = j := by clear S; (have e : i = a.length := (by omega)); subst e; rw [hacc, List.drop_length, List.append_nil, hj]; exact hd_marksIns k (by omega) _ (by omega) id
  have hyb : k ≤ j ∧ j ≤ k + 16 * ((SZ.sz a : Nat) : Int) := by clear S; skip; constructor <;> omega
  exact retX_of S hyd hyb.1 hyb.2 (by show [slv _ _] = [slv _ _]; rw [hlacc, hq]) o3 hs

set_option maxRecDepth 100000 in
theorem c_laws_markGuestS (w0 : World) (a : List TGuest) (pa : LP TGuest) (F : Bl) (ha : GT.own KK F w0 a pa) (hF : ∀ b, F b → b < w0.heap.size) (k : Int) (pre0 : 0 ≤ k) (pre1 : k + 16 * (SZ.sz a : Int) ≤ 4611686018427387904) : Calls Tryz.prog 95 [slv (a).length pa.1, I k].toArray w0 (RetX hdl F w0 pa a k) := by
 refine Calls.walk (args := [slv (a).length pa.1, I k]) F Tryz.func95 rfl rfl ?_
 intro ac β S
 have oa : Ow w0 F w0 (Lt w0.heap.size) F a pa := ⟨ha, hF, fun b hb => .inr hb⟩
 have hz := sz_list a
 have hlea : a.length ≤ 4194304 := LOwn.le ha
 refine ws (rg ?_)
 refine S.qe 1 [] [] ?_; clear S; intro ac w β S
 refine (nt (ws (ws (rg ?_))))
 refine S.qe 1 [] [(5, .v (I 0))] ?_; clear S; intro ac w β S
 refine (nt (wp_block ?_))
 refine wp_loop_down (fun mm ac w => ∃ (i : Nat) (acc : List TGuest) (j : Int) (q1 : GT.Ptr (List TGuest)) (F2 : Bl) (u : World) (N : Bl) (β : Nat → Nat), mm = a.length - i ∧ (i ≤ a.length) ∧ (acc.length = a.length) ∧ (∀ f, hdlc (acc.take i) k f = f j) ∧ (acc.drop i = a.drop i) ∧ (k ≤ j) ∧ (j ≤ k + 16 * ((i : Int) + (szsum (a.take i) : Nat))) ∧ St Tryz.prog Tryz.f95.ntmps w0 F u N β ⟨[(0, .v (slv a.length q1.1)), (1, .v (I j)), (5, .v (I (i : Int)))], []⟩ ac w ∧ Ow w0 F u N F2 acc q1 ∧ q1.1 = pa.1 ∧ (∀ b, F2 b → F b)) _ ⟨0, a, k, pa, F, _, _, _, rfl, (by first | omega | (simp; done) | (simp; omega)), (by rfl), (by intro f; rfl), (by rfl), (by first | omega | (simp; done) | (simp; omega)), (by simp [szsum_nil]), S.z, oa, rfl, (fun _ h => h)⟩ ?_
 clear S oa
 rintro mm ac w ⟨i, acc, j, q1, F2, u, N, β, rfl, hi, hl, hM, hD, hj0, hj1, S, o3, hq, hs⟩
 have hel := el_of_drop hD
 have hsl := szsum_take_le a i
 refine ws (ws (rg ?_))
 refine S.qe 4 [] [(9, .v (B (decide ((i : Int) < (a.length : Int)))))] ?_; clear S; intro ac w β S
 refine (nt (S.c (decide ((i : Int) < (a.length : Int))) (fun h4 => ?_) (fun h4 => ?_)))
 ·have g5 := of_decide_eq_true h4
  refine wk (nt (ws (wp_block (ws (rg ?_)))))
  refine S.qb 6 [] [(16, .v (slv ((el acc i).prog).length ((q1.2 i).prog).1)), (17, .v (I j))] (.cons (Q_idx o3.rn (l := a.length) (k := i) (i := (i : Int)) (by omega) rfl (by omega) Tryz.underlying54 (by kernel_rfl)) (.cons (Q_cell o3.rn (t := 95) (k := i) (j := 0) (v := slv ((el acc i).prog).length ((q1.2 i).prog).1) (by omega) (by kernel_rfl) (by kernel_rfl)) .nil)) ?_; clear S; intro ac w β S
  obtain ⟨F6, o7, s8, b9⟩ := foc_Guest_prog o3 (k := i) (show i < (acc).length by omega)
  have z10 := szsum_take (xs := a) (k := i) (by omega)
  have z11 := szsum_take_le a (i + 1)
  have z12 := sz_Guest (el a i)
  have e13 : (el acc i).prog = (el a i).prog := by simp only [hel]
  refine RG.op rfl (S.callX (hd := hdl) (d := 18) o7 (c_laws_markInsS w ((el acc i).prog) ((q1.2 i).prog) F6 (S.ownw o7) (fun b hb => (S.sep b (o7.sub b hb)).1) j (by omega) (by rw [e13]; omega)) (by kernel_rfl) rfl ?_)
  clear S; intro ac w N q14 y15 k16 S up o17 c18 x19 b20 b21
  rw [e13] at b21
  obtain ⟨p22, o23⟩ := b9 _ _ _ _ up o17 c18
  clear up o3 o7 s8 b9 o17 c18
  obtain ⟨a24, e25⟩ : ∃ z, z = (acc).set i ({ el acc i with prog := y15 }) := ⟨_, rfl⟩
  rw [← e25] at o23
  have l26 : a24.length = (acc).length := by rw [e25]; exact List.length_set
  have e27 : el a24 i = { el acc i with prog := y15 } := by rw [e25]; exact el_set_self (show i < (acc).length by omega)
  have t28 : a24.take i = (acc).take i := by rw [e25]; exact take_set_self
  have d29 : a24.drop (i + 1) = (acc).drop (i + 1) := by rw [e25]; exact drop_set_self
  clear e25
  refine S.qe 1 [] [(1, .v (I k16))] ?_; clear S; intro ac w β S
  refine (nt (ws (rg ?_)))
  refine S.qb 5 [] [(21, .v (I k16)), (23, .v (pt q1.1.b (q1.1.off + i * 15 + 1)))] (.cons (Q_idx o23.rn (l := a.length) (k := i) (i := (i : Int)) (by omega) rfl (by omega) Tryz.underlying54 (by kernel_rfl)) .nil) ?_; clear S; intro ac w β S
  refine RG.op rfl (S.setEl (α := TGuest) o23 (t := 3) (v := I k16) (k := i) (j := 1) (off := q1.1.off + i * 15 + 1) (y := ({ el a24 i with acc := k16 } : TGuest)) (q := ((q1.1, p22).2 i)) (Fy := NoB) (by kernel_rfl) (by kernel_rfl) (by omega) (by kernel_rfl) (by kernel_rfl) (Nat.le_of_ble_eq_true (by kernel_rfl)) (by kernel_rfl) (fun G g_ _ => ⟨G, ows_Guest_acc g_ (⟨by omega, by omega⟩), fun _ h => .inl h⟩) (fun b _ h => False.elim h) (fun b h => False.elim h) (fun b h => False.elim h) ?_)
  clear S; intro w N F31 q32 S up o30 d33 s34 n35
  have s36 : ∀ b, F31 b → F b := fun b h => (s34 b h).elim (hs b) (fun h => False.elim h)
  clear up d33 o23 n35
  obtain ⟨a37, e38⟩ : ∃ z, z = (a24).set i ({ el a24 i with acc := k16 }) := ⟨_, rfl⟩
  rw [← e38] at o30
  have l39 : a37.length = (a24).length := by rw [e38]; exact List.length_set
  have e40 : el a37 i = { el a24 i with acc := k16 } := by rw [e38]; exact el_set_self (show i < (a24).length by omega)
  have t41 : a37.take i = (a24).take i := by rw [e38]; exact take_set_self
  have d42 : a37.drop (i + 1) = (a24).drop (i + 1) := by rw [e38]; exact drop_set_self
  clear e38
  refine rd (nt (ws (rg ?_)))
  refine S.qg 3 [] [(1, .v (I (k16 + 1)))] (.cons (Q_add (x := k16) (y := 1) ⟨by omega, by omega⟩) .nil) ?_; clear S; intro ac w β S
  refine (nt (ws (rg ?_)))
  refine S.qb 5 [] [(28, .v (I (k16 + 1))), (30, .v (pt q1.1.b (q1.1.off + i * 15 + 2)))] (.cons (Q_idx o30.rn (l := a.length) (k := i) (i := (i : Int)) (by omega) rfl (by omega) Tryz.underlying54 (by kernel_rfl)) .nil) ?_; clear S; intro ac w β S
  refine RG.op rfl (S.setEl (α := TGuest) o30 (t := 3) (v := I (k16 + 1)) (k := i) (j := 2) (off := q1.1.off + i * 15 + 2) (y := ({ el a37 i with pc := (k16 + 1) } : TGuest)) (q := ((q1.1, q32).2 i)) (Fy := NoB) (by kernel_rfl) (by kernel_rfl) (by omega) (by kernel_rfl) (by kernel_rfl) (Nat.le_of_ble_eq_true (by kernel_rfl)) (by kernel_rfl) (fun G g_ _ => ⟨G, ows_Guest_pc g_ (⟨by omega, by omega⟩), fun _ h => .inl h⟩) (fun b _ h => False.elim h) (fun b h => False.elim h) (fun b h => False.elim h) ?_)
  clear S; intro w N F44 q45 S up o43 d46 s47 n48
  have s49 : ∀ b, F44 b → F b := fun b h => (s47 b h).elim (s36 b) (fun h => False.elim h)
  clear up d46 o30 n48
  obtain ⟨a50, e51⟩ : ∃ z, z = (a37).set i ({ el a37 i with pc := (k16 + 1) }) := ⟨_, rfl⟩
  rw [← e51] at o43
  have l52 : a50.length = (a37).length := by rw [e51]; exact List.length_set
  have e53 : el a50 i = { el a37 i with pc := (k16 + 1) } := by rw [e51]; exact el_set_self (show i < (a37).length by omega)
  have t54 : a50.take i = (a37).take i := by rw [e51]; exact take_set_self
  have d55 : a50.drop (i + 1) = (a37).drop (i + 1) := by rw [e51]; exact drop_set_self
  clear e51
  refine rd (nt (ws (rg ?_)))
  refine S.qg 3 [] [(1, .v (I ((k16 + 1) + 1)))] (.cons (Q_add (x := (k16 + 1)) (y := 1) ⟨by omega, by omega⟩) .nil) ?_; clear S; intro ac w β S
  refine (nt (ws (rg ?_)))
  refine S.qb 6 [] [(37, .v (slv ((el a50 i).written).length (((q1.1, q45).2 i).written).1)), (38, .v (I ((k16 + 1) + 1)))] (.cons (Q_idx o43.rn (l := a.length) (k := i) (i := (i : Int)) (by omega) rfl (by omega) Tryz.underlying54 (by kernel_rfl)) (.cons (Q_cell o43.rn (t := 61) (k := i) (j := 3) (v := slv ((el a50 i).written).length (((q1.1, q45).2 i).written).1) (by omega) (by kernel_rfl) (by kernel_rfl)) .nil)) ?_; clear S; intro ac w β S
  obtain ⟨F56, o57, s58, b59⟩ := foc_Guest_written o43 (k := i) (show i < (a50).length by omega)
  have z60 := szsum_take (xs := a) (k := i) (by omega)
  have z61 := szsum_take_le a (i + 1)
  have z62 := sz_Guest (el a i)
  have e63 : (el a50 i).written = (el a i).written := by simp only [e53, e40, e27, hel]
  refine RG.op rfl (S.callX (hd := hdl) (d := 39) o57 (c_laws_markSlotS w ((el a50 i).written) (((q1.1, q45).2 i).written) F56 (S.ownw o57) (fun b hb => (S.sep b (o57.sub b hb)).1) ((k16 + 1) + 1) (by omega) (by rw [e63]; omega)) (by kernel_rfl) rfl ?_)
  clear S; intro ac w N q64 y65 k66 S up o67 c68 x69 b70 b71
  rw [e63] at b71
  obtain ⟨p72, o73⟩ := b59 _ _ _ _ up o67 c68
  clear up o43 o57 s58 b59 o67 c68
  obtain ⟨a74, e75⟩ : ∃ z, z = (a50).set i ({ el a50 i with written := y65 }) := ⟨_, rfl⟩
  rw [← e75] at o73
  have l76 : a74.length = (a50).length := by rw [e75]; exact List.length_set
  have e77 : el a74 i = { el a50 i with written := y65 } := by rw [e75]; exact el_set_self (show i < (a50).length by omega)
  have t78 : a74.take i = (a50).take i := by rw [e75]; exact take_set_self
  have d79 : a74.drop (i + 1) = (a50).drop (i + 1) := by rw [e75]; exact drop_set_self
  clear e75
  refine S.qe 1 [] [(1, .v (I k66))] ?_; clear S; intro ac w β S
  refine (nt (ws (rg ?_)))
  refine S.qb 6 [] [(44, .v (slv ((el a74 i).live).length (((q1.1, p72).2 i).live).1)), (45, .v (I k66))] (.cons (Q_idx o73.rn (l := a.length) (k := i) (i := (i : Int)) (by omega) rfl (by omega) Tryz.underlying54 (by kernel_rfl)) (.cons (Q_cell o73.rn (t := 61) (k := i) (j := 4) (v := slv ((el a74 i).live).length (((q1.1, p72).2 i).live).1) (by omega) (by kernel_rfl) (by kernel_rfl)) .nil)) ?_; clear S; intro ac w β S
  obtain ⟨F80, o81, s82, b83⟩ := foc_Guest_live o73 (k := i) (show i < (a74).length by omega)
  have z84 := szsum_take (xs := a) (k := i) (by omega)
  have z85 := szsum_take_le a (i + 1)
  have z86 := sz_Guest (el a i)
  have e87 : (el a74 i).live = (el a i).live := by simp only [e77, e53, e40, e27, hel]
  refine RG.op rfl (S.callX (hd := hdl) (d := 46) o81 (c_laws_markSlotS w ((el a74 i).live) (((q1.1, p72).2 i).live) F80 (S.ownw o81) (fun b hb => (S.sep b (o81.sub b hb)).1) k66 (by omega) (by rw [e87]; omega)) (by kernel_rfl) rfl ?_)
  clear S; intro ac w N q88 y89 k90 S up o91 c92 x93 b94 b95
  rw [e87] at b95
  obtain ⟨p96, o97⟩ := b83 _ _ _ _ up o91 c92
  clear up o73 o81 s82 b83 o91 c92
  obtain ⟨a98, e99⟩ : ∃ z, z = (a74).set i ({ el a74 i with live := y89 }) := ⟨_, rfl⟩
  rw [← e99] at o97
  have l100 : a98.length = (a74).length := by rw [e99]; exact List.length_set
  have e101 : el a98 i = { el a74 i with live := y89 } := by rw [e99]; exact el_set_self (show i < (a74).length by omega)
  have t102 : a98.take i = (a74).take i := by rw [e99]; exact take_set_self
  have d103 : a98.drop (i + 1) = (a74).drop (i + 1) := by rw [e99]; exact drop_set_self
  clear e99
  refine S.qe 1 [] [(1, .v (I k90))] ?_; clear S; intro ac w β S
  refine (nt (ws (rg ?_)))
  refine S.qb 6 [] [(49, .v (I k90)), (52, .v (pt q1.1.b (q1.1.off + i * 15 + 5)))] (.cons (Q_idx o97.rn (l := a.length) (k := i) (i := (i : Int)) (by omega) rfl (by omega) Tryz.underlying54 (by kernel_rfl)) .nil) ?_; clear S; intro ac w β S
  refine RG.op rfl (S.setEl (α := TGuest) o97 (t := 3) (v := I k90) (k := i) (j := 5) (off := q1.1.off + i * 15 + 5) (y := ({ el a98 i with ctl := (⟨k90, ((el a98 i).ctl).post, ((el a98 i).ctl).opn⟩ : TCtl) } : TGuest)) (q := ((q1.1, p96).2 i)) (Fy := NoB) (by kernel_rfl) (by kernel_rfl) (by omega) (by kernel_rfl) (by kernel_rfl) (Nat.le_of_ble_eq_true (by kernel_rfl)) (by kernel_rfl) (fun G g_ _ => ⟨G, ows_Guest_ctl g_ ((show RCtl (⟨k90, ((el a98 i).ctl).post, ((el a98 i).ctl).opn⟩ : TCtl) from ⟨(show In64 k90 from ⟨by omega, by omega⟩), (RCtl.post (d := (el a98 i).ctl) (RGuest.ctl (d := (el a98 i)) (LRd.el o97.rn i (by omega))))⟩)), fun _ h => .inl h⟩) (fun b _ h => False.elim h) (fun b h => False.elim h) (fun b h => False.elim h) ?_)
  clear S; intro w N F105 q106 S up o104 d107 s108 n109
  have s110 : ∀ b, F105 b → F b := fun b h => (s108 b h).elim (s49 b) (fun h => False.elim h)
  clear up d107 o97 n109
  obtain ⟨a111, e112⟩ : ∃ z, z = (a98).set i ({ el a98 i with ctl := (⟨k90, ((el a98 i).ctl).post, ((el a98 i).ctl).opn⟩ : TCtl) }) := ⟨_, rfl⟩
  rw [← e112] at o104
  have l113 : a111.length = (a98).length := by rw [e112]; exact List.length_set
  have e114 : el a111 i = { el a98 i with ctl := (⟨k90, ((el a98 i).ctl).post, ((el a98 i).ctl).opn⟩ : TCtl) } := by rw [e112]; exact el_set_self (show i < (a98).length by omega)
  have t115 : a111.take i = (a98).take i := by rw [e112]; exact take_set_self
  have d116 : a111.drop (i + 1) = (a98).drop (i + 1) := by rw [e112]; exact drop_set_self
  clear e112
  refine rd (nt (ws (rg ?_)))
  refine S.qg 3 [9, 16, 17, 21, 23, 28, 30, 37, 38, 44, 45, 49, 52] [(1, .v (I (k90 + 1)))] (.cons (Q_add (x := k90) (y := 1) ⟨by omega, by omega⟩) .nil) ?_; clear S; intro ac w β S
  refine (nt (ws (rg ?_)))
  refine S.qb 6 [] [(57, .v (I (k90 + 1))), (60, .v (pt q1.1.b (q1.1.off + i * 15 + 6)))] (.cons (Q_idx o104.rn (l := a.length) (k := i) (i := (i : Int)) (by omega) rfl (by omega) Tryz.underlying54 (by kernel_rfl)) .nil) ?_; clear S; intro ac w β S
  refine RG.op rfl (S.setEl (α := TGuest) o104 (t := 3) (v := I (k90 + 1)) (k := i) (j := 6) (off := q1.1.off + i * 15 + 6) (y := ({ el a111 i with ctl := (⟨((el a111 i).ctl).traps, (k90 + 1), ((el a111 i).ctl).opn⟩ : TCtl) } : TGuest)) (q := ((q1.1, q106).2 i)) (Fy := NoB) (by kernel_rfl) (by kernel_rfl) (by omega) (by kernel_rfl) (by kernel_rfl) (Nat.le_of_ble_eq_true (by kernel_rfl)) (by kernel_rfl) (fun G g_ _ => ⟨G, ows_Guest_ctl g_ ((show RCtl (⟨((el a111 i).ctl).traps, (k90 + 1), ((el a111 i).ctl).opn⟩ : TCtl) from ⟨(RCtl.traps (d := (el a111 i).ctl) (RGuest.ctl (d := (el a111 i)) (LRd.el o104.rn i (by omega)))), (show In64 (k90 + 1) from ⟨by omega, by omega⟩)⟩)), fun _ h => .inl h⟩) (fun b _ h => False.elim h) (fun b h => False.elim h) (fun b h => False.elim h) ?_)
  clear S; intro w N F118 q119 S up o117 d120 s121 n122
  have s123 : ∀ b, F118 b → F b := fun b h => (s121 b h).elim (s110 b) (fun h => False.elim h)
  clear up d120 o104 n122
  obtain ⟨a124, e125⟩ : ∃ z, z = (a111).set i ({ el a111 i with ctl := (⟨((el a111 i).ctl).traps, (k90 + 1), ((el a111 i).ctl).opn⟩ : TCtl) }) := ⟨_, rfl⟩
  rw [← e125] at o117
  have l126 : a124.length = (a111).length := by rw [e125]; exact List.length_set
  have e127 : el a124 i = { el a111 i with ctl := (⟨((el a111 i).ctl).traps, (k90 + 1), ((el a111 i).ctl).opn⟩ : TCtl) } := by rw [e125]; exact el_set_self (show i < (a111).length by omega)
  have t128 : a124.take i = (a111).take i := by rw [e125]; exact take_set_self
  have d129 : a124.drop (i + 1) = (a111).drop (i + 1) := by rw [e125]; exact drop_set_self
  clear e125
  refine rd (nt (ws (rg ?_)))
  refine S.qg 3 [] [(1, .v (I ((k90 + 1) + 1)))] (.cons (Q_add (x := (k90 + 1)) (y := 1) ⟨by omega, by omega⟩) .nil) ?_; clear S; intro ac w β S
  refine (nt (ws (rg ?_)))
  refine S.qb 8 [] [(67, .v (B ((Int.tmod ((k90 + 1) + 1) 3) == 0))), (70, .v (pt q1.1.b (q1.1.off + i * 15 + 7)))] (.cons (Q_rem (x := ((k90 + 1) + 1)) (y := 3) (by decide)) (.cons (Q_idx o117.rn (l := a.length) (k := i) (i := (i : Int)) (by omega) rfl (by omega) Tryz.underlying54 (by kernel_rfl)) .nil)) ?_; clear S; intro ac w β S
  refine RG.op rfl (S.setEl (α := TGuest) o117 (t := 4) (v := B ((Int.tmod ((k90 + 1) + 1) 3) == 0)) (k := i) (j := 7) (off := q1.1.off + i * 15 + 7) (y := ({ el a124 i with ctl := (⟨((el a124 i).ctl).traps, ((el a124 i).ctl).post, ((Int.tmod ((k90 + 1) + 1) 3) == 0)⟩ : TCtl) } : TGuest)) (q := ((q1.1, q119).2 i)) (Fy := NoB) (by kernel_rfl) (by kernel_rfl) (by omega) (by kernel_rfl) (by kernel_rfl) (Nat.le_of_ble_eq_true (by kernel_rfl)) (by kernel_rfl) (fun G g_ _ => ⟨G, ows_Guest_ctl g_ ((show RCtl (⟨((el a124 i).ctl).traps, ((el a124 i).ctl).post, ((Int.tmod ((k90 + 1) + 1) 3) == 0)⟩ : TCtl) from ⟨(RCtl.traps (d := (el a124 i).ctl) (RGuest.ctl (d := (el a124 i)) (LRd.el o117.rn i (by omega)))), (RCtl.post (d := (el a124 i).ctl) (RGuest.ctl (d := (el a124 i)) (LRd.el o117.rn i (by omega))))⟩)), fun _ h => .inl h⟩) (fun b _ h => False.elim h) (fun b h => False.elim h) (fun b h => False.elim h) ?_)
  clear S; intro w N F131 q132 S up o130 d133 s134 n135
  have s136 : ∀ b, F131 b → F b := fun b h => (s134 b h).elim (s123 b) (fun h => False.elim h)
  clear up d133 o117 n135
  obtain ⟨a137, e138⟩ : ∃ z, z = (a124).set i ({ el a124 i with ctl := (⟨((el a124 i).ctl).traps, ((el a124 i).ctl).post, ((Int.tmod ((k90 + 1) + 1) 3) == 0)⟩ : TCtl) }) := ⟨_, rfl⟩
  rw [← e138] at o130
  have l139 : a137.length = (a124).length := by rw [e138]; exact List.length_set
  have e140 : el a137 i = { el a124 i with ctl := (⟨((el a124 i).ctl).traps, ((el a124 i).ctl).post, ((Int.tmod ((k90 + 1) + 1) 3) == 0)⟩ : TCtl) } := by rw [e138]; exact el_set_self (show i < (a124).length by omega)
  have t141 : a137.take i = (a124).take i := by rw [e138]; exact take_set_self
  have d142 : a137.drop (i + 1) = (a124).drop (i + 1) := by rw [e138]; exact drop_set_self
  clear e138
  refine rd (nt (ws (rg ?_)))
  refine S.qg 3 [] [(1, .v (I (((k90 + 1) + 1) + 1)))] (.cons (Q_add (x := ((k90 + 1) + 1)) (y := 1) ⟨by omega, by omega⟩) .nil) ?_; clear S; intro ac w β S
  refine (nt (ws (rg ?_)))
  refine S.qb 5 [] [(75, .v (I (((k90 + 1) + 1) + 1))), (77, .v (pt q1.1.b (q1.1.off + i * 15 + 8)))] (.cons (Q_idx o130.rn (l := a.length) (k := i) (i := (i : Int)) (by omega) rfl (by omega) Tryz.underlying54 (by kernel_rfl)) .nil) ?_; clear S; intro ac w β S
  refine RG.op rfl (S.setEl (α := TGuest) o130 (t := 3) (v := I (((k90 + 1) + 1) + 1)) (k := i) (j := 8) (off := q1.1.off + i * 15 + 8) (y := ({ el a137 i with pend := (((k90 + 1) + 1) + 1) } : TGuest)) (q := ((q1.1, q132).2 i)) (Fy := NoB) (by kernel_rfl) (by kernel_rfl) (by omega) (by kernel_rfl) (by kernel_rfl) (Nat.le_of_ble_eq_true (by kernel_rfl)) (by kernel_rfl) (fun G g_ _ => ⟨G, ows_Guest_pend g_ (⟨by omega, by omega⟩), fun _ h => .inl h⟩) (fun b _ h => False.elim h) (fun b h => False.elim h) (fun b h => False.elim h) ?_)
  clear S; intro w N F144 q145 S up o143 d146 s147 n148
  have s149 : ∀ b, F144 b → F b := fun b h => (s147 b h).elim (s136 b) (fun h => False.elim h)
  clear up d146 o130 n148
  obtain ⟨a150, e151⟩ : ∃ z, z = (a137).set i ({ el a137 i with pend := (((k90 + 1) + 1) + 1) }) := ⟨_, rfl⟩
  rw [← e151] at o143
  have l152 : a150.length = (a137).length := by rw [e151]; exact List.length_set
  have e153 : el a150 i = { el a137 i with pend := (((k90 + 1) + 1) + 1) } := by rw [e151]; exact el_set_self (show i < (a137).length by omega)
  have t154 : a150.take i = (a137).take i := by rw [e151]; exact take_set_self
  have d155 : a150.drop (i + 1) = (a137).drop (i + 1) := by rw [e151]; exact drop_set_self
  clear e151
  refine rd (nt (ws (rg ?_)))
  refine S.qg 3 [] [(1, .v (I ((((k90 + 1) + 1) + 1) + 1)))] (.cons (Q_add (x := (((k90 + 1) + 1) + 1)) (y := 1) ⟨by omega, by omega⟩) .nil) ?_; clear S; intro ac w β S
  refine (nt (ws (rg ?_)))
  refine S.qb 6 [] [(82, .v (I ((((k90 + 1) + 1) + 1) + 1))), (85, .v (pt q1.1.b (q1.1.off + i * 15 + 9)))] (.cons (Q_idx o143.rn (l := a.length) (k := i) (i := (i : Int)) (by omega) rfl (by omega) Tryz.underlying54 (by kernel_rfl)) .nil) ?_; clear S; intro ac w β S
  refine RG.op rfl (S.setEl (α := TGuest) o143 (t := 3) (v := I ((((k90 + 1) + 1) + 1) + 1)) (k := i) (j := 9) (off := q1.1.off + i * 15 + 9) (y := ({ el a150 i with exit := (⟨((((k90 + 1) + 1) + 1) + 1), ((el a150 i).exit).page, ((el a150 i).exit).wr, ((el a150 i).exit).n⟩ : TExit) } : TGuest)) (q := ((q1.1, q145).2 i)) (Fy := NoB) (by kernel_rfl) (by kernel_rfl) (by omega) (by kernel_rfl) (by kernel_rfl) (Nat.le_of_ble_eq_true (by kernel_rfl)) (by kernel_rfl) (fun G g_ _ => ⟨G, ows_Guest_exit g_ ((show RExit (⟨((((k90 + 1) + 1) + 1) + 1), ((el a150 i).exit).page, ((el a150 i).exit).wr, ((el a150 i).exit).n⟩ : TExit) from ⟨(show In64 ((((k90 + 1) + 1) + 1) + 1) from ⟨by omega, by omega⟩), (RExit.page (d := (el a150 i).exit) (RGuest.exit (d := (el a150 i)) (LRd.el o143.rn i (by omega)))), (RExit.n (d := (el a150 i).exit) (RGuest.exit (d := (el a150 i)) (LRd.el o143.rn i (by omega))))⟩)), fun _ h => .inl h⟩) (fun b _ h => False.elim h) (fun b h => False.elim h) (fun b h => False.elim h) ?_)
  clear S; intro w N F157 q158 S up o156 d159 s160 n161
  have s162 : ∀ b, F157 b → F b := fun b h => (s160 b h).elim (s149 b) (fun h => False.elim h)
  clear up d159 o143 n161
  obtain ⟨a163, e164⟩ : ∃ z, z = (a150).set i ({ el a150 i with exit := (⟨((((k90 + 1) + 1) + 1) + 1), ((el a150 i).exit).page, ((el a150 i).exit).wr, ((el a150 i).exit).n⟩ : TExit) }) := ⟨_, rfl⟩
  rw [← e164] at o156
  have l165 : a163.length = (a150).length := by rw [e164]; exact List.length_set
  have e166 : el a163 i = { el a150 i with exit := (⟨((((k90 + 1) + 1) + 1) + 1), ((el a150 i).exit).page, ((el a150 i).exit).wr, ((el a150 i).exit).n⟩ : TExit) } := by rw [e164]; exact el_set_self (show i < (a150).length by omega)
  have t167 : a163.take i = (a150).take i := by rw [e164]; exact take_set_self
  have d168 : a163.drop (i + 1) = (a150).drop (i + 1) := by rw [e164]; exact drop_set_self
  clear e164
  refine rd (nt (ws (rg ?_)))
  refine S.qg 3 [] [(1, .v (I (((((k90 + 1) + 1) + 1) + 1) + 1)))] (.cons (Q_add (x := ((((k90 + 1) + 1) + 1) + 1)) (y := 1) ⟨by omega, by omega⟩) .nil) ?_; clear S; intro ac w β S
  refine (nt (ws (rg ?_)))
  refine S.qb 6 [] [(90, .v (I (((((k90 + 1) + 1) + 1) + 1) + 1))), (93, .v (pt q1.1.b (q1.1.off + i * 15 + 10)))] (.cons (Q_idx o156.rn (l := a.length) (k := i) (i := (i : Int)) (by omega) rfl (by omega) Tryz.underlying54 (by kernel_rfl)) .nil) ?_; clear S; intro ac w β S
  refine RG.op rfl (S.setEl (α := TGuest) o156 (t := 3) (v := I (((((k90 + 1) + 1) + 1) + 1) + 1)) (k := i) (j := 10) (off := q1.1.off + i * 15 + 10) (y := ({ el a163 i with exit := (⟨((el a163 i).exit).kind, (((((k90 + 1) + 1) + 1) + 1) + 1), ((el a163 i).exit).wr, ((el a163 i).exit).n⟩ : TExit) } : TGuest)) (q := ((q1.1, q158).2 i)) (Fy := NoB) (by kernel_rfl) (by kernel_rfl) (by omega) (by kernel_rfl) (by kernel_rfl) (Nat.le_of_ble_eq_true (by kernel_rfl)) (by kernel_rfl) (fun G g_ _ => ⟨G, ows_Guest_exit g_ ((show RExit (⟨((el a163 i).exit).kind, (((((k90 + 1) + 1) + 1) + 1) + 1), ((el a163 i).exit).wr, ((el a163 i).exit).n⟩ : TExit) from ⟨(RExit.kind (d := (el a163 i).exit) (RGuest.exit (d := (el a163 i)) (LRd.el o156.rn i (by omega)))), (show In64 (((((k90 + 1) + 1) + 1) + 1) + 1) from ⟨by omega, by omega⟩), (RExit.n (d := (el a163 i).exit) (RGuest.exit (d := (el a163 i)) (LRd.el o156.rn i (by omega))))⟩)), fun _ h => .inl h⟩) (fun b _ h => False.elim h) (fun b h => False.elim h) (fun b h => False.elim h) ?_)
  clear S; intro w N F170 q171 S up o169 d172 s173 n174
  have s175 : ∀ b, F170 b → F b := fun b h => (s173 b h).elim (s162 b) (fun h => False.elim h)
  clear up d172 o156 n174
  obtain ⟨a176, e177⟩ : ∃ z, z = (a163).set i ({ el a163 i with exit := (⟨((el a163 i).exit).kind, (((((k90 + 1) + 1) + 1) + 1) + 1), ((el a163 i).exit).wr, ((el a163 i).exit).n⟩ : TExit) }) := ⟨_, rfl⟩
  rw [← e177] at o169
  have l178 : a176.length = (a163).length := by rw [e177]; exact List.length_set
  have e179 : el a176 i = { el a163 i with exit := (⟨((el a163 i).exit).kind, (((((k90 + 1) + 1) + 1) + 1) + 1), ((el a163 i).exit).wr, ((el a163 i).exit).n⟩ : TExit) } := by rw [e177]; exact el_set_self (show i < (a163).length by omega)
  have t180 : a176.take i = (a163).take i := by rw [e177]; exact take_set_self
  have d181 : a176.drop (i + 1) = (a163).drop (i + 1) := by rw [e177]; exact drop_set_self
  clear e177
  refine rd (nt (ws (rg ?_)))
  refine S.qg 3 [] [(1, .v (I ((((((k90 + 1) + 1) + 1) + 1) + 1) + 1)))] (.cons (Q_add (x := (((((k90 + 1) + 1) + 1) + 1) + 1)) (y := 1) ⟨by omega, by omega⟩) .nil) ?_; clear S; intro ac w β S
  refine (nt (ws (rg ?_)))
  refine S.qb 8 [] [(100, .v (B ((Int.tmod ((((((k90 + 1) + 1) + 1) + 1) + 1) + 1) 3) == 0))), (103, .v (pt q1.1.b (q1.1.off + i * 15 + 11)))] (.cons (Q_rem (x := ((((((k90 + 1) + 1) + 1) + 1) + 1) + 1)) (y := 3) (by decide)) (.cons (Q_idx o169.rn (l := a.length) (k := i) (i := (i : Int)) (by omega) rfl (by omega) Tryz.underlying54 (by kernel_rfl)) .nil)) ?_; clear S; intro ac w β S
  refine RG.op rfl (S.setEl (α := TGuest) o169 (t := 4) (v := B ((Int.tmod ((((((k90 + 1) + 1) + 1) + 1) + 1) + 1) 3) == 0)) (k := i) (j := 11) (off := q1.1.off + i * 15 + 11) (y := ({ el a176 i with exit := (⟨((el a176 i).exit).kind, ((el a176 i).exit).page, ((Int.tmod ((((((k90 + 1) + 1) + 1) + 1) + 1) + 1) 3) == 0), ((el a176 i).exit).n⟩ : TExit) } : TGuest)) (q := ((q1.1, q171).2 i)) (Fy := NoB) (by kernel_rfl) (by kernel_rfl) (by omega) (by kernel_rfl) (by kernel_rfl) (Nat.le_of_ble_eq_true (by kernel_rfl)) (by kernel_rfl) (fun G g_ _ => ⟨G, ows_Guest_exit g_ ((show RExit (⟨((el a176 i).exit).kind, ((el a176 i).exit).page, ((Int.tmod ((((((k90 + 1) + 1) + 1) + 1) + 1) + 1) 3) == 0), ((el a176 i).exit).n⟩ : TExit) from ⟨(RExit.kind (d := (el a176 i).exit) (RGuest.exit (d := (el a176 i)) (LRd.el o169.rn i (by omega)))), (RExit.page (d := (el a176 i).exit) (RGuest.exit (d := (el a176 i)) (LRd.el o169.rn i (by omega)))), (RExit.n (d := (el a176 i).exit) (RGuest.exit (d := (el a176 i)) (LRd.el o169.rn i (by omega))))⟩)), fun _ h => .inl h⟩) (fun b _ h => False.elim h) (fun b h => False.elim h) (fun b h => False.elim h) ?_)
  clear S; intro w N F183 q184 S up o182 d185 s186 n187
  have s188 : ∀ b, F183 b → F b := fun b h => (s186 b h).elim (s175 b) (fun h => False.elim h)
  clear up d185 o169 n187
  obtain ⟨a189, e190⟩ : ∃ z, z = (a176).set i ({ el a176 i with exit := (⟨((el a176 i).exit).kind, ((el a176 i).exit).page, ((Int.tmod ((((((k90 + 1) + 1) + 1) + 1) + 1) + 1) 3) == 0), ((el a176 i).exit).n⟩ : TExit) }) := ⟨_, rfl⟩
  rw [← e190] at o182
  have l191 : a189.length = (a176).length := by rw [e190]; exact List.length_set
  have e192 : el a189 i = { el a176 i with exit := (⟨((el a176 i).exit).kind, ((el a176 i).exit).page, ((Int.tmod ((((((k90 + 1) + 1) + 1) + 1) + 1) + 1) 3) == 0), ((el a176 i).exit).n⟩ : TExit) } := by rw [e190]; exact el_set_self (show i < (a176).length by omega)
  have t193 : a189.take i = (a176).take i := by rw [e190]; exact take_set_self
  have d194 : a189.drop (i + 1) = (a176).drop (i + 1) := by rw [e190]; exact drop_set_self
  clear e190
  refine rd (nt (ws (rg ?_)))
  refine S.qg 3 [] [(1, .v (I (((((((k90 + 1) + 1) + 1) + 1) + 1) + 1) + 1)))] (.cons (Q_add (x := ((((((k90 + 1) + 1) + 1) + 1) + 1) + 1)) (y := 1) ⟨by omega, by omega⟩) .nil) ?_; clear S; intro ac w β S
  refine (nt (ws (rg ?_)))
  refine S.qb 6 [] [(108, .v (I (((((((k90 + 1) + 1) + 1) + 1) + 1) + 1) + 1))), (111, .v (pt q1.1.b (q1.1.off + i * 15 + 12)))] (.cons (Q_idx o182.rn (l := a.length) (k := i) (i := (i : Int)) (by omega) rfl (by omega) Tryz.underlying54 (by kernel_rfl)) .nil) ?_; clear S; intro ac w β S
  refine RG.op rfl (S.setEl (α := TGuest) o182 (t := 3) (v := I (((((((k90 + 1) + 1) + 1) + 1) + 1) + 1) + 1)) (k := i) (j := 12) (off := q1.1.off + i * 15 + 12) (y := ({ el a189 i with exit := (⟨((el a189 i).exit).kind, ((el a189 i).exit).page, ((el a189 i).exit).wr, (((((((k90 + 1) + 1) + 1) + 1) + 1) + 1) + 1)⟩ : TExit) } : TGuest)) (q := ((q1.1, q184).2 i)) (Fy := NoB) (by kernel_rfl) (by kernel_rfl) (by omega) (by kernel_rfl) (by kernel_rfl) (Nat.le_of_ble_eq_true (by kernel_rfl)) (by kernel_rfl) (fun G g_ _ => ⟨G, ows_Guest_exit g_ ((show RExit (⟨((el a189 i).exit).kind, ((el a189 i).exit).page, ((el a189 i).exit).wr, (((((((k90 + 1) + 1) + 1) + 1) + 1) + 1) + 1)⟩ : TExit) from ⟨(RExit.kind (d := (el a189 i).exit) (RGuest.exit (d := (el a189 i)) (LRd.el o182.rn i (by omega)))), (RExit.page (d := (el a189 i).exit) (RGuest.exit (d := (el a189 i)) (LRd.el o182.rn i (by omega)))), (show In64 (((((((k90 + 1) + 1) + 1) + 1) + 1) + 1) + 1) from ⟨by omega, by omega⟩)⟩)), fun _ h => .inl h⟩) (fun b _ h => False.elim h) (fun b h => False.elim h) (fun b h => False.elim h) ?_)
  clear S; intro w N F196 q197 S up o195 d198 s199 n200
  have s201 : ∀ b, F196 b → F b := fun b h => (s199 b h).elim (s188 b) (fun h => False.elim h)
  clear up d198 o182 n200
  obtain ⟨a202, e203⟩ : ∃ z, z = (a189).set i ({ el a189 i with exit := (⟨((el a189 i).exit).kind, ((el a189 i).exit).page, ((el a189 i).exit).wr, (((((((k90 + 1) + 1) + 1) + 1) + 1) + 1) + 1)⟩ : TExit) }) := ⟨_, rfl⟩
  rw [← e203] at o195
  have l204 : a202.length = (a189).length := by rw [e203]; exact List.length_set
  have e205 : el a202 i = { el a189 i with exit := (⟨((el a189 i).exit).kind, ((el a189 i).exit).page, ((el a189 i).exit).wr, (((((((k90 + 1) + 1) + 1) + 1) + 1) + 1) + 1)⟩ : TExit) } := by rw [e203]; exact el_set_self (show i < (a189).length by omega)
  have t206 : a202.take i = (a189).take i := by rw [e203]; exact take_set_self
  have d207 : a202.drop (i + 1) = (a189).drop (i + 1) := by rw [e203]; exact drop_set_self
  clear e203
  refine rd (nt (ws (rg ?_)))
  refine S.qg 3 [57, 60, 67, 70, 75, 77, 82, 85, 90, 93, 100, 103, 108, 111] [(1, .v (I ((((((((k90 + 1) + 1) + 1) + 1) + 1) + 1) + 1) + 1)))] (.cons (Q_add (x := (((((((k90 + 1) + 1) + 1) + 1) + 1) + 1) + 1)) (y := 1) ⟨by omega, by omega⟩) .nil) ?_; clear S; intro ac w β S
  refine (nt (ws (rg ?_)))
  refine S.qb 7 [] [(118, .v (B ((Int.tmod ((((((((k90 + 1) + 1) + 1) + 1) + 1) + 1) + 1) + 1) 3) == 0))), (120, .v (pt q1.1.b (q1.1.off + i * 15 + 13)))] (.cons (Q_rem (x := ((((((((k90 + 1) + 1) + 1) + 1) + 1) + 1) + 1) + 1)) (y := 3) (by decide)) (.cons (Q_idx o195.rn (l := a.length) (k := i) (i := (i : Int)) (by omega) rfl (by omega) Tryz.underlying54 (by kernel_rfl)) .nil)) ?_; clear S; intro ac w β S
  refine RG.op rfl (S.setEl (α := TGuest) o195 (t := 4) (v := B ((Int.tmod ((((((((k90 + 1) + 1) + 1) + 1) + 1) + 1) + 1) + 1) 3) == 0)) (k := i) (j := 13) (off := q1.1.off + i * 15 + 13) (y := ({ el a202 i with halted := ((Int.tmod ((((((((k90 + 1) + 1) + 1) + 1) + 1) + 1) + 1) + 1) 3) == 0) } : TGuest)) (q := ((q1.1, q197).2 i)) (Fy := NoB) (by kernel_rfl) (by kernel_rfl) (by omega) (by kernel_rfl) (by kernel_rfl) (Nat.le_of_ble_eq_true (by kernel_rfl)) (by kernel_rfl) (fun G g_ _ => ⟨G, ows_Guest_halted g_, fun _ h => .inl h⟩) (fun b _ h => False.elim h) (fun b h => False.elim h) (fun b h => False.elim h) ?_)
  clear S; intro w N F209 q210 S up o208 d211 s212 n213
  have s214 : ∀ b, F209 b → F b := fun b h => (s212 b h).elim (s201 b) (fun h => False.elim h)
  clear up d211 o195 n213
  obtain ⟨a215, e216⟩ : ∃ z, z = (a202).set i ({ el a202 i with halted := ((Int.tmod ((((((((k90 + 1) + 1) + 1) + 1) + 1) + 1) + 1) + 1) 3) == 0) }) := ⟨_, rfl⟩
  rw [← e216] at o208
  have l217 : a215.length = (a202).length := by rw [e216]; exact List.length_set
  have e218 : el a215 i = { el a202 i with halted := ((Int.tmod ((((((((k90 + 1) + 1) + 1) + 1) + 1) + 1) + 1) + 1) 3) == 0) } := by rw [e216]; exact el_set_self (show i < (a202).length by omega)
  have t219 : a215.take i = (a202).take i := by rw [e216]; exact take_set_self
  have d220 : a215.drop (i + 1) = (a202).drop (i + 1) := by rw [e216]; exact drop_set_self
  clear e216
  refine rd (nt (ws (rg ?_)))
  refine S.qg 3 [] [(1, .v (I (((((((((k90 + 1) + 1) + 1) + 1) + 1) + 1) + 1) + 1) + 1)))] (.cons (Q_add (x := ((((((((k90 + 1) + 1) + 1) + 1) + 1) + 1) + 1) + 1)) (y := 1) ⟨by omega, by omega⟩) .nil) ?_; clear S; intro ac w β S
  refine (nt (rg ?_))
  refine S.qb 6 [] [(127, .v (slv ((el a215 i).seen).length (((q1.1, q210).2 i).seen).1)), (128, .v (I (((((((((k90 + 1) + 1) + 1) + 1) + 1) + 1) + 1) + 1) + 1)))] (.cons (Q_idx o208.rn (l := a.length) (k := i) (i := (i : Int)) (by omega) rfl (by omega) Tryz.underlying54 (by kernel_rfl)) (.cons (Q_cell o208.rn (t := 55) (k := i) (j := 14) (v := slv ((el a215 i).seen).length (((q1.1, q210).2 i).seen).1) (by omega) (by kernel_rfl) (by kernel_rfl)) .nil)) ?_; clear S; intro ac w β S
  obtain ⟨F221, o222, s223, b224⟩ := foc_Guest_seen o208 (k := i) (show i < (a215).length by omega)
  have z225 := szsum_take (xs := a) (k := i) (by omega)
  have z226 := szsum_take_le a (i + 1)
  have z227 := sz_Guest (el a i)
  have e228 : (el a215 i).seen = (el a i).seen := by simp only [e218, e205, e192, e179, e166, e153, e140, e127, e114, e101, e77, e53, e40, e27, hel]
  refine RG.op rfl (S.callX (hd := hdl) (d := 129) o222 (c_laws_markIntS w ((el a215 i).seen) (((q1.1, q210).2 i).seen) F221 (S.ownw o222) (fun b hb => (S.sep b (o222.sub b hb)).1) (((((((((k90 + 1) + 1) + 1) + 1) + 1) + 1) + 1) + 1) + 1) (by omega) (by rw [e228]; omega)) (by kernel_rfl) rfl ?_)
  clear S; intro ac w N q229 y230 k231 S up o232 c233 x234 b235 b236
  rw [e228] at b236
  obtain ⟨p237, o238⟩ := b224 _ _ _ _ up o232 c233
  clear up o208 o222 s223 b224 o232 c233
  obtain ⟨a239, e240⟩ : ∃ z, z = (a215).set i ({ el a215 i with seen := y230 }) := ⟨_, rfl⟩
  rw [← e240] at o238
  have l241 : a239.length = (a215).length := by rw [e240]; exact List.length_set
  have e242 : el a239 i = { el a215 i with seen := y230 } := by rw [e240]; exact el_set_self (show i < (a215).length by omega)
  have t243 : a239.take i = (a215).take i := by rw [e240]; exact take_set_self
  have d244 : a239.drop (i + 1) = (a215).drop (i + 1) := by rw [e240]; exact drop_set_self
  clear e240
  refine S.qe 1 [] [(1, .v (I k231))] ?_; clear S; intro ac w β S
  refine (nb (nt (rg ?_)))
  refine S.qg 3 [] [(5, .v (I ((i : Int) + 1)))] (.cons (Q_add (x := (i : Int)) (y := 1) ⟨by omega, by omega⟩) .nil) ?_; clear S; intro ac w β S
  refine (nt ?_)
  refine ⟨a.length - (i + 1), by omega, i + 1, a239, k231, (q1.1, p237), F209, _, _, _, rfl, ?_, ?_, ?_, ?_, ?_, ?_, S.z, o238, hq, s214⟩
  ·clear S; first | omega | (simp [*]; done) | (simp [*]; omega)
  ·clear S; omega
  ·clear S; refine mk_step (acc := a239) (by omega) (by intro f; rw [t243, t219, t206, t193, t180, t167, t154, t141, t128, t115, t102, t78, t54, t41, t28]; exact hM f) ?_; intro f; simp (disch := first | omega | rfl) only [he_list, he_Guest, e242, e218, e205, e192, e179, e166, e153, e140, e127, e114, e101, e77, e53, e40, e27, x19, x69, x93, x234, hdc_pos, hdi_eq, hdb_eq]
  ·clear S; rw [d244, d220, d207, d194, d181, d168, d155, d142, d129, d116, d103, d79, d55, d42, d29]; exact drop_more hD
  ·clear S; omega
  ·clear S; omega
 ·have g245 := of_decide_eq_false h4
  refine wp_exit (ex_then (ex_then (ex_hit (nt (ws (rg ?_))))))
  refine S.qe 2 [] [(4, .v (I j))] ?_; clear S; intro ac w β S
  refine (nt (wr (S.r [I j] ?_)))
  have hyd : hdl acc k = j := by clear S; exact mk_end (by omega) hM
  have hyb : k ≤ j ∧ j ≤ k + 16 * ((SZ.sz a : Nat) : Int) := by clear S; have hs2 := szsum_take_le a i; constructor <;> omega
  exact retX_of S hyd hyb.1 hyb.2 (by show [slv _ _] = [slv _ _]; rw [hl, hq]) o3 hs

set_option maxRecDepth 100000 in
theorem c_laws_markKeptS (w0 : World) (a : List TKept) (pa : LP TKept) (F : Bl) (ha : GT.own KK F w0 a pa) (hF : ∀ b, F b → b < w0.heap.size) (k : Int) (pre0 : 0 ≤ k) (pre1 : k + 16 * (SZ.sz a : Int) ≤ 4611686018427387904) : Calls Tryz.prog 96 [slv (a).length pa.1, I k].toArray w0 (RetX hdl F w0 pa a k) := by
 refine Calls.walk (args := [slv (a).length pa.1, I k]) F Tryz.func96 rfl rfl ?_
 intro ac β S
 have oa : Ow w0 F w0 (Lt w0.heap.size) F a pa := ⟨ha, hF, fun b hb => .inr hb⟩
 have hz := sz_list a
 have hlea : a.length ≤ 4194304 := LOwn.le ha
 refine ws (rg ?_)
 refine S.qe 1 [] [] ?_; clear S; intro ac w β S
 refine (nt (ws (ws (rg ?_))))
 refine S.qe 1 [] [(5, .v (I 0))] ?_; clear S; intro ac w β S
 refine (nt (wp_block ?_))
 refine wp_loop_down (fun mm ac w => ∃ (i : Nat) (acc : List TKept) (j : Int) (q1 : GT.Ptr (List TKept)) (F2 : Bl) (u : World) (N : Bl) (β : Nat → Nat), mm = a.length - i ∧ (i ≤ a.length) ∧ (acc.length = a.length) ∧ (∀ f, hdlc (acc.take i) k f = f j) ∧ (acc.drop i = a.drop i) ∧ (k ≤ j) ∧ (j ≤ k + 16 * ((i : Int) + (szsum (a.take i) : Nat))) ∧ St Tryz.prog Tryz.f96.ntmps w0 F u N β ⟨[(0, .v (slv a.length q1.1)), (1, .v (I j)), (5, .v (I (i : Int)))], []⟩ ac w ∧ Ow w0 F u N F2 acc q1 ∧ q1.1 = pa.1 ∧ (∀ b, F2 b → F b)) _ ⟨0, a, k, pa, F, _, _, _, rfl, (by first | omega | (simp; done) | (simp; omega)), (by rfl), (by intro f; rfl), (by rfl), (by first | omega | (simp; done) | (simp; omega)), (by simp [szsum_nil]), S.z, oa, rfl, (fun _ h => h)⟩ ?_
 clear S oa
 rintro mm ac w ⟨i, acc, j, q1, F2, u, N, β, rfl, hi, hl, hM, hD, hj0, hj1, S, o3, hq, hs⟩
 have hel := el_of_drop hD
 have hsl := szsum_take_le a i
 refine ws (ws (rg ?_))
 refine S.qe 4 [] [(9, .v (B (decide ((i : Int) < (a.length : Int)))))] ?_; clear S; intro ac w β S
 refine (nt (S.c (decide ((i : Int) < (a.length : Int))) (fun h4 => ?_) (fun h4 => ?_)))
 ·have g5 := of_decide_eq_true h4
  refine wk (nt (ws (wp_block (ws (rg ?_)))))
  refine S.qb 6 [] [(16, .v (slv ((el acc i).known).length ((q1.2 i).known).1)), (17, .v (I j))] (.cons (Q_idx o3.rn (l := a.length) (k := i) (i := (i : Int)) (by omega) rfl (by omega) Tryz.underlying63 (by kernel_rfl)) (.cons (Q_cell o3.rn (t := 62) (k := i) (j := 0) (v := slv ((el acc i).known).length ((q1.2 i).known).1) (by omega) (by kernel_rfl) (by kernel_rfl)) .nil)) ?_; clear S; intro ac w β S
  obtain ⟨F6, o7, s8, b9⟩ := foc_Kept_known o3 (k := i) (show i < (acc).length by omega)
  have z10 := szsum_take (xs := a) (k := i) (by omega)
  have z11 := szsum_take_le a (i + 1)
  have z12 := sz_Kept (el a i)
  have e13 : (el acc i).known = (el a i).known := by simp only [hel]
  refine RG.op rfl (S.callX (hd := hdl) (d := 18) o7 (c_laws_markBoolS w ((el acc i).known) ((q1.2 i).known) F6 (S.ownw o7) (fun b hb => (S.sep b (o7.sub b hb)).1) j (by omega) (by rw [e13]; omega)) (by kernel_rfl) rfl ?_)
  clear S; intro ac w N q14 y15 k16 S up o17 c18 x19 b20 b21
  rw [e13] at b21
  obtain ⟨p22, o23⟩ := b9 _ _ _ _ up o17 c18
  clear up o3 o7 s8 b9 o17 c18
  obtain ⟨a24, e25⟩ : ∃ z, z = (acc).set i ({ el acc i with known := y15 }) := ⟨_, rfl⟩
  rw [← e25] at o23
  have l26 : a24.length = (acc).length := by rw [e25]; exact List.length_set
  have e27 : el a24 i = { el acc i with known := y15 } := by rw [e25]; exact el_set_self (show i < (acc).length by omega)
  have t28 : a24.take i = (acc).take i := by rw [e25]; exact take_set_self
  have d29 : a24.drop (i + 1) = (acc).drop (i + 1) := by rw [e25]; exact drop_set_self
  clear e25
  refine S.qe 1 [] [(1, .v (I k16))] ?_; clear S; intro ac w β S
  refine (nt (rg ?_))
  refine S.qb 6 [] [(23, .v (slv ((el a24 i).slots).length (((q1.1, p22).2 i).slots).1)), (24, .v (I k16))] (.cons (Q_idx o23.rn (l := a.length) (k := i) (i := (i : Int)) (by omega) rfl (by omega) Tryz.underlying63 (by kernel_rfl)) (.cons (Q_cell o23.rn (t := 61) (k := i) (j := 1) (v := slv ((el a24 i).slots).length (((q1.1, p22).2 i).slots).1) (by omega) (by kernel_rfl) (by kernel_rfl)) .nil)) ?_; clear S; intro ac w β S
  obtain ⟨F30, o31, s32, b33⟩ := foc_Kept_slots o23 (k := i) (show i < (a24).length by omega)
  have z34 := szsum_take (xs := a) (k := i) (by omega)
  have z35 := szsum_take_le a (i + 1)
  have z36 := sz_Kept (el a i)
  have e37 : (el a24 i).slots = (el a i).slots := by simp only [e27, hel]
  refine RG.op rfl (S.callX (hd := hdl) (d := 25) o31 (c_laws_markSlotS w ((el a24 i).slots) (((q1.1, p22).2 i).slots) F30 (S.ownw o31) (fun b hb => (S.sep b (o31.sub b hb)).1) k16 (by omega) (by rw [e37]; omega)) (by kernel_rfl) rfl ?_)
  clear S; intro ac w N q38 y39 k40 S up o41 c42 x43 b44 b45
  rw [e37] at b45
  obtain ⟨p46, o47⟩ := b33 _ _ _ _ up o41 c42
  clear up o23 o31 s32 b33 o41 c42
  obtain ⟨a48, e49⟩ : ∃ z, z = (a24).set i ({ el a24 i with slots := y39 }) := ⟨_, rfl⟩
  rw [← e49] at o47
  have l50 : a48.length = (a24).length := by rw [e49]; exact List.length_set
  have e51 : el a48 i = { el a24 i with slots := y39 } := by rw [e49]; exact el_set_self (show i < (a24).length by omega)
  have t52 : a48.take i = (a24).take i := by rw [e49]; exact take_set_self
  have d53 : a48.drop (i + 1) = (a24).drop (i + 1) := by rw [e49]; exact drop_set_self
  clear e49
  refine S.qe 1 [] [(1, .v (I k40))] ?_; clear S; intro ac w β S
  refine (nb (nt (rg ?_)))
  refine S.qg 3 [] [(5, .v (I ((i : Int) + 1)))] (.cons (Q_add (x := (i : Int)) (y := 1) ⟨by omega, by omega⟩) .nil) ?_; clear S; intro ac w β S
  refine (nt ?_)
  refine ⟨a.length - (i + 1), by omega, i + 1, a48, k40, (q1.1, p46), F2, _, _, _, rfl, ?_, ?_, ?_, ?_, ?_, ?_, S.z, o47, hq, hs⟩
  ·clear S; first | omega | (simp [*]; done) | (simp [*]; omega)
  ·clear S; omega
  ·clear S; refine mk_step (acc := a48) (by omega) (by intro f; rw [t52, t28]; exact hM f) ?_; intro f; simp (disch := first | omega | rfl) only [he_list, he_Kept, e51, e27, x19, x43, hdc_pos, hdi_eq, hdb_eq]
  ·clear S; rw [d53, d29]; exact drop_more hD
  ·clear S; omega
  ·clear S; omega
 ·have g54 := of_decide_eq_false h4
  refine wp_exit (ex_then (ex_then (ex_hit (nt (ws (rg ?_))))))
  refine S.qe 2 [] [(4, .v (I j))] ?_; clear S; intro ac w β S
  refine (nt (wr (S.r [I j] ?_)))
  have hyd : hdl acc k = j := by clear S; exact mk_end (by omega) hM
  have hyb : k ≤ j ∧ j ≤ k + 16 * ((SZ.sz a : Nat) : Int) := by clear S; have hs2 := szsum_take_le a i; constructor <;> omega
  exact retX_of S hyd hyb.1 hyb.2 (by show [slv _ _] = [slv _ _]; rw [hl, hq]) o3 hs

set_option maxRecDepth 100000 in
theorem c_laws_markMonS (w0 : World) (a : List TMon) (pa : LP TMon) (F : Bl) (ha : GT.own KK F w0 a pa) (hF : ∀ b, F b → b < w0.heap.size) (k : Int) (pre0 : 0 ≤ k) (pre1 : k + 16 * (SZ.sz a : Int) ≤ 4611686018427387904) : Calls Tryz.prog 45 [slv (a).length pa.1, I k].toArray w0 (RetX hdl F w0 pa a k) := by
 refine Calls.walk (args := [slv (a).length pa.1, I k]) F Tryz.func45 rfl rfl ?_
 intro ac β S
 have oa : Ow w0 F w0 (Lt w0.heap.size) F a pa := ⟨ha, hF, fun b hb => .inr hb⟩
 have hz := sz_list a
 have hlea : a.length ≤ 4194304 := LOwn.le ha
 refine ws (rg ?_)
 refine S.qe 1 [] [] ?_; clear S; intro ac w β S
 refine (nt (ws (ws (rg ?_))))
 refine S.qe 1 [] [(5, .v (I 0))] ?_; clear S; intro ac w β S
 refine (nt (wp_block ?_))
 refine wp_loop_down (fun mm ac w => ∃ (i : Nat) (acc : List TMon) (j : Int) (q1 : GT.Ptr (List TMon)) (F2 : Bl) (u : World) (N : Bl) (β : Nat → Nat), mm = a.length - i ∧ (i ≤ a.length) ∧ (acc.length = a.length) ∧ (∀ f, hdlc (acc.take i) k f = f j) ∧ (acc.drop i = a.drop i) ∧ (k ≤ j) ∧ (j ≤ k + 16 * ((i : Int) + (szsum (a.take i) : Nat))) ∧ St Tryz.prog Tryz.f45.ntmps w0 F u N β ⟨[(0, .v (slv a.length q1.1)), (1, .v (I j)), (5, .v (I (i : Int)))], []⟩ ac w ∧ Ow w0 F u N F2 acc q1 ∧ q1.1 = pa.1 ∧ (∀ b, F2 b → F b)) _ ⟨0, a, k, pa, F, _, _, _, rfl, (by first | omega | (simp; done) | (simp; omega)), (by rfl), (by intro f; rfl), (by rfl), (by first | omega | (simp; done) | (simp; omega)), (by simp [szsum_nil]), S.z, oa, rfl, (fun _ h => h)⟩ ?_
 clear S oa
 rintro mm ac w ⟨i, acc, j, q1, F2, u, N, β, rfl, hi, hl, hM, hD, hj0, hj1, S, o3, hq, hs⟩
 have hel := el_of_drop hD
 have hsl := szsum_take_le a i
 refine ws (ws (rg ?_))
 refine S.qe 4 [] [(9, .v (B (decide ((i : Int) < (a.length : Int)))))] ?_; clear S; intro ac w β S
 refine (nt (S.c (decide ((i : Int) < (a.length : Int))) (fun h4 => ?_) (fun h4 => ?_)))
 ·have g5 := of_decide_eq_true h4
  refine wk (nt (ws (wp_block (ws (rg ?_)))))
  refine S.qb 6 [] [(16, .v (slv ((el acc i).outer).length ((q1.2 i).outer).1)), (17, .v (I j))] (.cons (Q_idx o3.rn (l := a.length) (k := i) (i := (i : Int)) (by omega) rfl (by omega) Tryz.underlying30 (by kernel_rfl)) (.cons (Q_cell o3.rn (t := 61) (k := i) (j := 0) (v := slv ((el acc i).outer).length ((q1.2 i).outer).1) (by omega) (by kernel_rfl) (by kernel_rfl)) .nil)) ?_; clear S; intro ac w β S
  obtain ⟨F6, o7, s8, b9⟩ := foc_Mon_outer o3 (k := i) (show i < (acc).length by omega)
  have z10 := szsum_take (xs := a) (k := i) (by omega)
  have z11 := szsum_take_le a (i + 1)
  have z12 := sz_Mon (el a i)
  have e13 : (el acc i).outer = (el a i).outer := by simp only [hel]
  refine RG.op rfl (S.callX (hd := hdl) (d := 18) o7 (c_laws_markSlotS w ((el acc i).outer) ((q1.2 i).outer) F6 (S.ownw o7) (fun b hb => (S.sep b (o7.sub b hb)).1) j (by omega) (by rw [e13]; omega)) (by kernel_rfl) rfl ?_)
  clear S; intro ac w N q14 y15 k16 S up o17 c18 x19 b20 b21
  rw [e13] at b21
  obtain ⟨p22, o23⟩ := b9 _ _ _ _ up o17 c18
  clear up o3 o7 s8 b9 o17 c18
  obtain ⟨a24, e25⟩ : ∃ z, z = (acc).set i ({ el acc i with outer := y15 }) := ⟨_, rfl⟩
  rw [← e25] at o23
  have l26 : a24.length = (acc).length := by rw [e25]; exact List.length_set
  have e27 : el a24 i = { el acc i with outer := y15 } := by rw [e25]; exact el_set_self (show i < (acc).length by omega)
  have t28 : a24.take i = (acc).take i := by rw [e25]; exact take_set_self
  have d29 : a24.drop (i + 1) = (acc).drop (i + 1) := by rw [e25]; exact drop_set_self
  clear e25
  refine S.qe 1 [] [(1, .v (I k16))] ?_; clear S; intro ac w β S
  refine (nt (ws (rg ?_)))
  refine S.qb 6 [] [(23, .v (slv ((el a24 i).out).length (((q1.1, p22).2 i).out).1)), (24, .v (I k16))] (.cons (Q_idx o23.rn (l := a.length) (k := i) (i := (i : Int)) (by omega) rfl (by omega) Tryz.underlying30 (by kernel_rfl)) (.cons (Q_cell o23.rn (t := 22) (k := i) (j := 1) (v := slv ((el a24 i).out).length (((q1.1, p22).2 i).out).1) (by omega) (by kernel_rfl) (by kernel_rfl)) .nil)) ?_; clear S; intro ac w β S
  obtain ⟨F30, o31, s32, b33⟩ := foc_Mon_out o23 (k := i) (show i < (a24).length by omega)
  have z34 := szsum_take (xs := a) (k := i) (by omega)
  have z35 := szsum_take_le a (i + 1)
  have z36 := sz_Mon (el a i)
  have e37 : (el a24 i).out = (el a i).out := by simp only [e27, hel]
  refine RG.op rfl (S.callX (hd := hdl) (d := 25) o31 (c_laws_markIntSS w ((el a24 i).out) (((q1.1, p22).2 i).out) F30 (S.ownw o31) (fun b hb => (S.sep b (o31.sub b hb)).1) k16 (by omega) (by rw [e37]; omega)) (by kernel_rfl) rfl ?_)
  clear S; intro ac w N q38 y39 k40 S up o41 c42 x43 b44 b45
  rw [e37] at b45
  obtain ⟨p46, o47⟩ := b33 _ _ _ _ up o41 c42
  clear up o23 o31 s32 b33 o41 c42
  obtain ⟨a48, e49⟩ : ∃ z, z = (a24).set i ({ el a24 i with out := y39 }) := ⟨_, rfl⟩
  rw [← e49] at o47
  have l50 : a48.length = (a24).length := by rw [e49]; exact List.length_set
  have e51 : el a48 i = { el a24 i with out := y39 } := by rw [e49]; exact el_set_self (show i < (a24).length by omega)
  have t52 : a48.take i = (a24).take i := by rw [e49]; exact take_set_self
  have d53 : a48.drop (i + 1) = (a24).drop (i + 1) := by rw [e49]; exact drop_set_self
  clear e49
  refine S.qe 1 [] [(1, .v (I k40))] ?_; clear S; intro ac w β S
  refine (nt (ws (rg ?_)))
  refine S.qb 6 [] [(30, .v (slv ((el a48 i).dirty).length (((q1.1, p46).2 i).dirty).1)), (31, .v (I k40))] (.cons (Q_idx o47.rn (l := a.length) (k := i) (i := (i : Int)) (by omega) rfl (by omega) Tryz.underlying30 (by kernel_rfl)) (.cons (Q_cell o47.rn (t := 62) (k := i) (j := 2) (v := slv ((el a48 i).dirty).length (((q1.1, p46).2 i).dirty).1) (by omega) (by kernel_rfl) (by kernel_rfl)) .nil)) ?_; clear S; intro ac w β S
  obtain ⟨F54, o55, s56, b57⟩ := foc_Mon_dirty o47 (k := i) (show i < (a48).length by omega)
  have z58 := szsum_take (xs := a) (k := i) (by omega)
  have z59 := szsum_take_le a (i + 1)
  have z60 := sz_Mon (el a i)
  have e61 : (el a48 i).dirty = (el a i).dirty := by simp only [e51, e27, hel]
  refine RG.op rfl (S.callX (hd := hdl) (d := 32) o55 (c_laws_markBoolS w ((el a48 i).dirty) (((q1.1, p46).2 i).dirty) F54 (S.ownw o55) (fun b hb => (S.sep b (o55.sub b hb)).1) k40 (by omega) (by rw [e61]; omega)) (by kernel_rfl) rfl ?_)
  clear S; intro ac w N q62 y63 k64 S up o65 c66 x67 b68 b69
  rw [e61] at b69
  obtain ⟨p70, o71⟩ := b57 _ _ _ _ up o65 c66
  clear up o47 o55 s56 b57 o65 c66
  obtain ⟨a72, e73⟩ : ∃ z, z = (a48).set i ({ el a48 i with dirty := y63 }) := ⟨_, rfl⟩
  rw [← e73] at o71
  have l74 : a72.length = (a48).length := by rw [e73]; exact List.length_set
  have e75 : el a72 i = { el a48 i with dirty := y63 } := by rw [e73]; exact el_set_self (show i < (a48).length by omega)
  have t76 : a72.take i = (a48).take i := by rw [e73]; exact take_set_self
  have d77 : a72.drop (i + 1) = (a48).drop (i + 1) := by rw [e73]; exact drop_set_self
  clear e73
  refine S.qe 1 [] [(1, .v (I k64))] ?_; clear S; intro ac w β S
  refine (nt (ws (rg ?_)))
  refine S.qb 6 [] [(37, .v (slv ((el a72 i).guests).length (((q1.1, p70).2 i).guests).1)), (38, .v (I k64))] (.cons (Q_idx o71.rn (l := a.length) (k := i) (i := (i : Int)) (by omega) rfl (by omega) Tryz.underlying30 (by kernel_rfl)) (.cons (Q_cell o71.rn (t := 54) (k := i) (j := 3) (v := slv ((el a72 i).guests).length (((q1.1, p70).2 i).guests).1) (by omega) (by kernel_rfl) (by kernel_rfl)) .nil)) ?_; clear S; intro ac w β S
  obtain ⟨F78, o79, s80, b81⟩ := foc_Mon_guests o71 (k := i) (show i < (a72).length by omega)
  have z82 := szsum_take (xs := a) (k := i) (by omega)
  have z83 := szsum_take_le a (i + 1)
  have z84 := sz_Mon (el a i)
  have e85 : (el a72 i).guests = (el a i).guests := by simp only [e75, e51, e27, hel]
  refine RG.op rfl (S.callX (hd := hdl) (d := 39) o79 (c_laws_markGuestS w ((el a72 i).guests) (((q1.1, p70).2 i).guests) F78 (S.ownw o79) (fun b hb => (S.sep b (o79.sub b hb)).1) k64 (by omega) (by rw [e85]; omega)) (by kernel_rfl) rfl ?_)
  clear S; intro ac w N q86 y87 k88 S up o89 c90 x91 b92 b93
  rw [e85] at b93
  obtain ⟨p94, o95⟩ := b81 _ _ _ _ up o89 c90
  clear up o71 o79 s80 b81 o89 c90
  obtain ⟨a96, e97⟩ : ∃ z, z = (a72).set i ({ el a72 i with guests := y87 }) := ⟨_, rfl⟩
  rw [← e97] at o95
  have l98 : a96.length = (a72).length := by rw [e97]; exact List.length_set
  have e99 : el a96 i = { el a72 i with guests := y87 } := by rw [e97]; exact el_set_self (show i < (a72).length by omega)
  have t100 : a96.take i = (a72).take i := by rw [e97]; exact take_set_self
  have d101 : a96.drop (i + 1) = (a72).drop (i + 1) := by rw [e97]; exact drop_set_self
  clear e97
  refine S.qe 1 [] [(1, .v (I k88))] ?_; clear S; intro ac w β S
  refine (nt (ws (rg ?_)))
  refine S.qb 6 [] [(44, .v (slv ((el a96 i).outs).length (((q1.1, p94).2 i).outs).1)), (45, .v (I k88))] (.cons (Q_idx o95.rn (l := a.length) (k := i) (i := (i : Int)) (by omega) rfl (by omega) Tryz.underlying30 (by kernel_rfl)) (.cons (Q_cell o95.rn (t := 55) (k := i) (j := 4) (v := slv ((el a96 i).outs).length (((q1.1, p94).2 i).outs).1) (by omega) (by kernel_rfl) (by kernel_rfl)) .nil)) ?_; clear S; intro ac w β S
  obtain ⟨F102, o103, s104, b105⟩ := foc_Mon_outs o95 (k := i) (show i < (a96).length by omega)
  have z106 := szsum_take (xs := a) (k := i) (by omega)
  have z107 := szsum_take_le a (i + 1)
  have z108 := sz_Mon (el a i)
  have e109 : (el a96 i).outs = (el a i).outs := by simp only [e99, e75, e51, e27, hel]
  refine RG.op rfl (S.callX (hd := hdl) (d := 46) o103 (c_laws_markIntS w ((el a96 i).outs) (((q1.1, p94).2 i).outs) F102 (S.ownw o103) (fun b hb => (S.sep b (o103.sub b hb)).1) k88 (by omega) (by rw [e109]; omega)) (by kernel_rfl) rfl ?_)
  clear S; intro ac w N q110 y111 k112 S up o113 c114 x115 b116 b117
  rw [e109] at b117
  obtain ⟨p118, o119⟩ := b105 _ _ _ _ up o113 c114
  clear up o95 o103 s104 b105 o113 c114
  obtain ⟨a120, e121⟩ : ∃ z, z = (a96).set i ({ el a96 i with outs := y111 }) := ⟨_, rfl⟩
  rw [← e121] at o119
  have l122 : a120.length = (a96).length := by rw [e121]; exact List.length_set
  have e123 : el a120 i = { el a96 i with outs := y111 } := by rw [e121]; exact el_set_self (show i < (a96).length by omega)
  have t124 : a120.take i = (a96).take i := by rw [e121]; exact take_set_self
  have d125 : a120.drop (i + 1) = (a96).drop (i + 1) := by rw [e121]; exact drop_set_self
  clear e121
  refine S.qe 1 [] [(1, .v (I k112))] ?_; clear S; intro ac w β S
  refine (nt (ws (rg ?_)))
  refine S.qb 5 [] [(49, .v (I k112)), (51, .v (pt q1.1.b (q1.1.off + i * 9 + 5)))] (.cons (Q_idx o119.rn (l := a.length) (k := i) (i := (i : Int)) (by omega) rfl (by omega) Tryz.underlying30 (by kernel_rfl)) .nil) ?_; clear S; intro ac w β S
  refine RG.op rfl (S.setEl (α := TMon) o119 (t := 3) (v := I k112) (k := i) (j := 5) (off := q1.1.off + i * 9 + 5) (y := ({ el a120 i with pend := k112 } : TMon)) (q := ((q1.1, p118).2 i)) (Fy := NoB) (by kernel_rfl) (by kernel_rfl) (by omega) (by kernel_rfl) (by kernel_rfl) (Nat.le_of_ble_eq_true (by kernel_rfl)) (by kernel_rfl) (fun G g_ _ => ⟨G, ows_Mon_pend g_ (⟨by omega, by omega⟩), fun _ h => .inl h⟩) (fun b _ h => False.elim h) (fun b h => False.elim h) (fun b h => False.elim h) ?_)
  clear S; intro w N F127 q128 S up o126 d129 s130 n131
  have s132 : ∀ b, F127 b → F b := fun b h => (s130 b h).elim (hs b) (fun h => False.elim h)
  clear up d129 o119 n131
  obtain ⟨a133, e134⟩ : ∃ z, z = (a120).set i ({ el a120 i with pend := k112 }) := ⟨_, rfl⟩
  rw [← e134] at o126
  have l135 : a133.length = (a120).length := by rw [e134]; exact List.length_set
  have e136 : el a133 i = { el a120 i with pend := k112 } := by rw [e134]; exact el_set_self (show i < (a120).length by omega)
  have t137 : a133.take i = (a120).take i := by rw [e134]; exact take_set_self
  have d138 : a133.drop (i + 1) = (a120).drop (i + 1) := by rw [e134]; exact drop_set_self
  clear e134
  refine rd (nt (ws (rg ?_)))
  refine S.qg 3 [9, 16, 17, 23, 24, 30, 31, 37, 38, 44, 45, 49, 51] [(1, .v (I (k112 + 1)))] (.cons (Q_add (x := k112) (y := 1) ⟨by omega, by omega⟩) .nil) ?_; clear S; intro ac w β S
  refine (nt (ws (rg ?_)))
  refine S.qb 5 [] [(56, .v (I (k112 + 1))), (58, .v (pt q1.1.b (q1.1.off + i * 9 + 6)))] (.cons (Q_idx o126.rn (l := a.length) (k := i) (i := (i : Int)) (by omega) rfl (by omega) Tryz.underlying30 (by kernel_rfl)) .nil) ?_; clear S; intro ac w β S
  refine RG.op rfl (S.setEl (α := TMon) o126 (t := 3) (v := I (k112 + 1)) (k := i) (j := 6) (off := q1.1.off + i * 9 + 6) (y := ({ el a133 i with traps := (k112 + 1) } : TMon)) (q := ((q1.1, q128).2 i)) (Fy := NoB) (by kernel_rfl) (by kernel_rfl) (by omega) (by kernel_rfl) (by kernel_rfl) (Nat.le_of_ble_eq_true (by kernel_rfl)) (by kernel_rfl) (fun G g_ _ => ⟨G, ows_Mon_traps g_ (⟨by omega, by omega⟩), fun _ h => .inl h⟩) (fun b _ h => False.elim h) (fun b h => False.elim h) (fun b h => False.elim h) ?_)
  clear S; intro w N F140 q141 S up o139 d142 s143 n144
  have s145 : ∀ b, F140 b → F b := fun b h => (s143 b h).elim (s132 b) (fun h => False.elim h)
  clear up d142 o126 n144
  obtain ⟨a146, e147⟩ : ∃ z, z = (a133).set i ({ el a133 i with traps := (k112 + 1) }) := ⟨_, rfl⟩
  rw [← e147] at o139
  have l148 : a146.length = (a133).length := by rw [e147]; exact List.length_set
  have e149 : el a146 i = { el a133 i with traps := (k112 + 1) } := by rw [e147]; exact el_set_self (show i < (a133).length by omega)
  have t150 : a146.take i = (a133).take i := by rw [e147]; exact take_set_self
  have d151 : a146.drop (i + 1) = (a133).drop (i + 1) := by rw [e147]; exact drop_set_self
  clear e147
  refine rd (nt (ws (rg ?_)))
  refine S.qg 3 [] [(1, .v (I ((k112 + 1) + 1)))] (.cons (Q_add (x := (k112 + 1)) (y := 1) ⟨by omega, by omega⟩) .nil) ?_; clear S; intro ac w β S
  refine (nt (ws (rg ?_)))
  refine S.qb 6 [] [(65, .v (slv ((el a146 i).tables).length (((q1.1, q141).2 i).tables).1)), (66, .v (I ((k112 + 1) + 1)))] (.cons (Q_idx o139.rn (l := a.length) (k := i) (i := (i : Int)) (by omega) rfl (by omega) Tryz.underlying30 (by kernel_rfl)) (.cons (Q_cell o139.rn (t := 63) (k := i) (j := 7) (v := slv ((el a146 i).tables).length (((q1.1, q141).2 i).tables).1) (by omega) (by kernel_rfl) (by kernel_rfl)) .nil)) ?_; clear S; intro ac w β S
  obtain ⟨F152, o153, s154, b155⟩ := foc_Mon_tables o139 (k := i) (show i < (a146).length by omega)
  have z156 := szsum_take (xs := a) (k := i) (by omega)
  have z157 := szsum_take_le a (i + 1)
  have z158 := sz_Mon (el a i)
  have e159 : (el a146 i).tables = (el a i).tables := by simp only [e149, e136, e123, e99, e75, e51, e27, hel]
  refine RG.op rfl (S.callX (hd := hdl) (d := 67) o153 (c_laws_markKeptS w ((el a146 i).tables) (((q1.1, q141).2 i).tables) F152 (S.ownw o153) (fun b hb => (S.sep b (o153.sub b hb)).1) ((k112 + 1) + 1) (by omega) (by rw [e159]; omega)) (by kernel_rfl) rfl ?_)
  clear S; intro ac w N q160 y161 k162 S up o163 c164 x165 b166 b167
  rw [e159] at b167
  obtain ⟨p168, o169⟩ := b155 _ _ _ _ up o163 c164
  clear up o139 o153 s154 b155 o163 c164
  obtain ⟨a170, e171⟩ : ∃ z, z = (a146).set i ({ el a146 i with tables := y161 }) := ⟨_, rfl⟩
  rw [← e171] at o169
  have l172 : a170.length = (a146).length := by rw [e171]; exact List.length_set
  have e173 : el a170 i = { el a146 i with tables := y161 } := by rw [e171]; exact el_set_self (show i < (a146).length by omega)
  have t174 : a170.take i = (a146).take i := by rw [e171]; exact take_set_self
  have d175 : a170.drop (i + 1) = (a146).drop (i + 1) := by rw [e171]; exact drop_set_self
  clear e171
  refine S.qe 1 [] [(1, .v (I k162))] ?_; clear S; intro ac w β S
  refine (nt (ws (rg ?_)))
  refine S.qb 5 [] [(70, .v (I k162)), (72, .v (pt q1.1.b (q1.1.off + i * 9 + 8)))] (.cons (Q_idx o169.rn (l := a.length) (k := i) (i := (i : Int)) (by omega) rfl (by omega) Tryz.underlying30 (by kernel_rfl)) .nil) ?_; clear S; intro ac w β S
  refine RG.op rfl (S.setEl (α := TMon) o169 (t := 3) (v := I k162) (k := i) (j := 8) (off := q1.1.off + i * 9 + 8) (y := ({ el a170 i with owned := k162 } : TMon)) (q := ((q1.1, p168).2 i)) (Fy := NoB) (by kernel_rfl) (by kernel_rfl) (by omega) (by kernel_rfl) (by kernel_rfl) (Nat.le_of_ble_eq_true (by kernel_rfl)) (by kernel_rfl) (fun G g_ _ => ⟨G, ows_Mon_owned g_ (⟨by omega, by omega⟩), fun _ h => .inl h⟩) (fun b _ h => False.elim h) (fun b h => False.elim h) (fun b h => False.elim h) ?_)
  clear S; intro w N F177 q178 S up o176 d179 s180 n181
  have s182 : ∀ b, F177 b → F b := fun b h => (s180 b h).elim (s145 b) (fun h => False.elim h)
  clear up d179 o169 n181
  obtain ⟨a183, e184⟩ : ∃ z, z = (a170).set i ({ el a170 i with owned := k162 }) := ⟨_, rfl⟩
  rw [← e184] at o176
  have l185 : a183.length = (a170).length := by rw [e184]; exact List.length_set
  have e186 : el a183 i = { el a170 i with owned := k162 } := by rw [e184]; exact el_set_self (show i < (a170).length by omega)
  have t187 : a183.take i = (a170).take i := by rw [e184]; exact take_set_self
  have d188 : a183.drop (i + 1) = (a170).drop (i + 1) := by rw [e184]; exact drop_set_self
  clear e184
  refine rd (nt (rg ?_))
  refine S.qg 3 [] [(1, .v (I (k162 + 1)))] (.cons (Q_add (x := k162) (y := 1) ⟨by omega, by omega⟩) .nil) ?_; clear S; intro ac w β S
  refine (nb (nt (rg ?_)))
  refine S.qg 3 [] [(5, .v (I ((i : Int) + 1)))] (.cons (Q_add (x := (i : Int)) (y := 1) ⟨by omega, by omega⟩) .nil) ?_; clear S; intro ac w β S
  refine (nt ?_)
  refine ⟨a.length - (i + 1), by omega, i + 1, a183, (k162 + 1), (q1.1, q178), F177, _, _, _, rfl, ?_, ?_, ?_, ?_, ?_, ?_, S.z, o176, hq, s182⟩
  ·clear S; first | omega | (simp [*]; done) | (simp [*]; omega)
  ·clear S; omega
  ·clear S; refine mk_step (acc := a183) (by omega) (by intro f; rw [t187, t174, t150, t137, t124, t100, t76, t52, t28]; exact hM f) ?_; intro f; simp (disch := first | omega | rfl) only [he_list, he_Mon, e186, e173, e149, e136, e123, e99, e75, e51, e27, x19, x43, x67, x91, x115, x165, hdc_pos, hdi_eq, hdb_eq]
  ·clear S; rw [d188, d175, d151, d138, d125, d101, d77, d53, d29]; exact drop_more hD
  ·clear S; omega
  ·clear S; omega
 ·have g189 := of_decide_eq_false h4
  refine wp_exit (ex_then (ex_then (ex_hit (nt (ws (rg ?_))))))
  refine S.qe 2 [] [(4, .v (I j))] ?_; clear S; intro ac w β S
  refine (nt (wr (S.r [I j] ?_)))
  have hyd : hdl acc k = j := by clear S; exact mk_end (by omega) hM
  have hyb : k ≤ j ∧ j ≤ k + 16 * ((SZ.sz a : Nat) : Int) := by clear S; have hs2 := szsum_take_le a i; constructor <;> omega
  exact retX_of S hyd hyb.1 hyb.2 (by show [slv _ _] = [slv _ _]; rw [hl, hq]) o3 hs

end Go.Proofs.YtkbcponpcghjpaaGreat
