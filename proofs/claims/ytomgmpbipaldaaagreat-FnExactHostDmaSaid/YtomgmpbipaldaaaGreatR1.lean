/- These theorems prove that each of the laws FnExactHostDma returns true at every input and leaves its arguments as they were. Conditions: none beyond those of the given statements. -/
import Derived.Test.YtomgmpbipaldaaaGreatW4
import Derived.Test.YtomgmpbipaldaaaGreatOpen
import Derived.Test.YtomgmpbipaldaaaGreatRows
import Derived.WalkKit
import Derived.ProofKit
import Derived.OpenShut
import Derived.KernelRfl
namespace Go.Proofs.YtomgmpbipaldaaaGreat
open Go Go.ChangeShapes Go.WideShapes Go.ChangeAt Go.RowKit
set_option linter.unusedVariables false
set_option linter.unusedSimpArgs false
set_option maxRecDepth 100000
set_option maxHeartbeats 2000000

theorem o_3 : Opens Tryz.prog 3 (Int) := opens_int Tryz.underlying3 (by kernel_rfl)
theorem o_61 : Opens Tryz.prog 61 (List Int) := opens_slice Tryz.underlying61 (by kernel_rfl) o_3
theorem o_22 : Opens Tryz.prog 22 (List (List Int)) := opens_slice Tryz.underlying22 (by kernel_rfl) o_61
theorem o_166 : Opens Tryz.prog 166 (TSlot) := opens_Slot (t0 := 3) (t1 := 3) Tryz.underlying166 (by kernel_rfl) rfl o_3 o_3
theorem o_63 : Opens Tryz.prog 63 (List TSlot) := opens_slice Tryz.underlying63 (by kernel_rfl) o_166
theorem o_4 : Opens Tryz.prog 4 (Bool) := opens_bool Tryz.underlying4 (by kernel_rfl)
theorem o_64 : Opens Tryz.prog 64 (List Bool) := opens_slice Tryz.underlying64 (by kernel_rfl) o_4
theorem o_195 : Opens Tryz.prog 195 (TIns) := opens_Ins (t0 := 3) (t1 := 3) Tryz.underlying195 (by kernel_rfl) rfl o_3 o_3
theorem o_147 : Opens Tryz.prog 147 (List TIns) := opens_slice Tryz.underlying147 (by kernel_rfl) o_195
theorem o_148 : Opens Tryz.prog 148 (TCtl) := opens_Ctl (t0 := 3) (t1 := 3) (t2 := 4) Tryz.underlying148 (by kernel_rfl) rfl o_3 o_3 o_4
theorem o_149 : Opens Tryz.prog 149 (TExit) := opens_Exit (t0 := 3) (t1 := 3) (t2 := 4) (t3 := 3) Tryz.underlying149 (by kernel_rfl) rfl o_3 o_3 o_4 o_3
theorem o_151 : Opens Tryz.prog 151 (TGuest) := opens_Guest (t0 := 147) (t1 := 3) (t2 := 3) (t3 := 63) (t4 := 63) (t5 := 148) (t6 := 3) (t7 := 149) (t8 := 4) (t9 := 61) Tryz.underlying151 (by kernel_rfl) rfl o_147 o_3 o_3 o_63 o_63 o_148 o_3 o_149 o_4 o_61
theorem o_65 : Opens Tryz.prog 65 (List TGuest) := opens_slice Tryz.underlying65 (by kernel_rfl) o_151
theorem o_154 : Opens Tryz.prog 154 (TKept) := opens_Kept (t0 := 64) (t1 := 63) Tryz.underlying154 (by kernel_rfl) rfl o_64 o_63
theorem o_66 : Opens Tryz.prog 66 (List TKept) := opens_slice Tryz.underlying66 (by kernel_rfl) o_154
theorem o_68 : Opens Tryz.prog 68 (TMon) := opens_Mon (t0 := 63) (t1 := 22) (t2 := 64) (t3 := 65) (t4 := 61) (t5 := 3) (t6 := 3) (t7 := 66) (t8 := 3) Tryz.underlying68 (by kernel_rfl) rfl o_63 o_22 o_64 o_65 o_61 o_3 o_3 o_66 o_3
theorem o_23 : Opens Tryz.prog 23 (List TMon) := opens_slice Tryz.underlying23 (by kernel_rfl) o_68
theorem o_103 : Opens Tryz.prog 103 (TEntry) := opens_Entry (t0 := 3) (t1 := 3) (t2 := 3) (t3 := 3) Tryz.underlying103 (by kernel_rfl) rfl o_3 o_3 o_3 o_3
theorem o_24 : Opens Tryz.prog 24 (List TEntry) := opens_slice Tryz.underlying24 (by kernel_rfl) o_103
theorem o_26 : Opens Tryz.prog 26 (THost) := opens_Host (t0 := 22) (t1 := 23) (t2 := 24) (t3 := 24) Tryz.underlying26 (by kernel_rfl) rfl o_22 o_23 o_24 o_24
set_option maxRecDepth 100000 in
theorem lifted_FnExactHostDma (os : Os) (started : os.Started) (H : Type) (enc : TypeId × Value → H) :
    ReturnsInHanded {} Tryz.checked os 6 .any (Go.Proofs.YtomgmpbipaldaaaGreat.Rows.fnExactHostDmaSpec.pre6 enc Tryz.prog Tryz.f6 Go.Proofs.YtomgmpbipaldaaaGreat.Rows.fnExactHostDmaRow.domain false) (Go.Proofs.YtomgmpbipaldaaaGreat.Rows.fnExactHostDmaSpec.post enc Tryz.prog Tryz.f6 false true false false) := by
  refine Go.returnsInHanded_of_change (C := Tryz.checked) (by kernel_rfl) started (by kernel_rfl) Tryz.func6
    (ChangeSpec.witness6 (enc := enc) (C := Tryz.checked) false ⟨#[], #[.agg #[.slice none 0 0, .slice none 0 0, .slice none 0 0, .slice none 0 0], .int .i64 0, .int .i64 0, .int .i64 0, .int .i64 0], []⟩ 8 (by kernel_rfl) (by kernel_rfl) (by kernel_rfl) (by kernel_rfl)) ?_
  intro W base args ds gs before hval0 hW hcnd _
  have hval : ∀ (j : Nat) t v, Tryz.f6.params[j]? = some t → args[j]? = some v → Value.okWide Tryz.prog W .any base t v := hval0
  have hW' := hW
  obtain ⟨p, q, hA0, hV, rfl, hfz, hnd⟩ := hW
  have hA : DataW.TrodAll enc Tryz.prog W 0 (fun _ => true) true Tryz.f6.params.toList args.toList ds p := hA0
  rw [Tryz.params6] at hA hval
  obtain ⟨v0, vs0, d0, ds0, p0, q0, hargs, rfl, rfl, h0, r0⟩ := Go.ChangeShapes.trodAll_cons hA
  obtain ⟨v1, vs1, d1, ds1, p1, q1, rfl, rfl, rfl, h1, r1⟩ := Go.ChangeShapes.trodAll_cons r0
  obtain ⟨v2, vs2, d2, ds2, p2, q2, rfl, rfl, rfl, h2, r2⟩ := Go.ChangeShapes.trodAll_cons r1
  obtain ⟨v3, vs3, d3, ds3, p3, q3, rfl, rfl, rfl, h3, r3⟩ := Go.ChangeShapes.trodAll_cons r2
  obtain ⟨v4, vs4, d4, ds4, p4, q4, rfl, rfl, rfl, h4, r4⟩ := Go.ChangeShapes.trodAll_cons r3
  obtain ⟨rfl, rfl, rfl⟩ := Go.ChangeShapes.trodAll_nil r4
  obtain rfl : args = #[v0, v1, v2, v3, v4] := by cases args; simp_all
  obtain ⟨rfl, rfl⟩ := Go.ChangeShapes.trodVars_none hV
  have hlt := hW'.lt
  have k0 := h0
  obtain ⟨a0, pp0, rfl, b0⟩ := arg_agg o_26 Tryz.underlying26 rfl (hval 0 26 v0 rfl rfl) h0
  have k1 := h1
  obtain ⟨a1, rfl, b1⟩ := arg_int Tryz.underlying3 (hval 1 3 v1 rfl rfl) h1
  have k2 := h2
  obtain ⟨a2, rfl, b2⟩ := arg_int Tryz.underlying3 (hval 2 3 v2 rfl rfl) h2
  have k3 := h3
  obtain ⟨a3, rfl, b3⟩ := arg_int Tryz.underlying3 (hval 3 3 v3 rfl rfl) h3
  have k4 := h4
  obtain ⟨a4, rfl, b4⟩ := arg_int Tryz.underlying3 (hval 4 3 v4 rfl rfl) h4
  clear hA0 hval0
  simp only [List.append_nil] at hW' hlt
  refine Calls.mono (c_laws_FnExactHostDma W a0 pp0 b0 a1 a2 a3 b3 a4 b4) fun e W' ⟨he, hg⟩ => ?_
  subst he
  have hb := hg.below
  exact ⟨_, rfl, post_law (pa := p0 ++ (p1 ++ (p2 ++ (p3 ++ (p4 ++ []))))) (pv := []) hW' (fun _ _ _ => (trodAll_cons_mk (shut_bool Tryz.underlying4 _) Go.ChangeShapes.trodAll_mk0)) (fun sp hsp => (trodAll_cons_mk (WideElems.Trod_stays (by kernel_rfl) (by kernel_rfl) (of_decide_eq_true (by kernel_rfl)) k0 (fun x hx => hb.same (hlt x (by simp [hx]))) (fun x hx => hsp x (by simp [hx]))) (trodAll_cons_mk (WideElems.Trod_stays (by kernel_rfl) (by kernel_rfl) (of_decide_eq_true (by kernel_rfl)) k1 (fun x hx => hb.same (hlt x (by simp [hx]))) (fun x hx => hsp x (by simp [hx]))) (trodAll_cons_mk (WideElems.Trod_stays (by kernel_rfl) (by kernel_rfl) (of_decide_eq_true (by kernel_rfl)) k2 (fun x hx => hb.same (hlt x (by simp [hx]))) (fun x hx => hsp x (by simp [hx]))) (trodAll_cons_mk (WideElems.Trod_stays (by kernel_rfl) (by kernel_rfl) (of_decide_eq_true (by kernel_rfl)) k3 (fun x hx => hb.same (hlt x (by simp [hx]))) (fun x hx => hsp x (by simp [hx]))) (trodAll_cons_mk (WideElems.Trod_stays (by kernel_rfl) (by kernel_rfl) (of_decide_eq_true (by kernel_rfl)) k4 (fun x hx => hb.same (hlt x (by simp [hx]))) (fun x hx => hsp x (by simp [hx]))) Go.ChangeShapes.trodAll_mk0)))))) (fun _ _ => rfl) (by simp)
    hb (RowKit.ok_one (by kernel_rfl) rfl (okWide_bool_mk Tryz.underlying4 _))⟩

theorem fnExactHostDma_holds : Go.Proofs.YtomgmpbipaldaaaGreat.Rows.FnExactHostDmaSaid :=
  OpenClaim.holds_of_wide 6 Tryz.f6 rfl rfl rfl rfl rfl rfl rfl ⟨rfl, rfl, rfl, rfl, rfl⟩ rfl rfl rfl rfl rfl (by kernel_rfl) Tryz.func6 (by kernel_rfl)
    (of_decide_eq_true (by kernel_rfl)) (by unfold Func.isWrapper; first | (rw [if_pos (by decide +kernel)]; kernel_rfl) | (rw [if_neg (by decide +kernel)]; exact ⟨rfl, rfl⟩))
    (fun os started H enc _ => lifted_FnExactHostDma os started H enc)

end Go.Proofs.YtomgmpbipaldaaaGreat
