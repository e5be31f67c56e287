/- These theorems prove that each of the laws FnExactBareAct returns true at every input and leaves its arguments as they were. Conditions: none beyond those of the given statements. -/
import Derived.Test.YtlpaefknpmdaoaaGreatA6
import Derived.Test.YtlpaefknpmdaoaaGreatA1
import Derived.Test.YtlpaefknpmdaoaaGreatRows
import Derived.WalkKit
import Derived.ProofKit
import Derived.OpenShut
import Derived.KernelRfl
namespace Go.Proofs.YtlpaefknpmdaoaaGreat
open Go Go.ChangeShapes Go.WideShapes Go.ChangeAt Go.RowKit
set_option linter.unusedVariables false
set_option linter.unusedSimpArgs false
set_option maxRecDepth 100000
set_option maxHeartbeats 2000000

theorem o_3 : Opens Tryz.prog 3 (Int) := opens_int Tryz.underlying3 (by kernel_rfl)
theorem o_41 : Opens Tryz.prog 41 (List Int) := opens_slice Tryz.underlying41 (by kernel_rfl) o_3
theorem o_39 : Opens Tryz.prog 39 (List (List Int)) := opens_slice Tryz.underlying39 (by kernel_rfl) o_41
theorem o_158 : Opens Tryz.prog 158 (TIns) := opens_Ins (t0 := 3) (t1 := 3) Tryz.underlying158 (by kernel_rfl) rfl o_3 o_3
theorem o_120 : Opens Tryz.prog 120 (List TIns) := opens_slice Tryz.underlying120 (by kernel_rfl) o_158
theorem o_160 : Opens Tryz.prog 160 (TSlot) := opens_Slot (t0 := 3) (t1 := 3) Tryz.underlying160 (by kernel_rfl) rfl o_3 o_3
theorem o_121 : Opens Tryz.prog 121 (List TSlot) := opens_slice Tryz.underlying121 (by kernel_rfl) o_160
theorem o_4 : Opens Tryz.prog 4 (Bool) := opens_bool Tryz.underlying4 (by kernel_rfl)
theorem o_122 : Opens Tryz.prog 122 (TCtl) := opens_Ctl (t0 := 3) (t1 := 3) (t2 := 4) Tryz.underlying122 (by kernel_rfl) rfl o_3 o_3 o_4
theorem o_123 : Opens Tryz.prog 123 (TExit) := opens_Exit (t0 := 3) (t1 := 3) (t2 := 4) (t3 := 3) Tryz.underlying123 (by kernel_rfl) rfl o_3 o_3 o_4 o_3
theorem o_125 : Opens Tryz.prog 125 (TGuest) := opens_Guest (t0 := 120) (t1 := 3) (t2 := 3) (t3 := 121) (t4 := 121) (t5 := 122) (t6 := 3) (t7 := 123) (t8 := 4) (t9 := 41) Tryz.underlying125 (by kernel_rfl) rfl o_120 o_3 o_3 o_121 o_121 o_122 o_3 o_123 o_4 o_41
theorem o_40 : Opens Tryz.prog 40 (List TGuest) := opens_slice Tryz.underlying40 (by kernel_rfl) o_125
theorem o_43 : Opens Tryz.prog 43 (TBare) := opens_Bare (t0 := 39) (t1 := 40) (t2 := 41) (t3 := 3) Tryz.underlying43 (by kernel_rfl) rfl o_39 o_40 o_41 o_3
theorem o_22 : Opens Tryz.prog 22 (List TBare) := opens_slice Tryz.underlying22 (by kernel_rfl) o_43
theorem o_24 : Opens Tryz.prog 24 (TAct) := opens_Act (t0 := 3) (t1 := 3) (t2 := 3) (t3 := 3) (t4 := 3) (t5 := 3) Tryz.underlying24 (by kernel_rfl) rfl o_3 o_3 o_3 o_3 o_3 o_3
set_option maxRecDepth 100000 in
theorem lifted_FnExactBareAct (os : Os) (started : os.Started) (H : Type) (enc : TypeId × Value → H) :
    ReturnsInHanded {} Tryz.checked os 3 .any (Go.Proofs.YtlpaefknpmdaoaaGreat.Rows.fnExactBareActSpec.pre6 enc Tryz.prog Tryz.f3 Go.Proofs.YtlpaefknpmdaoaaGreat.Rows.fnExactBareActRow.domain false) (Go.Proofs.YtlpaefknpmdaoaaGreat.Rows.fnExactBareActSpec.post enc Tryz.prog Tryz.f3 false true false false) := by
  refine Go.returnsInHanded_of_change (C := Tryz.checked) (by kernel_rfl) started (by kernel_rfl) Tryz.func3
    (ChangeSpec.witness6 (enc := enc) (C := Tryz.checked) false ⟨#[], #[.slice none 0 0, .agg #[.int .i64 0, .int .i64 0, .int .i64 0, .int .i64 0, .int .i64 0, .int .i64 0]], []⟩ 8 (by kernel_rfl) (by kernel_rfl) (by kernel_rfl) (by kernel_rfl)) ?_
  intro W base args ds gs before hval0 hW hcnd _
  have hval : ∀ (j : Nat) t v, Tryz.f3.params[j]? = some t → args[j]? = some v → Value.okWide Tryz.prog W .any base t v := hval0
  have hW' := hW
  obtain ⟨p, q, hA0, hV, rfl, hfz, hnd⟩ := hW
  have hA : DataW.TrodAll enc Tryz.prog W 0 (fun _ => true) true Tryz.f3.params.toList args.toList ds p := hA0
  rw [Tryz.params3] at hA hval
  obtain ⟨v0, vs0, d0, ds0, p0, q0, hargs, rfl, rfl, h0, r0⟩ := Go.ChangeShapes.trodAll_cons hA
  obtain ⟨v1, vs1, d1, ds1, p1, q1, rfl, rfl, rfl, h1, r1⟩ := Go.ChangeShapes.trodAll_cons r0
  obtain ⟨rfl, rfl, rfl⟩ := Go.ChangeShapes.trodAll_nil r1
  obtain rfl : args = #[v0, v1] := by cases args; simp_all
  obtain ⟨rfl, rfl⟩ := Go.ChangeShapes.trodVars_none hV
  have hlt := hW'.lt
  have k0 := h0
  obtain ⟨a0, pp0, rfl, b0⟩ := arg_list o_22 Tryz.underlying22 (hval 0 22 v0 rfl rfl) h0
  have k1 := h1
  obtain ⟨a1, pp1, rfl, b1⟩ := arg_agg o_24 Tryz.underlying24 rfl (hval 1 24 v1 rfl rfl) h1
  clear hA0 hval0
  simp only [List.append_nil] at hW' hlt
  refine Calls.mono (c_laws_FnExactBareAct W a0 pp0 b0 a1 b1) fun e W' ⟨he, hg⟩ => ?_
  subst he
  have hb := hg.below
  exact ⟨_, rfl, post_law (pa := p0 ++ (p1 ++ [])) (pv := []) hW' (fun _ _ _ => (trodAll_cons_mk (shut_bool Tryz.underlying4 _) Go.ChangeShapes.trodAll_mk0)) (fun sp hsp => (trodAll_cons_mk (WideElems.Trod_stays (by kernel_rfl) (by kernel_rfl) (of_decide_eq_true (by kernel_rfl)) k0 (fun x hx => hb.same (hlt x (by simp [hx]))) (fun x hx => hsp x (by simp [hx]))) (trodAll_cons_mk (WideElems.Trod_stays (by kernel_rfl) (by kernel_rfl) (of_decide_eq_true (by kernel_rfl)) k1 (fun x hx => hb.same (hlt x (by simp [hx]))) (fun x hx => hsp x (by simp [hx]))) Go.ChangeShapes.trodAll_mk0))) (fun _ _ => rfl) (by simp)
    hb (RowKit.ok_one (by kernel_rfl) rfl (okWide_bool_mk Tryz.underlying4 _))⟩

theorem fnExactBareAct_holds : Go.Proofs.YtlpaefknpmdaoaaGreat.Rows.FnExactBareActSaid :=
  OpenClaim.holds_of_wide 3 Tryz.f3 rfl rfl rfl rfl rfl rfl rfl ⟨rfl, rfl, rfl, rfl, rfl⟩ rfl rfl rfl rfl rfl (by kernel_rfl) Tryz.func3 (by kernel_rfl)
    (of_decide_eq_true (by kernel_rfl)) (by unfold Func.isWrapper; first | (rw [if_pos (by decide +kernel)]; kernel_rfl) | (rw [if_neg (by decide +kernel)]; exact ⟨rfl, rfl⟩))
    (fun os started H enc _ => lifted_FnExactBareAct os started H enc)

end Go.Proofs.YtlpaefknpmdaoaaGreat
