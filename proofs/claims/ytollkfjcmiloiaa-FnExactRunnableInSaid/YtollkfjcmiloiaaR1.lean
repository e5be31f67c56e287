/- These theorems prove that each of the laws FnExactRunnableIn returns true at every input and leaves its arguments as they were. Conditions: none beyond those of the given statements. -/
import Derived.Test.YtollkfjcmiloiaaW3
import Derived.Test.YtollkfjcmiloiaaOpen
import Derived.Test.YtollkfjcmiloiaaRows
import Derived.WalkKit
import Derived.ProofKit
import Derived.OpenShut
import Derived.KernelRfl
namespace Go.Proofs.Ytollkfjcmiloiaa
open Go Go.ChangeShapes Go.WideShapes Go.ChangeAt Go.RowKit
set_option linter.unusedVariables false
set_option linter.unusedSimpArgs false

theorem o_3 : Opens Go.Proofs.Try.prog 3 (Int) := opens_int Go.Proofs.Try.underlying3 (by kernel_rfl)
theorem o_42 : Opens Go.Proofs.Try.prog 42 (List Int) := opens_slice Go.Proofs.Try.underlying42 (by kernel_rfl) o_3
theorem o_22 : Opens Go.Proofs.Try.prog 22 (List (List Int)) := opens_slice Go.Proofs.Try.underlying22 (by kernel_rfl) o_42
theorem o_129 : Opens Go.Proofs.Try.prog 129 (TSlot) := opens_Slot (t0 := 3) (t1 := 3) Go.Proofs.Try.underlying129 (by kernel_rfl) rfl o_3 o_3
theorem o_39 : Opens Go.Proofs.Try.prog 39 (List TSlot) := opens_slice Go.Proofs.Try.underlying39 (by kernel_rfl) o_129
theorem o_4 : Opens Go.Proofs.Try.prog 4 (Bool) := opens_bool Go.Proofs.Try.underlying4 (by kernel_rfl)
theorem o_40 : Opens Go.Proofs.Try.prog 40 (List Bool) := opens_slice Go.Proofs.Try.underlying40 (by kernel_rfl) o_4
theorem o_155 : Opens Go.Proofs.Try.prog 155 (TIns) := opens_Ins (t0 := 3) (t1 := 3) Go.Proofs.Try.underlying155 (by kernel_rfl) rfl o_3 o_3
theorem o_116 : Opens Go.Proofs.Try.prog 116 (List TIns) := opens_slice Go.Proofs.Try.underlying116 (by kernel_rfl) o_155
theorem o_117 : Opens Go.Proofs.Try.prog 117 (TCtl) := opens_Ctl (t0 := 3) (t1 := 3) (t2 := 4) Go.Proofs.Try.underlying117 (by kernel_rfl) rfl o_3 o_3 o_4
theorem o_118 : Opens Go.Proofs.Try.prog 118 (TExit) := opens_Exit (t0 := 3) (t1 := 3) (t2 := 4) (t3 := 3) Go.Proofs.Try.underlying118 (by kernel_rfl) rfl o_3 o_3 o_4 o_3
theorem o_120 : Opens Go.Proofs.Try.prog 120 (TGuest) := opens_Guest (t0 := 116) (t1 := 3) (t2 := 3) (t3 := 39) (t4 := 39) (t5 := 117) (t6 := 3) (t7 := 118) (t8 := 4) (t9 := 42) Go.Proofs.Try.underlying120 (by kernel_rfl) rfl o_116 o_3 o_3 o_39 o_39 o_117 o_3 o_118 o_4 o_42
theorem o_41 : Opens Go.Proofs.Try.prog 41 (List TGuest) := opens_slice Go.Proofs.Try.underlying41 (by kernel_rfl) o_120
theorem o_123 : Opens Go.Proofs.Try.prog 123 (TKept) := opens_Kept (t0 := 40) (t1 := 39) Go.Proofs.Try.underlying123 (by kernel_rfl) rfl o_40 o_39
theorem o_43 : Opens Go.Proofs.Try.prog 43 (List TKept) := opens_slice Go.Proofs.Try.underlying43 (by kernel_rfl) o_123
theorem o_45 : Opens Go.Proofs.Try.prog 45 (TMon) := opens_Mon (t0 := 39) (t1 := 22) (t2 := 40) (t3 := 41) (t4 := 42) (t5 := 3) (t6 := 3) (t7 := 43) (t8 := 3) Go.Proofs.Try.underlying45 (by kernel_rfl) rfl o_39 o_22 o_40 o_41 o_42 o_3 o_3 o_43 o_3
theorem o_23 : Opens Go.Proofs.Try.prog 23 (List TMon) := opens_slice Go.Proofs.Try.underlying23 (by kernel_rfl) o_45
theorem o_113 : Opens Go.Proofs.Try.prog 113 (TEntry) := opens_Entry (t0 := 3) (t1 := 3) (t2 := 3) (t3 := 3) Go.Proofs.Try.underlying113 (by kernel_rfl) rfl o_3 o_3 o_3 o_3
theorem o_24 : Opens Go.Proofs.Try.prog 24 (List TEntry) := opens_slice Go.Proofs.Try.underlying24 (by kernel_rfl) o_113
theorem o_26 : Opens Go.Proofs.Try.prog 26 (THost) := opens_Host (t0 := 22) (t1 := 23) (t2 := 24) (t3 := 24) Go.Proofs.Try.underlying26 (by kernel_rfl) rfl o_22 o_23 o_24 o_24
set_option maxRecDepth 100000 in
theorem lifted_FnExactRunnableIn (os : Os) (started : os.Started) (H : Type) (enc : TypeId × Value → H) :
    ReturnsInHanded {} Go.Proofs.Try.checked os 8 .any (Go.Proofs.Ytollkfjcmiloiaa.Rows.fnExactRunnableInSpec.pre6 enc Go.Proofs.Try.prog Go.Proofs.Try.f8 Go.Proofs.Ytollkfjcmiloiaa.Rows.fnExactRunnableInRow.domain false) (Go.Proofs.Ytollkfjcmiloiaa.Rows.fnExactRunnableInSpec.post enc Go.Proofs.Try.prog Go.Proofs.Try.f8 false true false false) := by
  refine Go.returnsInHanded_of_change (C := Go.Proofs.Try.checked) (by kernel_rfl) started (by kernel_rfl) Go.Proofs.Try.func8
    (ChangeSpec.witness6 (enc := enc) (C := Go.Proofs.Try.checked) false ⟨#[], #[.agg #[.slice none 0 0, .slice none 0 0, .slice none 0 0, .slice none 0 0]], []⟩ 8 (by kernel_rfl) (by kernel_rfl) (by kernel_rfl) (by kernel_rfl)) ?_
  intro W base args ds gs before hval0 hW hcnd _
  have hval : ∀ (j : Nat) t v, Go.Proofs.Try.f8.params[j]? = some t → args[j]? = some v → Value.okWide Go.Proofs.Try.prog W .any base t v := hval0
  have hW' := hW
  obtain ⟨p, q, hA0, hV, rfl, hfz, hnd⟩ := hW
  have hA : DataW.TrodAll enc Go.Proofs.Try.prog W 0 (fun _ => true) true Go.Proofs.Try.f8.params.toList args.toList ds p := hA0
  rw [Go.Proofs.Try.params8] at hA hval
  obtain ⟨v0, vs0, d0, ds0, p0, q0, hargs, rfl, rfl, h0, r0⟩ := Go.ChangeShapes.trodAll_cons hA
  obtain ⟨rfl, rfl, rfl⟩ := Go.ChangeShapes.trodAll_nil r0
  obtain rfl : args = #[v0] := by cases args; simp_all
  obtain ⟨rfl, rfl⟩ := Go.ChangeShapes.trodVars_none hV
  have hlt := hW'.lt
  have k0 := h0
  obtain ⟨a0, pp0, rfl, b0⟩ := arg_agg o_26 Go.Proofs.Try.underlying26 rfl (hval 0 26 v0 rfl rfl) h0
  clear hA0 hval0
  simp only [List.append_nil] at hW' hlt
  refine Calls.mono (c_laws_FnExactRunnableIn W a0 pp0 b0) fun e W' ⟨he, hg⟩ => ?_
  subst he
  have hb := hg.below
  exact ⟨_, rfl, post_law (pa := p0 ++ []) (pv := []) hW' (fun _ _ _ => (trodAll_cons_mk (shut_bool Go.Proofs.Try.underlying4 _) Go.ChangeShapes.trodAll_mk0)) (fun sp hsp => (trodAll_cons_mk (WideElems.Trod_stays (by kernel_rfl) (by kernel_rfl) (of_decide_eq_true (by kernel_rfl)) k0 (fun x hx => hb.same (hlt x (by simp [hx]))) (fun x hx => hsp x (by simp [hx]))) Go.ChangeShapes.trodAll_mk0)) (fun _ _ => rfl) (by simp)
    hb (RowKit.ok_one (by kernel_rfl) rfl (okWide_bool_mk Go.Proofs.Try.underlying4 _))⟩

theorem fnExactRunnableIn_holds : Go.Proofs.Ytollkfjcmiloiaa.Rows.FnExactRunnableInSaid :=
  OpenClaim.holds_of_wide 8 Go.Proofs.Try.f8 rfl rfl rfl rfl rfl rfl rfl ⟨rfl, rfl, rfl, rfl, rfl⟩ rfl rfl rfl rfl rfl (by kernel_rfl) Go.Proofs.Try.func8 (by kernel_rfl)
    (of_decide_eq_true (by kernel_rfl)) (by unfold Func.isWrapper; first | (rw [if_pos (by decide +kernel)]; kernel_rfl) | (rw [if_neg (by decide +kernel)]; exact ⟨rfl, rfl⟩))
    (fun os started H enc _ => lifted_FnExactRunnableIn os started H enc)

end Go.Proofs.Ytollkfjcmiloiaa
