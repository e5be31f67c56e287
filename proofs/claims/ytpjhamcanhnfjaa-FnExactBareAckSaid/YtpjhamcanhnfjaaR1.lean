/- These theorems prove that each of the laws FnExactBareAck returns true at every input and leaves its arguments as they were. Conditions: none beyond those of the given statements. -/
import Derived.Test.YtpjhamcanhnfjaaW3
import Derived.Test.YtpjhamcanhnfjaaOpen
import Derived.Test.YtpjhamcanhnfjaaRows
import Derived.WalkKit
import Derived.ProofKit
import Derived.OpenShut
import Derived.KernelRfl
namespace Go.Proofs.Ytpjhamcanhnfjaa
open Go Go.ChangeShapes Go.WideShapes Go.ChangeAt Go.RowKit
set_option linter.unusedVariables false
set_option linter.unusedSimpArgs false

theorem o_3 : Opens Try.prog 3 (Int) := opens_int Try.underlying3 (by kernel_rfl)
theorem o_24 : Opens Try.prog 24 (List Int) := opens_slice Try.underlying24 (by kernel_rfl) o_3
theorem o_31 : Opens Try.prog 31 (List (List Int)) := opens_slice Try.underlying31 (by kernel_rfl) o_24
theorem o_184 : Opens Try.prog 184 (TIns) := opens_Ins (t0 := 3) (t1 := 3) Try.underlying184 (by kernel_rfl) rfl o_3 o_3
theorem o_142 : Opens Try.prog 142 (List TIns) := opens_slice Try.underlying142 (by kernel_rfl) o_184
theorem o_186 : Opens Try.prog 186 (TSlot) := opens_Slot (t0 := 3) (t1 := 3) Try.underlying186 (by kernel_rfl) rfl o_3 o_3
theorem o_143 : Opens Try.prog 143 (List TSlot) := opens_slice Try.underlying143 (by kernel_rfl) o_186
theorem o_4 : Opens Try.prog 4 (Bool) := opens_bool Try.underlying4 (by kernel_rfl)
theorem o_144 : Opens Try.prog 144 (TCtl) := opens_Ctl (t0 := 3) (t1 := 3) (t2 := 4) Try.underlying144 (by kernel_rfl) rfl o_3 o_3 o_4
theorem o_145 : Opens Try.prog 145 (TExit) := opens_Exit (t0 := 3) (t1 := 3) (t2 := 4) (t3 := 3) Try.underlying145 (by kernel_rfl) rfl o_3 o_3 o_4 o_3
theorem o_147 : Opens Try.prog 147 (TGuest) := opens_Guest (t0 := 142) (t1 := 3) (t2 := 3) (t3 := 143) (t4 := 143) (t5 := 144) (t6 := 3) (t7 := 145) (t8 := 4) (t9 := 24) Try.underlying147 (by kernel_rfl) rfl o_142 o_3 o_3 o_143 o_143 o_144 o_3 o_145 o_4 o_24
theorem o_68 : Opens Try.prog 68 (List TGuest) := opens_slice Try.underlying68 (by kernel_rfl) o_147
theorem o_70 : Opens Try.prog 70 (TBare) := opens_Bare (t0 := 31) (t1 := 68) (t2 := 24) (t3 := 3) Try.underlying70 (by kernel_rfl) rfl o_31 o_68 o_24 o_3
set_option maxRecDepth 100000 in
theorem lifted_FnExactBareAck (os : Os) (started : os.Started) (H : Type) (enc : TypeId × Value → H) :
    ReturnsInHanded {} Try.checked os 6 .any (Go.Proofs.Ytpjhamcanhnfjaa.Rows.fnExactBareAckSpec.pre6 enc Try.prog Try.f6 Go.Proofs.Ytpjhamcanhnfjaa.Rows.fnExactBareAckRow.domain false) (Go.Proofs.Ytpjhamcanhnfjaa.Rows.fnExactBareAckSpec.post enc Try.prog Try.f6 false true false false) := by
  refine Go.returnsInHanded_of_change (C := Try.checked) (by kernel_rfl) started (by kernel_rfl) Try.func6
    (ChangeSpec.witness6 (enc := enc) (C := Try.checked) false ⟨#[], #[.agg #[.slice none 0 0, .slice none 0 0, .slice none 0 0, .int .i64 0]], []⟩ 8 (by kernel_rfl) (by kernel_rfl) (by kernel_rfl) (by kernel_rfl)) ?_
  intro W base args ds gs before hval0 hW hcnd _
  have hval : ∀ (j : Nat) t v, Try.f6.params[j]? = some t → args[j]? = some v → Value.okWide Try.prog W .any base t v := hval0
  have hW' := hW
  obtain ⟨p, q, hA0, hV, rfl, hfz, hnd⟩ := hW
  have hA : DataW.TrodAll enc Try.prog W 0 (fun _ => true) true Try.f6.params.toList args.toList ds p := hA0
  rw [Try.params6] at hA hval
  obtain ⟨v0, vs0, d0, ds0, p0, q0, hargs, rfl, rfl, h0, r0⟩ := Go.ChangeShapes.trodAll_cons hA
  obtain ⟨rfl, rfl, rfl⟩ := Go.ChangeShapes.trodAll_nil r0
  obtain rfl : args = #[v0] := by cases args; simp_all
  obtain ⟨rfl, rfl⟩ := Go.ChangeShapes.trodVars_none hV
  have hlt := hW'.lt
  have k0 := h0
  obtain ⟨a0, pp0, rfl, b0⟩ := arg_agg o_70 Try.underlying70 rfl (hval 0 70 v0 rfl rfl) h0
  clear hA0 hval0
  simp only [List.append_nil] at hW' hlt
  refine Calls.mono (c_laws_FnExactBareAck W a0 pp0 b0) fun e W' ⟨he, hg⟩ => ?_
  subst he
  have hb := hg.below
  exact ⟨_, rfl, post_law (pa := p0 ++ []) (pv := []) hW' (fun _ _ _ => (trodAll_cons_mk (shut_bool Try.underlying4 _) Go.ChangeShapes.trodAll_mk0)) (fun sp hsp => (trodAll_cons_mk (WideElems.Trod_stays (by kernel_rfl) (by kernel_rfl) (of_decide_eq_true (by kernel_rfl)) k0 (fun x hx => hb.same (hlt x (by simp [hx]))) (fun x hx => hsp x (by simp [hx]))) Go.ChangeShapes.trodAll_mk0)) (fun _ _ => rfl) (by simp)
    hb (RowKit.ok_one (by kernel_rfl) rfl (okWide_bool_mk Try.underlying4 _))⟩

theorem fnExactBareAck_holds : Go.Proofs.Ytpjhamcanhnfjaa.Rows.FnExactBareAckSaid :=
  OpenClaim.holds_of_wide 6 Try.f6 rfl rfl rfl rfl rfl rfl rfl ⟨rfl, rfl, rfl, rfl, rfl⟩ rfl rfl rfl rfl rfl (by kernel_rfl) Try.func6 (by kernel_rfl)
    (of_decide_eq_true (by kernel_rfl)) (by unfold Func.isWrapper; first | (rw [if_pos (by decide +kernel)]; kernel_rfl) | (rw [if_neg (by decide +kernel)]; exact ⟨rfl, rfl⟩))
    (fun os started H enc _ => lifted_FnExactBareAck os started H enc)

end Go.Proofs.Ytpjhamcanhnfjaa
