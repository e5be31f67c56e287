/- These theorems prove that each of the laws FnExactSameHost returns true at every input and leaves its arguments as they were. Conditions: none beyond those of the given statements. -/
import Derived.Test.YtcoabfmpdnlfdaaW3
import Derived.Test.YtcoabfmpdnlfdaaOpen
import Derived.Test.YtcoabfmpdnlfdaaRows
import Derived.WalkKit
import Derived.ProofKit
import Derived.OpenShut
import Derived.KernelRfl
namespace Go.Proofs.Ytcoabfmpdnlfdaa
open Go Go.ChangeShapes Go.WideShapes Go.ChangeAt Go.RowKit
set_option linter.unusedVariables false
set_option linter.unusedSimpArgs false

theorem o_3 : Opens Go.Proofs.Try.prog 3 (Int) := opens_int Go.Proofs.Try.underlying3 (by kernel_rfl)
theorem o_37 : Opens Go.Proofs.Try.prog 37 (List Int) := opens_slice Go.Proofs.Try.underlying37 (by kernel_rfl) o_3
theorem o_22 : Opens Go.Proofs.Try.prog 22 (List (List Int)) := opens_slice Go.Proofs.Try.underlying22 (by kernel_rfl) o_37
theorem o_179 : Opens Go.Proofs.Try.prog 179 (TSlot) := opens_Slot (t0 := 3) (t1 := 3) Go.Proofs.Try.underlying179 (by kernel_rfl) rfl o_3 o_3
theorem o_121 : Opens Go.Proofs.Try.prog 121 (List TSlot) := opens_slice Go.Proofs.Try.underlying121 (by kernel_rfl) o_179
theorem o_4 : Opens Go.Proofs.Try.prog 4 (Bool) := opens_bool Go.Proofs.Try.underlying4 (by kernel_rfl)
theorem o_46 : Opens Go.Proofs.Try.prog 46 (List Bool) := opens_slice Go.Proofs.Try.underlying46 (by kernel_rfl) o_4
theorem o_145 : Opens Go.Proofs.Try.prog 145 (TIns) := opens_Ins (t0 := 3) (t1 := 3) Go.Proofs.Try.underlying145 (by kernel_rfl) rfl o_3 o_3
theorem o_94 : Opens Go.Proofs.Try.prog 94 (List TIns) := opens_slice Go.Proofs.Try.underlying94 (by kernel_rfl) o_145
theorem o_171 : Opens Go.Proofs.Try.prog 171 (TCtl) := opens_Ctl (t0 := 3) (t1 := 3) (t2 := 4) Go.Proofs.Try.underlying171 (by kernel_rfl) rfl o_3 o_3 o_4
theorem o_172 : Opens Go.Proofs.Try.prog 172 (TExit) := opens_Exit (t0 := 3) (t1 := 3) (t2 := 4) (t3 := 3) Go.Proofs.Try.underlying172 (by kernel_rfl) rfl o_3 o_3 o_4 o_3
theorem o_174 : Opens Go.Proofs.Try.prog 174 (TGuest) := opens_Guest (t0 := 94) (t1 := 3) (t2 := 3) (t3 := 121) (t4 := 121) (t5 := 171) (t6 := 3) (t7 := 172) (t8 := 4) (t9 := 37) Go.Proofs.Try.underlying174 (by kernel_rfl) rfl o_94 o_3 o_3 o_121 o_121 o_171 o_3 o_172 o_4 o_37
theorem o_122 : Opens Go.Proofs.Try.prog 122 (List TGuest) := opens_slice Go.Proofs.Try.underlying122 (by kernel_rfl) o_174
theorem o_177 : Opens Go.Proofs.Try.prog 177 (TKept) := opens_Kept (t0 := 46) (t1 := 121) Go.Proofs.Try.underlying177 (by kernel_rfl) rfl o_46 o_121
theorem o_123 : Opens Go.Proofs.Try.prog 123 (List TKept) := opens_slice Go.Proofs.Try.underlying123 (by kernel_rfl) o_177
theorem o_125 : Opens Go.Proofs.Try.prog 125 (TMon) := opens_Mon (t0 := 121) (t1 := 22) (t2 := 46) (t3 := 122) (t4 := 37) (t5 := 3) (t6 := 3) (t7 := 123) (t8 := 3) Go.Proofs.Try.underlying125 (by kernel_rfl) rfl o_121 o_22 o_46 o_122 o_37 o_3 o_3 o_123 o_3
theorem o_23 : Opens Go.Proofs.Try.prog 23 (List TMon) := opens_slice Go.Proofs.Try.underlying23 (by kernel_rfl) o_125
theorem o_130 : Opens Go.Proofs.Try.prog 130 (TEntry) := opens_Entry (t0 := 3) (t1 := 3) (t2 := 3) (t3 := 3) Go.Proofs.Try.underlying130 (by kernel_rfl) rfl o_3 o_3 o_3 o_3
theorem o_24 : Opens Go.Proofs.Try.prog 24 (List TEntry) := opens_slice Go.Proofs.Try.underlying24 (by kernel_rfl) o_130
theorem o_26 : Opens Go.Proofs.Try.prog 26 (THost) := opens_Host (t0 := 22) (t1 := 23) (t2 := 24) (t3 := 24) Go.Proofs.Try.underlying26 (by kernel_rfl) rfl o_22 o_23 o_24 o_24
set_option maxRecDepth 100000 in
theorem lifted_FnExactSameHost (os : Os) (started : os.Started) (H : Type) (enc : TypeId × Value → H) :
    ReturnsInHanded {} Go.Proofs.Try.checked os 3 .any (Go.Proofs.Ytcoabfmpdnlfdaa.Rows.fnExactSameHostSpec.pre6 enc Go.Proofs.Try.prog Go.Proofs.Try.f3 Go.Proofs.Ytcoabfmpdnlfdaa.Rows.fnExactSameHostRow.domain false) (Go.Proofs.Ytcoabfmpdnlfdaa.Rows.fnExactSameHostSpec.post enc Go.Proofs.Try.prog Go.Proofs.Try.f3 false true false false) := by
  refine Go.returnsInHanded_of_change (C := Go.Proofs.Try.checked) (by kernel_rfl) started (by kernel_rfl) Go.Proofs.Try.func3
    (ChangeSpec.witness6 (enc := enc) (C := Go.Proofs.Try.checked) false ⟨#[], #[.agg #[.slice none 0 0, .slice none 0 0, .slice none 0 0, .slice none 0 0], .agg #[.slice none 0 0, .slice none 0 0, .slice none 0 0, .slice none 0 0]], []⟩ 8 (by kernel_rfl) (by kernel_rfl) (by kernel_rfl) (by kernel_rfl)) ?_
  intro W base args ds gs before hval0 hW hcnd _
  have hval : ∀ (j : Nat) t v, Go.Proofs.Try.f3.params[j]? = some t → args[j]? = some v → Value.okWide Go.Proofs.Try.prog W .any base t v := hval0
  have hW' := hW
  obtain ⟨p, q, hA0, hV, rfl, hfz, hnd⟩ := hW
  have hA : DataW.TrodAll enc Go.Proofs.Try.prog W 0 (fun _ => true) true Go.Proofs.Try.f3.params.toList args.toList ds p := hA0
  rw [Go.Proofs.Try.params3] at hA hval
  obtain ⟨v0, vs0, d0, ds0, p0, q0, hargs, rfl, rfl, h0, r0⟩ := Go.ChangeShapes.trodAll_cons hA
  obtain ⟨v1, vs1, d1, ds1, p1, q1, rfl, rfl, rfl, h1, r1⟩ := Go.ChangeShapes.trodAll_cons r0
  obtain ⟨rfl, rfl, rfl⟩ := Go.ChangeShapes.trodAll_nil r1
  obtain rfl : args = #[v0, v1] := by cases args; simp_all
  obtain ⟨rfl, rfl⟩ := Go.ChangeShapes.trodVars_none hV
  have hlt := hW'.lt
  have k0 := h0
  obtain ⟨a0, pp0, rfl, b0⟩ := arg_agg o_26 Go.Proofs.Try.underlying26 rfl (hval 0 26 v0 rfl rfl) h0
  have k1 := h1
  obtain ⟨a1, pp1, rfl, b1⟩ := arg_agg o_26 Go.Proofs.Try.underlying26 rfl (hval 1 26 v1 rfl rfl) h1
  clear hA0 hval0
  simp only [List.append_nil] at hW' hlt
  refine Calls.mono (c_laws_FnExactSameHost W a0 pp0 b0 a1 pp1 b1) fun e W' ⟨he, hg⟩ => ?_
  subst he
  have hb := hg.below
  exact ⟨_, rfl, post_law (pa := p0 ++ (p1 ++ [])) (pv := []) hW' (fun _ _ _ => (trodAll_cons_mk (shut_bool Go.Proofs.Try.underlying4 _) Go.ChangeShapes.trodAll_mk0)) (fun sp hsp => (trodAll_cons_mk (WideElems.Trod_stays (by kernel_rfl) (by kernel_rfl) (of_decide_eq_true (by kernel_rfl)) k0 (fun x hx => hb.same (hlt x (by simp [hx]))) (fun x hx => hsp x (by simp [hx]))) (trodAll_cons_mk (WideElems.Trod_stays (by kernel_rfl) (by kernel_rfl) (of_decide_eq_true (by kernel_rfl)) k1 (fun x hx => hb.same (hlt x (by simp [hx]))) (fun x hx => hsp x (by simp [hx]))) Go.ChangeShapes.trodAll_mk0))) (fun _ _ => rfl) (by simp)
    hb (RowKit.ok_one (by kernel_rfl) rfl (okWide_bool_mk Go.Proofs.Try.underlying4 _))⟩

theorem fnExactSameHost_holds : Go.Proofs.Ytcoabfmpdnlfdaa.Rows.FnExactSameHostSaid :=
  OpenClaim.holds_of_wide 3 Go.Proofs.Try.f3 rfl rfl rfl rfl rfl rfl rfl ⟨rfl, rfl, rfl, rfl, rfl⟩ rfl rfl rfl rfl rfl (by kernel_rfl) Go.Proofs.Try.func3 (by kernel_rfl)
    (of_decide_eq_true (by kernel_rfl)) (by unfold Func.isWrapper; first | (rw [if_pos (by decide +kernel)]; kernel_rfl) | (rw [if_neg (by decide +kernel)]; exact ⟨rfl, rfl⟩))
    (fun os started H enc _ => lifted_FnExactSameHost os started H enc)

end Go.Proofs.Ytcoabfmpdnlfdaa
