/- These theorems prove that each of the laws FnExactCold returns true at every input and leaves its arguments as they were. Conditions: none beyond those of the given statements. -/
import Derived.Test.YtacgkoohinlhjaaW5
import Derived.Test.YtacgkoohinlhjaaOpen
import Derived.Test.YtacgkoohinlhjaaRows
import Derived.WalkKit
import Derived.ProofKit
import Derived.OpenShut
import Derived.KernelRfl
namespace Go.Proofs.Ytacgkoohinlhjaa
open Go Go.ChangeShapes Go.WideShapes Go.ChangeAt Go.RowKit
set_option linter.unusedVariables false
set_option linter.unusedSimpArgs false

theorem o_3 : Opens Try.prog 3 (Int) := opens_int Try.underlying3 (by kernel_rfl)
theorem o_30 : Opens Try.prog 30 (List Int) := opens_slice Try.underlying30 (by kernel_rfl) o_3
theorem o_22 : Opens Try.prog 22 (List (List Int)) := opens_slice Try.underlying22 (by kernel_rfl) o_30
theorem o_122 : Opens Try.prog 122 (TSlot) := opens_Slot (t0 := 3) (t1 := 3) Try.underlying122 (by kernel_rfl) rfl o_3 o_3
theorem o_27 : Opens Try.prog 27 (List TSlot) := opens_slice Try.underlying27 (by kernel_rfl) o_122
theorem o_4 : Opens Try.prog 4 (Bool) := opens_bool Try.underlying4 (by kernel_rfl)
theorem o_28 : Opens Try.prog 28 (List Bool) := opens_slice Try.underlying28 (by kernel_rfl) o_4
theorem o_152 : Opens Try.prog 152 (TIns) := opens_Ins (t0 := 3) (t1 := 3) Try.underlying152 (by kernel_rfl) rfl o_3 o_3
theorem o_104 : Opens Try.prog 104 (List TIns) := opens_slice Try.underlying104 (by kernel_rfl) o_152
theorem o_106 : Opens Try.prog 106 (TCtl) := opens_Ctl (t0 := 3) (t1 := 3) (t2 := 4) Try.underlying106 (by kernel_rfl) rfl o_3 o_3 o_4
theorem o_108 : Opens Try.prog 108 (TExit) := opens_Exit (t0 := 3) (t1 := 3) (t2 := 4) (t3 := 3) Try.underlying108 (by kernel_rfl) rfl o_3 o_3 o_4 o_3
theorem o_110 : Opens Try.prog 110 (TGuest) := opens_Guest (t0 := 104) (t1 := 3) (t2 := 3) (t3 := 27) (t4 := 27) (t5 := 106) (t6 := 3) (t7 := 108) (t8 := 4) (t9 := 30) Try.underlying110 (by kernel_rfl) rfl o_104 o_3 o_3 o_27 o_27 o_106 o_3 o_108 o_4 o_30
theorem o_29 : Opens Try.prog 29 (List TGuest) := opens_slice Try.underlying29 (by kernel_rfl) o_110
theorem o_113 : Opens Try.prog 113 (TKept) := opens_Kept (t0 := 28) (t1 := 27) Try.underlying113 (by kernel_rfl) rfl o_28 o_27
theorem o_31 : Opens Try.prog 31 (List TKept) := opens_slice Try.underlying31 (by kernel_rfl) o_113
theorem o_33 : Opens Try.prog 33 (TMon) := opens_Mon (t0 := 27) (t1 := 22) (t2 := 28) (t3 := 29) (t4 := 30) (t5 := 3) (t6 := 3) (t7 := 31) (t8 := 3) Try.underlying33 (by kernel_rfl) rfl o_27 o_22 o_28 o_29 o_30 o_3 o_3 o_31 o_3
theorem o_23 : Opens Try.prog 23 (List TMon) := opens_slice Try.underlying23 (by kernel_rfl) o_33
theorem o_118 : Opens Try.prog 118 (TEntry) := opens_Entry (t0 := 3) (t1 := 3) (t2 := 3) (t3 := 3) Try.underlying118 (by kernel_rfl) rfl o_3 o_3 o_3 o_3
theorem o_24 : Opens Try.prog 24 (List TEntry) := opens_slice Try.underlying24 (by kernel_rfl) o_118
theorem o_26 : Opens Try.prog 26 (THost) := opens_Host (t0 := 22) (t1 := 23) (t2 := 24) (t3 := 24) Try.underlying26 (by kernel_rfl) rfl o_22 o_23 o_24 o_24
set_option maxRecDepth 100000 in
theorem lifted_FnExactCold (os : Os) (started : os.Started) (H : Type) (enc : TypeId × Value → H) :
    ReturnsInHanded {} Try.checked os 6 .any (Go.Proofs.Ytacgkoohinlhjaa.Rows.fnExactColdSpec.pre6 enc Try.prog Try.f6 Go.Proofs.Ytacgkoohinlhjaa.Rows.fnExactColdRow.domain false) (Go.Proofs.Ytacgkoohinlhjaa.Rows.fnExactColdSpec.post enc Try.prog Try.f6 false true false false) := by
  refine Go.returnsInHanded_of_change (C := Try.checked) (by kernel_rfl) started (by kernel_rfl) Try.func6
    (ChangeSpec.witness6 (enc := enc) (C := Try.checked) false ⟨#[], #[.agg #[.slice none 0 0, .slice none 0 0, .slice none 0 0, .slice none 0 0]], []⟩ 8 (by kernel_rfl) (by kernel_rfl) (by kernel_rfl) (by kernel_rfl)) ?_
  intro W base args ds gs before hval0 hW hcnd _
  have hval : ∀ (j : Nat) t v, Try.f6.params[j]? = some t → args[j]? = some v → Value.okWide Try.prog W .any base t v := hval0
  have hW' := hW
  obtain ⟨p, q, hA0, hV, rfl, hfz, hnd⟩ := hW
  have hA : DataW.TrodAll enc Try.prog W 0 (fun _ => true) true Try.f6.params.toList args.toList ds p := hA0
  rw [Try.params6] at hA hval
  obtain ⟨v0, vs0, d0, ds0, p0, q0, hargs, rfl, rfl, h0, r0⟩ := Go.ChangeShapes.trodAll_cons hA
  obtain ⟨rfl, rfl, rfl⟩ := Go.ChangeShapes.trodAll_nil r0
  obtain rfl : args = #[v0] := by cases args; simp_all
  obtain ⟨rfl, rfl⟩ := Go.ChangeShapes.trodVars_none hV
  have hlt := hW'.lt
  have k0 := h0
  obtain ⟨a0, pp0, rfl, b0⟩ := arg_agg o_26 Try.underlying26 rfl (hval 0 26 v0 rfl rfl) h0
  clear hA0 hval0
  simp only [List.append_nil] at hW' hlt
  refine Calls.mono (c_laws_FnExactCold W a0 pp0 b0) fun e W' ⟨he, hg⟩ => ?_
  subst he
  have hb := hg.below
  exact ⟨_, rfl, post_law (pa := p0 ++ []) (pv := []) hW' (fun _ _ _ => (trodAll_cons_mk (shut_bool Try.underlying4 _) Go.ChangeShapes.trodAll_mk0)) (fun sp hsp => (trodAll_cons_mk (WideElems.Trod_stays (by kernel_rfl) (by kernel_rfl) (of_decide_eq_true (by kernel_rfl)) k0 (fun x hx => hb.same (hlt x (by simp [hx]))) (fun x hx => hsp x (by simp [hx]))) Go.ChangeShapes.trodAll_mk0)) (fun _ _ => rfl) (by simp)
    hb (RowKit.ok_one (by kernel_rfl) rfl (okWide_bool_mk Try.underlying4 _))⟩

theorem fnExactCold_holds : Go.Proofs.Ytacgkoohinlhjaa.Rows.FnExactColdSaid :=
  OpenClaim.holds_of_wide 6 Try.f6 rfl rfl rfl rfl rfl rfl rfl ⟨rfl, rfl, rfl, rfl, rfl⟩ rfl rfl rfl rfl rfl (by kernel_rfl) Try.func6 (by kernel_rfl)
    (of_decide_eq_true (by kernel_rfl)) (by unfold Func.isWrapper; first | (rw [if_pos (by decide +kernel)]; kernel_rfl) | (rw [if_neg (by decide +kernel)]; exact ⟨rfl, rfl⟩))
    (fun os started H enc _ => lifted_FnExactCold os started H enc)

end Go.Proofs.Ytacgkoohinlhjaa
