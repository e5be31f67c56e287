/- These theorems prove that each of the laws FnExactIsSeenAs returns true at every input and leaves its arguments as they were. Conditions: none beyond those of the given statements. -/
import Derived.Test.YtpjhamcanhnfjaaGreatW4
import Derived.Test.YtpjhamcanhnfjaaGreatOpen
import Derived.Test.YtpjhamcanhnfjaaGreatRows
import Derived.WalkKit
import Derived.ProofKit
import Derived.OpenShut
import Derived.KernelRfl
namespace Go.Proofs.YtpjhamcanhnfjaaGreat
open Go Go.ChangeShapes Go.WideShapes Go.ChangeAt Go.RowKit
set_option linter.unusedVariables false
set_option linter.unusedSimpArgs false

theorem o_3 : Opens Go.Proofs.Tryz.prog 3 (Int) := opens_int Go.Proofs.Tryz.underlying3 (by kernel_rfl)
theorem o_54 : Opens Go.Proofs.Tryz.prog 54 (List Int) := opens_slice Go.Proofs.Tryz.underlying54 (by kernel_rfl) o_3
theorem o_22 : Opens Go.Proofs.Tryz.prog 22 (List (List Int)) := opens_slice Go.Proofs.Tryz.underlying22 (by kernel_rfl) o_54
theorem o_127 : Opens Go.Proofs.Tryz.prog 127 (TSlot) := opens_Slot (t0 := 3) (t1 := 3) Go.Proofs.Tryz.underlying127 (by kernel_rfl) rfl o_3 o_3
theorem o_66 : Opens Go.Proofs.Tryz.prog 66 (List TSlot) := opens_slice Go.Proofs.Tryz.underlying66 (by kernel_rfl) o_127
theorem o_4 : Opens Go.Proofs.Tryz.prog 4 (Bool) := opens_bool Go.Proofs.Tryz.underlying4 (by kernel_rfl)
theorem o_67 : Opens Go.Proofs.Tryz.prog 67 (List Bool) := opens_slice Go.Proofs.Tryz.underlying67 (by kernel_rfl) o_4
theorem o_148 : Opens Go.Proofs.Tryz.prog 148 (TIns) := opens_Ins (t0 := 3) (t1 := 3) Go.Proofs.Tryz.underlying148 (by kernel_rfl) rfl o_3 o_3
theorem o_109 : Opens Go.Proofs.Tryz.prog 109 (List TIns) := opens_slice Go.Proofs.Tryz.underlying109 (by kernel_rfl) o_148
theorem o_110 : Opens Go.Proofs.Tryz.prog 110 (TCtl) := opens_Ctl (t0 := 3) (t1 := 3) (t2 := 4) Go.Proofs.Tryz.underlying110 (by kernel_rfl) rfl o_3 o_3 o_4
theorem o_111 : Opens Go.Proofs.Tryz.prog 111 (TExit) := opens_Exit (t0 := 3) (t1 := 3) (t2 := 4) (t3 := 3) Go.Proofs.Tryz.underlying111 (by kernel_rfl) rfl o_3 o_3 o_4 o_3
theorem o_113 : Opens Go.Proofs.Tryz.prog 113 (TGuest) := opens_Guest (t0 := 109) (t1 := 3) (t2 := 3) (t3 := 66) (t4 := 66) (t5 := 110) (t6 := 3) (t7 := 111) (t8 := 4) (t9 := 54) Go.Proofs.Tryz.underlying113 (by kernel_rfl) rfl o_109 o_3 o_3 o_66 o_66 o_110 o_3 o_111 o_4 o_54
theorem o_53 : Opens Go.Proofs.Tryz.prog 53 (List TGuest) := opens_slice Go.Proofs.Tryz.underlying53 (by kernel_rfl) o_113
theorem o_125 : Opens Go.Proofs.Tryz.prog 125 (TKept) := opens_Kept (t0 := 67) (t1 := 66) Go.Proofs.Tryz.underlying125 (by kernel_rfl) rfl o_67 o_66
theorem o_68 : Opens Go.Proofs.Tryz.prog 68 (List TKept) := opens_slice Go.Proofs.Tryz.underlying68 (by kernel_rfl) o_125
theorem o_70 : Opens Go.Proofs.Tryz.prog 70 (TMon) := opens_Mon (t0 := 66) (t1 := 22) (t2 := 67) (t3 := 53) (t4 := 54) (t5 := 3) (t6 := 3) (t7 := 68) (t8 := 3) Go.Proofs.Tryz.underlying70 (by kernel_rfl) rfl o_66 o_22 o_67 o_53 o_54 o_3 o_3 o_68 o_3
theorem o_23 : Opens Go.Proofs.Tryz.prog 23 (List TMon) := opens_slice Go.Proofs.Tryz.underlying23 (by kernel_rfl) o_70
theorem o_80 : Opens Go.Proofs.Tryz.prog 80 (TEntry) := opens_Entry (t0 := 3) (t1 := 3) (t2 := 3) (t3 := 3) Go.Proofs.Tryz.underlying80 (by kernel_rfl) rfl o_3 o_3 o_3 o_3
theorem o_24 : Opens Go.Proofs.Tryz.prog 24 (List TEntry) := opens_slice Go.Proofs.Tryz.underlying24 (by kernel_rfl) o_80
theorem o_26 : Opens Go.Proofs.Tryz.prog 26 (THost) := opens_Host (t0 := 22) (t1 := 23) (t2 := 24) (t3 := 24) Go.Proofs.Tryz.underlying26 (by kernel_rfl) rfl o_22 o_23 o_24 o_24
theorem o_56 : Opens Go.Proofs.Tryz.prog 56 (TBare) := opens_Bare (t0 := 22) (t1 := 53) (t2 := 54) (t3 := 3) Go.Proofs.Tryz.underlying56 (by kernel_rfl) rfl o_22 o_53 o_54 o_3
theorem o_35 : Opens Go.Proofs.Tryz.prog 35 (List TBare) := opens_slice Go.Proofs.Tryz.underlying35 (by kernel_rfl) o_56
set_option maxRecDepth 100000 in
theorem lifted_FnExactIsSeenAs (os : Os) (started : os.Started) (H : Type) (enc : TypeId × Value → H) :
    ReturnsInHanded {} Go.Proofs.Tryz.checked os 4 .any (Go.Proofs.YtpjhamcanhnfjaaGreat.Rows.fnExactIsSeenAsSpec.pre6 enc Go.Proofs.Tryz.prog Go.Proofs.Tryz.f4 Go.Proofs.YtpjhamcanhnfjaaGreat.Rows.fnExactIsSeenAsRow.domain false) (Go.Proofs.YtpjhamcanhnfjaaGreat.Rows.fnExactIsSeenAsSpec.post enc Go.Proofs.Tryz.prog Go.Proofs.Tryz.f4 false true false false) := by
  refine Go.returnsInHanded_of_change (C := Go.Proofs.Tryz.checked) (by kernel_rfl) started (by kernel_rfl) Go.Proofs.Tryz.func4
    (ChangeSpec.witness6 (enc := enc) (C := Go.Proofs.Tryz.checked) false ⟨#[], #[.agg #[.slice none 0 0, .slice none 0 0, .slice none 0 0, .slice none 0 0], .slice none 0 0], []⟩ 8 (by kernel_rfl) (by kernel_rfl) (by kernel_rfl) (by kernel_rfl)) ?_
  intro W base args ds gs before hval0 hW hcnd _
  have hval : ∀ (j : Nat) t v, Go.Proofs.Tryz.f4.params[j]? = some t → args[j]? = some v → Value.okWide Go.Proofs.Tryz.prog W .any base t v := hval0
  have hW' := hW
  obtain ⟨p, q, hA0, hV, rfl, hfz, hnd⟩ := hW
  have hA : DataW.TrodAll enc Go.Proofs.Tryz.prog W 0 (fun _ => true) true Go.Proofs.Tryz.f4.params.toList args.toList ds p := hA0
  rw [Go.Proofs.Tryz.params4] at hA hval
  obtain ⟨v0, vs0, d0, ds0, p0, q0, hargs, rfl, rfl, h0, r0⟩ := Go.ChangeShapes.trodAll_cons hA
  obtain ⟨v1, vs1, d1, ds1, p1, q1, rfl, rfl, rfl, h1, r1⟩ := Go.ChangeShapes.trodAll_cons r0
  obtain ⟨rfl, rfl, rfl⟩ := Go.ChangeShapes.trodAll_nil r1
  obtain rfl : args = #[v0, v1] := by cases args; simp_all
  obtain ⟨rfl, rfl⟩ := Go.ChangeShapes.trodVars_none hV
  have hlt := hW'.lt
  have k0 := h0
  obtain ⟨a0, pp0, rfl, b0⟩ := arg_agg o_26 Go.Proofs.Tryz.underlying26 rfl (hval 0 26 v0 rfl rfl) h0
  have k1 := h1
  obtain ⟨a1, pp1, rfl, b1⟩ := arg_list o_35 Go.Proofs.Tryz.underlying35 (hval 1 35 v1 rfl rfl) h1
  clear hA0 hval0
  simp only [List.append_nil] at hW' hlt
  refine Calls.mono (c_laws_FnExactIsSeenAs W a0 pp0 b0 a1 pp1 b1) fun e W' ⟨he, hg⟩ => ?_
  subst he
  have hb := hg.below
  exact ⟨_, rfl, post_law (pa := p0 ++ (p1 ++ [])) (pv := []) hW' (fun _ _ _ => (trodAll_cons_mk (shut_bool Go.Proofs.Tryz.underlying4 _) Go.ChangeShapes.trodAll_mk0)) (fun sp hsp => (trodAll_cons_mk (WideElems.Trod_stays (by kernel_rfl) (by kernel_rfl) (of_decide_eq_true (by kernel_rfl)) k0 (fun x hx => hb.same (hlt x (by simp [hx]))) (fun x hx => hsp x (by simp [hx]))) (trodAll_cons_mk (WideElems.Trod_stays (by kernel_rfl) (by kernel_rfl) (of_decide_eq_true (by kernel_rfl)) k1 (fun x hx => hb.same (hlt x (by simp [hx]))) (fun x hx => hsp x (by simp [hx]))) Go.ChangeShapes.trodAll_mk0))) (fun _ _ => rfl) (by simp)
    hb (RowKit.ok_one (by kernel_rfl) rfl (okWide_bool_mk Go.Proofs.Tryz.underlying4 _))⟩

theorem fnExactIsSeenAs_holds : Go.Proofs.YtpjhamcanhnfjaaGreat.Rows.FnExactIsSeenAsSaid :=
  OpenClaim.holds_of_wide 4 Go.Proofs.Tryz.f4 rfl rfl rfl rfl rfl rfl rfl ⟨rfl, rfl, rfl, rfl, rfl⟩ rfl rfl rfl rfl rfl (by kernel_rfl) Go.Proofs.Tryz.func4 (by kernel_rfl)
    (of_decide_eq_true (by kernel_rfl)) (by unfold Func.isWrapper; first | (rw [if_pos (by decide +kernel)]; kernel_rfl) | (rw [if_neg (by decide +kernel)]; exact ⟨rfl, rfl⟩))
    (fun os started H enc _ => lifted_FnExactIsSeenAs os started H enc)

end Go.Proofs.YtpjhamcanhnfjaaGreat
