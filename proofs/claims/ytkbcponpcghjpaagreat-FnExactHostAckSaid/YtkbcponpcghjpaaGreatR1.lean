/- These theorems prove that each of the laws FnExactHostAck returns true at every input and leaves its arguments as they were. Conditions: none beyond those of the given statements. -/
import Derived.Test.YtkbcponpcghjpaaGreatW4
import Derived.Test.YtkbcponpcghjpaaGreatOpen
import Derived.Test.YtkbcponpcghjpaaGreatRows
import Derived.WalkKit
import Derived.ProofKit
import Derived.OpenShut
import Derived.KernelRfl
namespace Go.Proofs.YtkbcponpcghjpaaGreat
open Go Go.ChangeShapes Go.WideShapes Go.ChangeAt Go.RowKit
set_option linter.unusedVariables false
set_option linter.unusedSimpArgs false

theorem o_3 : Opens Tryz.prog 3 (Int) := opens_int Tryz.underlying3 (by kernel_rfl)
theorem o_55 : Opens Tryz.prog 55 (List Int) := opens_slice Tryz.underlying55 (by kernel_rfl) o_3
theorem o_22 : Opens Tryz.prog 22 (List (List Int)) := opens_slice Tryz.underlying22 (by kernel_rfl) o_55
theorem o_28 : Opens Tryz.prog 28 (TSlot) := opens_Slot (t0 := 3) (t1 := 3) Tryz.underlying28 (by kernel_rfl) rfl o_3 o_3
theorem o_83 : Opens Tryz.prog 83 (List TSlot) := opens_slice Tryz.underlying83 (by kernel_rfl) o_28
theorem o_4 : Opens Tryz.prog 4 (Bool) := opens_bool Tryz.underlying4 (by kernel_rfl)
theorem o_62 : Opens Tryz.prog 62 (List Bool) := opens_slice Tryz.underlying62 (by kernel_rfl) o_4
theorem o_200 : Opens Tryz.prog 200 (TIns) := opens_Ins (t0 := 3) (t1 := 3) Tryz.underlying200 (by kernel_rfl) rfl o_3 o_3
theorem o_162 : Opens Tryz.prog 162 (List TIns) := opens_slice Tryz.underlying162 (by kernel_rfl) o_200
theorem o_163 : Opens Tryz.prog 163 (TCtl) := opens_Ctl (t0 := 3) (t1 := 3) (t2 := 4) Tryz.underlying163 (by kernel_rfl) rfl o_3 o_3 o_4
theorem o_164 : Opens Tryz.prog 164 (TExit) := opens_Exit (t0 := 3) (t1 := 3) (t2 := 4) (t3 := 3) Tryz.underlying164 (by kernel_rfl) rfl o_3 o_3 o_4 o_3
theorem o_166 : Opens Tryz.prog 166 (TGuest) := opens_Guest (t0 := 162) (t1 := 3) (t2 := 3) (t3 := 83) (t4 := 83) (t5 := 163) (t6 := 3) (t7 := 164) (t8 := 4) (t9 := 55) Tryz.underlying166 (by kernel_rfl) rfl o_162 o_3 o_3 o_83 o_83 o_163 o_3 o_164 o_4 o_55
theorem o_84 : Opens Tryz.prog 84 (List TGuest) := opens_slice Tryz.underlying84 (by kernel_rfl) o_166
theorem o_169 : Opens Tryz.prog 169 (TKept) := opens_Kept (t0 := 62) (t1 := 83) Tryz.underlying169 (by kernel_rfl) rfl o_62 o_83
theorem o_85 : Opens Tryz.prog 85 (List TKept) := opens_slice Tryz.underlying85 (by kernel_rfl) o_169
theorem o_87 : Opens Tryz.prog 87 (TMon) := opens_Mon (t0 := 83) (t1 := 22) (t2 := 62) (t3 := 84) (t4 := 55) (t5 := 3) (t6 := 3) (t7 := 85) (t8 := 3) Tryz.underlying87 (by kernel_rfl) rfl o_83 o_22 o_62 o_84 o_55 o_3 o_3 o_85 o_3
theorem o_23 : Opens Tryz.prog 23 (List TMon) := opens_slice Tryz.underlying23 (by kernel_rfl) o_87
theorem o_109 : Opens Tryz.prog 109 (TEntry) := opens_Entry (t0 := 3) (t1 := 3) (t2 := 3) (t3 := 3) Tryz.underlying109 (by kernel_rfl) rfl o_3 o_3 o_3 o_3
theorem o_24 : Opens Tryz.prog 24 (List TEntry) := opens_slice Tryz.underlying24 (by kernel_rfl) o_109
theorem o_26 : Opens Tryz.prog 26 (THost) := opens_Host (t0 := 22) (t1 := 23) (t2 := 24) (t3 := 24) Tryz.underlying26 (by kernel_rfl) rfl o_22 o_23 o_24 o_24
set_option maxRecDepth 100000 in
theorem lifted_FnExactHostAck (os : Os) (started : os.Started) (H : Type) (enc : TypeId × Value → H) :
    ReturnsInHanded {} Tryz.checked os 8 .any (Go.Proofs.YtkbcponpcghjpaaGreat.Rows.fnExactHostAckSpec.pre6 enc Tryz.prog Tryz.f8 Go.Proofs.YtkbcponpcghjpaaGreat.Rows.fnExactHostAckRow.domain false) (Go.Proofs.YtkbcponpcghjpaaGreat.Rows.fnExactHostAckSpec.post enc Tryz.prog Tryz.f8 false true false false) := by
  refine Go.returnsInHanded_of_change (C := Tryz.checked) (by kernel_rfl) started (by kernel_rfl) Tryz.func8
    (ChangeSpec.witness6 (enc := enc) (C := Tryz.checked) false ⟨#[], #[.agg #[.slice none 0 0, .slice none 0 0, .slice none 0 0, .slice none 0 0], .int .i64 0], []⟩ 8 (by kernel_rfl) (by kernel_rfl) (by kernel_rfl) (by kernel_rfl)) ?_
  intro W base args ds gs before hval0 hW hcnd _
  have hval : ∀ (j : Nat) t v, Tryz.f8.params[j]? = some t → args[j]? = some v → Value.okWide Tryz.prog W .any base t v := hval0
  have hW' := hW
  obtain ⟨p, q, hA0, hV, rfl, hfz, hnd⟩ := hW
  have hA : DataW.TrodAll enc Tryz.prog W 0 (fun _ => true) true Tryz.f8.params.toList args.toList ds p := hA0
  rw [Tryz.params8] at hA hval
  obtain ⟨v0, vs0, d0, ds0, p0, q0, hargs, rfl, rfl, h0, r0⟩ := Go.ChangeShapes.trodAll_cons hA
  obtain ⟨v1, vs1, d1, ds1, p1, q1, rfl, rfl, rfl, h1, r1⟩ := Go.ChangeShapes.trodAll_cons r0
  obtain ⟨rfl, rfl, rfl⟩ := Go.ChangeShapes.trodAll_nil r1
  obtain rfl : args = #[v0, v1] := by cases args; simp_all
  obtain ⟨rfl, rfl⟩ := Go.ChangeShapes.trodVars_none hV
  have hlt := hW'.lt
  have k0 := h0
  obtain ⟨a0, pp0, rfl, b0⟩ := arg_agg o_26 Tryz.underlying26 rfl (hval 0 26 v0 rfl rfl) h0
  have k1 := h1
  obtain ⟨a1, rfl, b1⟩ := arg_int Tryz.underlying3 (hval 1 3 v1 rfl rfl) h1
  clear hA0 hval0
  simp only [List.append_nil] at hW' hlt
  refine Calls.mono (c_laws_FnExactHostAck W a0 pp0 b0 a1) fun e W' ⟨he, hg⟩ => ?_
  subst he
  have hb := hg.below
  exact ⟨_, rfl, post_law (pa := p0 ++ (p1 ++ [])) (pv := []) hW' (fun _ _ _ => (trodAll_cons_mk (shut_bool Tryz.underlying4 _) Go.ChangeShapes.trodAll_mk0)) (fun sp hsp => (trodAll_cons_mk (WideElems.Trod_stays (by kernel_rfl) (by kernel_rfl) (of_decide_eq_true (by kernel_rfl)) k0 (fun x hx => hb.same (hlt x (by simp [hx]))) (fun x hx => hsp x (by simp [hx]))) (trodAll_cons_mk (WideElems.Trod_stays (by kernel_rfl) (by kernel_rfl) (of_decide_eq_true (by kernel_rfl)) k1 (fun x hx => hb.same (hlt x (by simp [hx]))) (fun x hx => hsp x (by simp [hx]))) Go.ChangeShapes.trodAll_mk0))) (fun _ _ => rfl) (by simp)
    hb (RowKit.ok_one (by kernel_rfl) rfl (okWide_bool_mk Tryz.underlying4 _))⟩

theorem fnExactHostAck_holds : Go.Proofs.YtkbcponpcghjpaaGreat.Rows.FnExactHostAckSaid :=
  OpenClaim.holds_of_wide 8 Tryz.f8 rfl rfl rfl rfl rfl rfl rfl ⟨rfl, rfl, rfl, rfl, rfl⟩ rfl rfl rfl rfl rfl (by kernel_rfl) Tryz.func8 (by kernel_rfl)
    (of_decide_eq_true (by kernel_rfl)) (by unfold Func.isWrapper; first | (rw [if_pos (by decide +kernel)]; kernel_rfl) | (rw [if_neg (by decide +kernel)]; exact ⟨rfl, rfl⟩))
    (fun os started H enc _ => lifted_FnExactHostAck os started H enc)

end Go.Proofs.YtkbcponpcghjpaaGreat
