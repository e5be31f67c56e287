/- These theorems prove that each of the laws FnExactHostPoke returns true at every input and leaves its arguments as they were. Conditions: none beyond those of the given statements. -/
import Derived.Test.YtklppedmchbdmaaGreatW5
import Derived.Test.YtklppedmchbdmaaGreatOpen
import Derived.Test.YtklppedmchbdmaaGreatRows
import Derived.WalkKit
import Derived.ProofKit
import Derived.OpenShut
import Derived.KernelRfl
namespace Go.Proofs.YtklppedmchbdmaaGreat
open Go Go.ChangeShapes Go.WideShapes Go.ChangeAt Go.RowKit
set_option linter.unusedVariables false
set_option linter.unusedSimpArgs false
set_option maxRecDepth 100000

theorem o_3 : Opens Tryz.prog 3 (Int) := opens_int Tryz.underlying3 (by kernel_rfl)
theorem o_50 : Opens Tryz.prog 50 (List Int) := opens_slice Tryz.underlying50 (by kernel_rfl) o_3
theorem o_22 : Opens Tryz.prog 22 (List (List Int)) := opens_slice Tryz.underlying22 (by kernel_rfl) o_50
theorem o_166 : Opens Tryz.prog 166 (TSlot) := opens_Slot (t0 := 3) (t1 := 3) Tryz.underlying166 (by kernel_rfl) rfl o_3 o_3
theorem o_83 : Opens Tryz.prog 83 (List TSlot) := opens_slice Tryz.underlying83 (by kernel_rfl) o_166
theorem o_4 : Opens Tryz.prog 4 (Bool) := opens_bool Tryz.underlying4 (by kernel_rfl)
theorem o_48 : Opens Tryz.prog 48 (List Bool) := opens_slice Tryz.underlying48 (by kernel_rfl) o_4
theorem o_190 : Opens Tryz.prog 190 (TIns) := opens_Ins (t0 := 3) (t1 := 3) Tryz.underlying190 (by kernel_rfl) rfl o_3 o_3
theorem o_155 : Opens Tryz.prog 155 (List TIns) := opens_slice Tryz.underlying155 (by kernel_rfl) o_190
theorem o_156 : Opens Tryz.prog 156 (TCtl) := opens_Ctl (t0 := 3) (t1 := 3) (t2 := 4) Tryz.underlying156 (by kernel_rfl) rfl o_3 o_3 o_4
theorem o_157 : Opens Tryz.prog 157 (TExit) := opens_Exit (t0 := 3) (t1 := 3) (t2 := 4) (t3 := 3) Tryz.underlying157 (by kernel_rfl) rfl o_3 o_3 o_4 o_3
theorem o_159 : Opens Tryz.prog 159 (TGuest) := opens_Guest (t0 := 155) (t1 := 3) (t2 := 3) (t3 := 83) (t4 := 83) (t5 := 156) (t6 := 3) (t7 := 157) (t8 := 4) (t9 := 50) Tryz.underlying159 (by kernel_rfl) rfl o_155 o_3 o_3 o_83 o_83 o_156 o_3 o_157 o_4 o_50
theorem o_84 : Opens Tryz.prog 84 (List TGuest) := opens_slice Tryz.underlying84 (by kernel_rfl) o_159
theorem o_162 : Opens Tryz.prog 162 (TKept) := opens_Kept (t0 := 48) (t1 := 83) Tryz.underlying162 (by kernel_rfl) rfl o_48 o_83
theorem o_85 : Opens Tryz.prog 85 (List TKept) := opens_slice Tryz.underlying85 (by kernel_rfl) o_162
theorem o_87 : Opens Tryz.prog 87 (TMon) := opens_Mon (t0 := 83) (t1 := 22) (t2 := 48) (t3 := 84) (t4 := 50) (t5 := 3) (t6 := 3) (t7 := 85) (t8 := 3) Tryz.underlying87 (by kernel_rfl) rfl o_83 o_22 o_48 o_84 o_50 o_3 o_3 o_85 o_3
theorem o_23 : Opens Tryz.prog 23 (List TMon) := opens_slice Tryz.underlying23 (by kernel_rfl) o_87
theorem o_106 : Opens Tryz.prog 106 (TEntry) := opens_Entry (t0 := 3) (t1 := 3) (t2 := 3) (t3 := 3) Tryz.underlying106 (by kernel_rfl) rfl o_3 o_3 o_3 o_3
theorem o_24 : Opens Tryz.prog 24 (List TEntry) := opens_slice Tryz.underlying24 (by kernel_rfl) o_106
theorem o_26 : Opens Tryz.prog 26 (THost) := opens_Host (t0 := 22) (t1 := 23) (t2 := 24) (t3 := 24) Tryz.underlying26 (by kernel_rfl) rfl o_22 o_23 o_24 o_24
set_option maxRecDepth 100000 in
theorem lifted_FnExactHostPoke (os : Os) (started : os.Started) (H : Type) (enc : TypeId × Value → H) :
    ReturnsInHanded {} Tryz.checked os 7 .any (Go.Proofs.YtklppedmchbdmaaGreat.Rows.fnExactHostPokeSpec.pre6 enc Tryz.prog Tryz.f7 Go.Proofs.YtklppedmchbdmaaGreat.Rows.fnExactHostPokeRow.domain false) (Go.Proofs.YtklppedmchbdmaaGreat.Rows.fnExactHostPokeSpec.post enc Tryz.prog Tryz.f7 false true false false) := by
  refine Go.returnsInHanded_of_change (C := Tryz.checked) (by kernel_rfl) started (by kernel_rfl) Tryz.func7
    (ChangeSpec.witness6 (enc := enc) (C := Tryz.checked) false ⟨#[], #[.agg #[.slice none 0 0, .slice none 0 0, .slice none 0 0, .slice none 0 0], .int .i64 0, .int .i64 0, .int .i64 0, .int .i64 0], []⟩ 8 (by kernel_rfl) (by kernel_rfl) (by kernel_rfl) (by kernel_rfl)) ?_
  intro W base args ds gs before hval0 hW hcnd _
  have hval : ∀ (j : Nat) t v, Tryz.f7.params[j]? = some t → args[j]? = some v → Value.okWide Tryz.prog W .any base t v := hval0
  have hW' := hW
  obtain ⟨p, q, hA0, hV, rfl, hfz, hnd⟩ := hW
  have hA : DataW.TrodAll enc Tryz.prog W 0 (fun _ => true) true Tryz.f7.params.toList args.toList ds p := hA0
  rw [Tryz.params7] at hA hval
  obtain ⟨v0, vs0, d0, ds0, p0, q0, hargs, rfl, rfl, h0, r0⟩ := Go.ChangeShapes.trodAll_cons hA
  obtain ⟨v1, vs1, d1, ds1, p1, q1, rfl, rfl, rfl, h1, r1⟩ := Go.ChangeShapes.trodAll_cons r0
  obtain ⟨v2, vs2, d2, ds2, p2, q2, rfl, rfl, rfl, h2, r2⟩ := Go.ChangeShapes.trodAll_cons r1
  obtain ⟨v3, vs3, d3, ds3, p3, q3, rfl, rfl, rfl, h3, r3⟩ := Go.ChangeShapes.trodAll_cons r2
  obtain ⟨v4, vs4, d4, ds4, p4, q4, rfl, rfl, rfl, h4, r4⟩ := Go.ChangeShapes.trodAll_cons r3
  obtain ⟨rfl, rfl, rfl⟩ := Go.ChangeShapes.trodAll_nil r4
  obtain rfl : args = #[v0, v1, v2, v3, v4] := by cases args; simp_all
  obtain ⟨rfl, rfl⟩ := Go.ChangeShapes.trodVars_none hV
  have hlt := hW'.lt
  have k0 := h0
  obtain ⟨a0, pp0, rfl, b0⟩ := arg_agg o_26 Tryz.underlying26 rfl (hval 0 26 v0 rfl rfl) h0
  have k1 := h1
  obtain ⟨a1, rfl, b1⟩ := arg_int Tryz.underlying3 (hval 1 3 v1 rfl rfl) h1
  have k2 := h2
  obtain ⟨a2, rfl, b2⟩ := arg_int Tryz.underlying3 (hval 2 3 v2 rfl rfl) h2
  have k3 := h3
  obtain ⟨a3, rfl, b3⟩ := arg_int Tryz.underlying3 (hval 3 3 v3 rfl rfl) h3
  have k4 := h4
  obtain ⟨a4, rfl, b4⟩ := arg_int Tryz.underlying3 (hval 4 3 v4 rfl rfl) h4
  clear hA0 hval0
  simp only [List.append_nil] at hW' hlt
  refine Calls.mono (c_laws_FnExactHostPoke W a0 pp0 b0 a1 a2 b2 a3 b3 a4 b4) fun e W' ⟨he, hg⟩ => ?_
  subst he
  have hb := hg.below
  exact ⟨_, rfl, post_law (pa := p0 ++ (p1 ++ (p2 ++ (p3 ++ (p4 ++ []))))) (pv := []) hW' (fun _ _ _ => (trodAll_cons_mk (shut_bool Tryz.underlying4 _) Go.ChangeShapes.trodAll_mk0)) (fun sp hsp => (trodAll_cons_mk (WideElems.Trod_stays (by kernel_rfl) (by kernel_rfl) (of_decide_eq_true (by kernel_rfl)) k0 (fun x hx => hb.same (hlt x (by simp [hx]))) (fun x hx => hsp x (by simp [hx]))) (trodAll_cons_mk (WideElems.Trod_stays (by kernel_rfl) (by kernel_rfl) (of_decide_eq_true (by kernel_rfl)) k1 (fun x hx => hb.same (hlt x (by simp [hx]))) (fun x hx => hsp x (by simp [hx]))) (trodAll_cons_mk (WideElems.Trod_stays (by kernel_rfl) (by kernel_rfl) (of_decide_eq_true (by kernel_rfl)) k2 (fun x hx => hb.same (hlt x (by simp [hx]))) (fun x hx => hsp x (by simp [hx]))) (trodAll_cons_mk (WideElems.Trod_stays (by kernel_rfl) (by kernel_rfl) (of_decide_eq_true (by kernel_rfl)) k3 (fun x hx => hb.same (hlt x (by simp [hx]))) (fun x hx => hsp x (by simp [hx]))) (trodAll_cons_mk (WideElems.Trod_stays (by kernel_rfl) (by kernel_rfl) (of_decide_eq_true (by kernel_rfl)) k4 (fun x hx => hb.same (hlt x (by simp [hx]))) (fun x hx => hsp x (by simp [hx]))) Go.ChangeShapes.trodAll_mk0)))))) (fun _ _ => rfl) (by simp)
    hb (RowKit.ok_one (by kernel_rfl) rfl (okWide_bool_mk Tryz.underlying4 _))⟩

theorem fnExactHostPoke_holds : Go.Proofs.YtklppedmchbdmaaGreat.Rows.FnExactHostPokeSaid :=
  OpenClaim.holds_of_wide 7 Tryz.f7 rfl rfl rfl rfl rfl rfl rfl ⟨rfl, rfl, rfl, rfl, rfl⟩ rfl rfl rfl rfl rfl (by kernel_rfl) Tryz.func7 (by kernel_rfl)
    (of_decide_eq_true (by kernel_rfl)) (by unfold Func.isWrapper; first | (rw [if_pos (by decide +kernel)]; kernel_rfl) | (rw [if_neg (by decide +kernel)]; exact ⟨rfl, rfl⟩))
    (fun os started H enc _ => lifted_FnExactHostPoke os started H enc)

end Go.Proofs.YtklppedmchbdmaaGreat
