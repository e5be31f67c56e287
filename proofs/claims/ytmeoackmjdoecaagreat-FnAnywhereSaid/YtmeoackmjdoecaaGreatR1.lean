/- These theorems prove that each of the laws FnAnywhere returns true at every input and leaves its arguments as they were. Conditions: none beyond those of the given statements. -/
import Derived.Test.YtmeoackmjdoecaaGreatA7
import Derived.Test.YtmeoackmjdoecaaGreatA1
import Derived.Test.YtmeoackmjdoecaaGreatRows
import Derived.WalkKit
import Derived.ProofKit
import Derived.OpenShut
import Derived.KernelRfl
namespace Go.Proofs.YtmeoackmjdoecaaGreat
open Go Go.ChangeShapes Go.WideShapes Go.ChangeAt Go.RowKit
set_option linter.unusedVariables false
set_option linter.unusedSimpArgs false
set_option maxRecDepth 100000
set_option maxHeartbeats 2000000
theorem aiE:w2 Tryz.prog 5 (d_):=aiI Tryz.underlying5 (by kernel_rfl)
theorem aiD:w2 Tryz.prog 22 (List d_):=aiJ Tryz.underlying22 (by kernel_rfl) aiE
set_option maxRecDepth 100000 in
theorem agf (os:Os) (started:os.Started) (H:Type) (enc:TypeId×Value->H):
    ReturnsInHanded {} Tryz.checked os 3 .any (Go.Proofs.YtmeoackmjdoecaaGreat.Rows.fnAnywhereSpec.pre6 enc Tryz.prog Tryz.f3 Go.Proofs.YtmeoackmjdoecaaGreat.Rows.fnAnywhereRow.domain false) (Go.Proofs.YtmeoackmjdoecaaGreat.Rows.fnAnywhereSpec.post enc Tryz.prog Tryz.f3 false true false false):=by
  refine Go.returnsInHanded_of_change (C:=Tryz.checked) (by kernel_rfl) started (by kernel_rfl) Tryz.func3
    (ChangeSpec.witness6 (enc:=enc) (C:=Tryz.checked) false ⟨#[],#[.slice none 0 0],[]⟩ 8 (by kernel_rfl) (by kernel_rfl) (by kernel_rfl) (by kernel_rfl)) ?_
  intro W base args qY gs before R6 aO aph _
  have R5:∀(j:Nat) t v,Tryz.f3.params[j]? =some t->args[j]? =some v->Value.okWide Tryz.prog W .any base t v:=R6
  have H2:=aO
  obtain⟨p,q,PY,adV,rfl,apr,RF⟩:=aO
  have xV:DataW.TrodAll enc Tryz.prog W 0 (fun _=>true) true Tryz.f3.params.toList args.toList qY p:=PY
  rw [Tryz.params3] at xV R5
  obtain⟨v0,asi,d0,anQ,Lr,rI,ox,rfl,rfl,h0,akk⟩:=Go.ChangeShapes.trodAll_cons xV
  obtain⟨rfl,rfl,rfl⟩:=Go.ChangeShapes.trodAll_nil akk
  obtain rfl:args=#[v0]:=by cases args;simp_all
  obtain⟨rfl,rfl⟩:=Go.ChangeShapes.trodVars_none adV
  have fs:=H2.lt
  have JQ:=h0
  obtain⟨Cb,ai9,rfl,r1⟩:=WX aiD Tryz.underlying22 (R5 0 22 v0 rfl rfl) h0
  clear PY R6
  simp only [List.append_nil] at H2 fs
  refine Calls.mono (Yz W Cb ai9 r1) fun e vc ⟨he,aJ⟩=>?_
  subst he
  have hb:=aJ.below
  exact⟨_,rfl,ai7 (pa:=Lr++[]) (pv:=[]) H2 (fun _ _ _=>(trodAll_cons_mk (shut_bool Tryz.underlying4 _) Go.ChangeShapes.trodAll_mk0)) (fun sp DM=>(trodAll_cons_mk (WideElems.Trod_stays (by kernel_rfl) (by kernel_rfl) (of_decide_eq_true (by kernel_rfl)) JQ (fun x hx=>hb.same (fs x (by simp [hx]))) (fun x hx=>DM x (by simp [hx]))) Go.ChangeShapes.trodAll_mk0)) (fun _ _=>rfl) (by simp)
    hb (RowKit.ok_one (by kernel_rfl) rfl (okWide_bool_mk Tryz.underlying4 _))⟩
theorem am {a b:Bool} (h:a=true) (ah:b=true):(a&&b)=true:=by rw [h,ah];rfl
theorem afw:(laidOutB Go.Proofs.YtmeoackmjdoecaaGreat.Tryz.pinned.checked.prog)=true:=by kernel_rfl
theorem afC:(mapsRowed Go.Proofs.YtmeoackmjdoecaaGreat.Tryz.pinned.checked.prog)=true:=by kernel_rfl
theorem afD:((Go.Proofs.YtmeoackmjdoecaaGreat.Tryz.pinned.checked.prog.stops==[]))=true:=by kernel_rfl
theorem afE:((Go.Proofs.YtmeoackmjdoecaaGreat.Tryz.pinned.checked.prog.stopKnobs==[]))=true:=by kernel_rfl
theorem afs:((Go.Proofs.YtmeoackmjdoecaaGreat.Rows.fnAnywhereRow.inPlace==Go.Proofs.YtmeoackmjdoecaaGreat.Tryz.pinned.checked.prog.inPlace 3))=true:=by kernel_rfl
theorem aft:((Go.Proofs.YtmeoackmjdoecaaGreat.Rows.fnAnywhereRow.unfollowed==Go.Proofs.YtmeoackmjdoecaaGreat.Tryz.pinned.checked.prog.unfollowed 3))=true:=by kernel_rfl
theorem afu:((Go.Proofs.YtmeoackmjdoecaaGreat.Rows.fnAnywhereRow.recurses==Go.Proofs.YtmeoackmjdoecaaGreat.Tryz.pinned.checked.prog.recurses 3))=true:=by kernel_rfl
theorem afv:((Go.Proofs.YtmeoackmjdoecaaGreat.Rows.fnAnywhereRow.named==Go.Proofs.YtmeoackmjdoecaaGreat.Tryz.pinned.checked.prog.varsNamed 3))=true:=by kernel_rfl
theorem afx:((Go.Proofs.YtmeoackmjdoecaaGreat.Rows.fnAnywhereRow.plainKeys==Go.Proofs.YtmeoackmjdoecaaGreat.Tryz.pinned.checked.prog.plainKeys))=true:=by kernel_rfl
theorem afy:(Go.Proofs.YtmeoackmjdoecaaGreat.Tryz.pinned.checked.prog.stopsHeard)=true:=by kernel_rfl
theorem afz:(Go.Proofs.YtmeoackmjdoecaaGreat.Tryz.pinned.checked.prog.mayEnter)=true:=by kernel_rfl
theorem afA:((Go.Proofs.YtmeoackmjdoecaaGreat.Rows.fnAnywhereRow.lifted==Go.Proofs.YtmeoackmjdoecaaGreat.Tryz.pinned.checked.prog.liftsFinal))=true:=by kernel_rfl
theorem afB:((Go.Proofs.YtmeoackmjdoecaaGreat.Tryz.pinned.checked.prog.make==some Go.Proofs.YtmeoackmjdoecaaGreat.Rows.fnAnywhereRow.make))=true:=by kernel_rfl
theorem fnAnywhere_holds:Go.Proofs.YtmeoackmjdoecaaGreat.Rows.FnAnywhereSaid:=
  OpenClaim.holds_of_wide 3 Tryz.f3 rfl rfl rfl rfl rfl rfl rfl ⟨rfl,rfl,rfl,rfl,rfl⟩ rfl rfl rfl rfl rfl (by kernel_rfl) Tryz.func3 (by unfold joinedFacts;exact(am (am (am (am (am (am (am (am (am (am (am (am (am (am (am (am (am (am (am (am (am (am (am (am (am (am (am (am (am (am (am (by kernel_rfl) afw) afC) (by kernel_rfl)) (by kernel_rfl)) (by kernel_rfl)) afD) (by kernel_rfl)) afE) afs) aft) afu) afv) (by kernel_rfl)) (by kernel_rfl)) (by kernel_rfl)) (by kernel_rfl)) (by kernel_rfl)) (by kernel_rfl)) (by kernel_rfl)) (by kernel_rfl)) (by kernel_rfl)) afx) (by kernel_rfl)) afy) afz) afA) afB) (by kernel_rfl)) (by kernel_rfl)) (by kernel_rfl)) (by kernel_rfl)))
    (of_decide_eq_true (by kernel_rfl)) (by unfold Func.isWrapper;first|(rw [if_pos (by decide+kernel)];kernel_rfl)|(rw [if_neg (by decide+kernel)];exact⟨rfl,rfl⟩))
    (fun os started H enc _=>agf os started H enc)
end Go.Proofs.YtmeoackmjdoecaaGreat
