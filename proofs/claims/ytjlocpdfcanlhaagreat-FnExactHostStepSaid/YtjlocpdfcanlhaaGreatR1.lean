/- These theorems prove that each of the laws FnExactHostStep returns true at every input and leaves its arguments as they were. Conditions: none beyond those of the given statements. -/
import Derived.Test.YtjlocpdfcanlhaaGreatA9
import Derived.Test.YtjlocpdfcanlhaaGreatA1
import Derived.Test.YtjlocpdfcanlhaaGreatRows
import Derived.WalkKit
import Derived.ProofKit
import Derived.OpenShut
import Derived.KernelRfl
namespace Go.Proofs.YtjlocpdfcanlhaaGreat
open Go Go.ChangeShapes Go.WideShapes Go.ChangeAt Go.RowKit
set_option linter.unusedVariables false
set_option linter.unusedSimpArgs false
set_option maxRecDepth 100000
set_option maxHeartbeats 2000000
theorem kJ:dG Tryz.prog 3 (Int):=ah9 Tryz.underlying3 (by kernel_rfl)
theorem LW:dG Tryz.prog 38 (List Int):=sr Tryz.underlying38 (by kernel_rfl) kJ
theorem Uw:dG Tryz.prog 22 (List (List Int)):=sr Tryz.underlying22 (by kernel_rfl) LW
theorem ahU:dG Tryz.prog 239 (aQ):=ah7 (t0:=3) (t1:=3) Tryz.underlying239 (by kernel_rfl) rfl kJ kJ
theorem E6:dG Tryz.prog 119 (List aQ):=sr Tryz.underlying119 (by kernel_rfl) ahU
theorem E7:dG Tryz.prog 4 (Bool):=ah8 Tryz.underlying4 (by kernel_rfl)
theorem Uy:dG Tryz.prog 39 (List Bool):=sr Tryz.underlying39 (by kernel_rfl) E7
theorem ahW:dG Tryz.prog 266 (c_):=ah4 (t0:=3) (t1:=3) Tryz.underlying266 (by kernel_rfl) rfl kJ kJ
theorem ahO:dG Tryz.prog 229 (List c_):=sr Tryz.underlying229 (by kernel_rfl) ahW
theorem ahQ:dG Tryz.prog 230 (fo):=ahZ (t0:=3) (t1:=3) (t2:=4) Tryz.underlying230 (by kernel_rfl) rfl kJ kJ E7
theorem ahR:dG Tryz.prog 231 (df):=ah1 (t0:=3) (t1:=3) (t2:=4) (t3:=3) Tryz.underlying231 (by kernel_rfl) rfl kJ kJ E7 kJ
theorem ahS:dG Tryz.prog 233 (ax):=ah2 (t0:=229) (t1:=3) (t2:=3) (t3:=119) (t4:=119) (t5:=230) (t6:=3) (t7:=231) (t8:=4) (t9:=38) Tryz.underlying233 (by kernel_rfl) rfl ahO kJ kJ E6 E6 ahQ kJ ahR E7 LW
theorem ahK:dG Tryz.prog 120 (List ax):=sr Tryz.underlying120 (by kernel_rfl) ahS
theorem ahT:dG Tryz.prog 236 (bQ):=ah5 (t0:=39) (t1:=119) Tryz.underlying236 (by kernel_rfl) rfl Uy E6
theorem ahL:dG Tryz.prog 121 (List bQ):=sr Tryz.underlying121 (by kernel_rfl) ahT
theorem ahM:dG Tryz.prog 123 (aO):=ah6 (t0:=119) (t1:=22) (t2:=39) (t3:=120) (t4:=38) (t5:=3) (t6:=3) (t7:=121) (t8:=3) Tryz.underlying123 (by kernel_rfl) rfl E6 Uw Uy ahK LW kJ kJ ahL kJ
theorem ahP:dG Tryz.prog 23 (List aO):=sr Tryz.underlying23 (by kernel_rfl) ahM
theorem ahN:dG Tryz.prog 140 (aG):=ah0 (t0:=3) (t1:=3) (t2:=3) (t3:=3) Tryz.underlying140 (by kernel_rfl) rfl kJ kJ kJ kJ
theorem Ux:dG Tryz.prog 24 (List aG):=sr Tryz.underlying24 (by kernel_rfl) ahN
theorem ahV:dG Tryz.prog 26 (ah):=ah3 (t0:=22) (t1:=23) (t2:=24) (t3:=24) Tryz.underlying26 (by kernel_rfl) rfl Uw ahP Ux Ux
set_option maxRecDepth 100000 in
theorem af2 (os:Os) (started:os.Started) (H:Type) (enc:TypeId×Value->H):
    ReturnsInHanded {} Tryz.checked os 3 .any (Go.Proofs.YtjlocpdfcanlhaaGreat.Rows.fnExactHostStepSpec.pre6 enc Tryz.prog Tryz.f3 Go.Proofs.YtjlocpdfcanlhaaGreat.Rows.fnExactHostStepRow.domain false) (Go.Proofs.YtjlocpdfcanlhaaGreat.Rows.fnExactHostStepSpec.post enc Tryz.prog Tryz.f3 false true false false):=by
  refine Go.returnsInHanded_of_change (C:=Tryz.checked) (by kernel_rfl) started (by kernel_rfl) Tryz.func3
    (ChangeSpec.witness6 (enc:=enc) (C:=Tryz.checked) false ⟨#[],#[.agg #[.slice none 0 0,.slice none 0 0,.slice none 0 0,.slice none 0 0],.int .i64 0,.int .i64 0],[]⟩ 8 (by kernel_rfl) (by kernel_rfl) (by kernel_rfl) (by kernel_rfl)) ?_
  intro W base args qH gs before SU aH an5 _
  have Ei:∀(j:Nat) t v,Tryz.f3.params[j]? =some t->args[j]? =some v->Value.okWide Tryz.prog W .any base t v:=SU
  have I7:=aH
  obtain⟨p,q,Ro,adP,rfl,an_,aor⟩:=aH
  have Rn:DataW.TrodAll enc Tryz.prog W 0 (fun _=>true) true Tryz.f3.params.toList args.toList qH p:=Ro
  rw [Tryz.params3] at Rn Ei
  obtain⟨v0,aqc,d0,amt,nV,apJ,p9,rfl,rfl,h0,k6⟩:=Go.ChangeShapes.trodAll_cons Rn
  obtain⟨v1,akn,d1,aaH,lq,ae,rfl,rfl,rfl,h1,kj⟩:=Go.ChangeShapes.trodAll_cons k6
  obtain⟨v2,aqd,d2,amu,cw,gy,rfl,rfl,rfl,an,oN⟩:=Go.ChangeShapes.trodAll_cons kj
  obtain⟨rfl,rfl,rfl⟩:=Go.ChangeShapes.trodAll_nil oN
  obtain rfl:args=#[v0,v1,v2]:=by cases args;simp_all
  obtain⟨rfl,rfl⟩:=Go.ChangeShapes.trodVars_none adP
  have eP:=I7.lt
  have J5:=h0
  obtain⟨G1,aiz,rfl,o1⟩:=W5 ahV Tryz.underlying26 rfl (Ei 0 26 v0 rfl rfl) h0
  have dz:=h1
  obtain⟨mI,rfl,hv⟩:=Ov Tryz.underlying3 (Ei 1 3 v1 rfl rfl) h1
  have afj:=an
  obtain⟨k_,rfl,nx⟩:=Ov Tryz.underlying3 (Ei 2 3 v2 rfl rfl) an
  clear Ro SU
  simp only [List.append_nil] at I7 eP
  refine Calls.mono (YG W G1 aiz o1 mI k_) fun e uu ⟨he,aJ⟩=>?_
  subst he
  have hb:=aJ.below
  exact⟨_,rfl,aiy (pa:=nV++(lq++(cw++[]))) (pv:=[]) I7 (fun _ _ _=>(trodAll_cons_mk (shut_bool Tryz.underlying4 _) Go.ChangeShapes.trodAll_mk0)) (fun sp vO=>(trodAll_cons_mk (WideElems.Trod_stays (by kernel_rfl) (by kernel_rfl) (of_decide_eq_true (by kernel_rfl)) J5 (fun x hx=>hb.same (eP x (by simp [hx]))) (fun x hx=>vO x (by simp [hx]))) (trodAll_cons_mk (WideElems.Trod_stays (by kernel_rfl) (by kernel_rfl) (of_decide_eq_true (by kernel_rfl)) dz (fun x hx=>hb.same (eP x (by simp [hx]))) (fun x hx=>vO x (by simp [hx]))) (trodAll_cons_mk (WideElems.Trod_stays (by kernel_rfl) (by kernel_rfl) (of_decide_eq_true (by kernel_rfl)) afj (fun x hx=>hb.same (eP x (by simp [hx]))) (fun x hx=>vO x (by simp [hx]))) Go.ChangeShapes.trodAll_mk0)))) (fun _ _=>rfl) (by simp)
    hb (RowKit.ok_one (by kernel_rfl) rfl (okWide_bool_mk Tryz.underlying4 _))⟩
theorem am {a b:Bool} (h:a=true) (an:b=true):(a&&b)=true:=by rw [h,an];rfl
theorem ae_:(laidOutB Go.Proofs.YtjlocpdfcanlhaaGreat.Tryz.pinned.checked.prog)=true:=by kernel_rfl
theorem aff:(mapsRowed Go.Proofs.YtjlocpdfcanlhaaGreat.Tryz.pinned.checked.prog)=true:=by kernel_rfl
theorem afg:((Go.Proofs.YtjlocpdfcanlhaaGreat.Tryz.pinned.checked.prog.stops==[]))=true:=by kernel_rfl
theorem afh:((Go.Proofs.YtjlocpdfcanlhaaGreat.Tryz.pinned.checked.prog.stopKnobs==[]))=true:=by kernel_rfl
theorem ae6:((Go.Proofs.YtjlocpdfcanlhaaGreat.Rows.fnExactHostStepRow.inPlace==Go.Proofs.YtjlocpdfcanlhaaGreat.Tryz.pinned.checked.prog.inPlace 3))=true:=by kernel_rfl
theorem ae7:((Go.Proofs.YtjlocpdfcanlhaaGreat.Rows.fnExactHostStepRow.unfollowed==Go.Proofs.YtjlocpdfcanlhaaGreat.Tryz.pinned.checked.prog.unfollowed 3))=true:=by kernel_rfl
theorem ae8:((Go.Proofs.YtjlocpdfcanlhaaGreat.Rows.fnExactHostStepRow.recurses==Go.Proofs.YtjlocpdfcanlhaaGreat.Tryz.pinned.checked.prog.recurses 3))=true:=by kernel_rfl
theorem ae9:((Go.Proofs.YtjlocpdfcanlhaaGreat.Rows.fnExactHostStepRow.named==Go.Proofs.YtjlocpdfcanlhaaGreat.Tryz.pinned.checked.prog.varsNamed 3))=true:=by kernel_rfl
theorem afa:((Go.Proofs.YtjlocpdfcanlhaaGreat.Rows.fnExactHostStepRow.plainKeys==Go.Proofs.YtjlocpdfcanlhaaGreat.Tryz.pinned.checked.prog.plainKeys))=true:=by kernel_rfl
theorem afb:(Go.Proofs.YtjlocpdfcanlhaaGreat.Tryz.pinned.checked.prog.stopsHeard)=true:=by kernel_rfl
theorem afc:(Go.Proofs.YtjlocpdfcanlhaaGreat.Tryz.pinned.checked.prog.mayEnter)=true:=by kernel_rfl
theorem afd:((Go.Proofs.YtjlocpdfcanlhaaGreat.Rows.fnExactHostStepRow.lifted==Go.Proofs.YtjlocpdfcanlhaaGreat.Tryz.pinned.checked.prog.liftsFinal))=true:=by kernel_rfl
theorem afe:((Go.Proofs.YtjlocpdfcanlhaaGreat.Tryz.pinned.checked.prog.make==some Go.Proofs.YtjlocpdfcanlhaaGreat.Rows.fnExactHostStepRow.make))=true:=by kernel_rfl
theorem fnExactHostStep_holds:Go.Proofs.YtjlocpdfcanlhaaGreat.Rows.FnExactHostStepSaid:=
  OpenClaim.holds_of_wide 3 Tryz.f3 rfl rfl rfl rfl rfl rfl rfl ⟨rfl,rfl,rfl,rfl,rfl⟩ rfl rfl rfl rfl rfl (by kernel_rfl) Tryz.func3 (by unfold joinedFacts;exact(am (am (am (am (am (am (am (am (am (am (am (am (am (am (am (am (am (am (am (am (am (am (am (am (am (am (am (am (am (am (am (by kernel_rfl) ae_) aff) (by kernel_rfl)) (by kernel_rfl)) (by kernel_rfl)) afg) (by kernel_rfl)) afh) ae6) ae7) ae8) ae9) (by kernel_rfl)) (by kernel_rfl)) (by kernel_rfl)) (by kernel_rfl)) (by kernel_rfl)) (by kernel_rfl)) (by kernel_rfl)) (by kernel_rfl)) (by kernel_rfl)) afa) (by kernel_rfl)) afb) afc) afd) afe) (by kernel_rfl)) (by kernel_rfl)) (by kernel_rfl)) (by kernel_rfl)))
    (of_decide_eq_true (by kernel_rfl)) (by unfold Func.isWrapper;first|(rw [if_pos (by decide+kernel)];kernel_rfl)|(rw [if_neg (by decide+kernel)];exact⟨rfl,rfl⟩))
    (fun os started H enc _=>af2 os started H enc)
end Go.Proofs.YtjlocpdfcanlhaaGreat
