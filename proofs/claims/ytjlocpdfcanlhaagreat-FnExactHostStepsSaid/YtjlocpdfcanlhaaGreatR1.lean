/- These theorems prove that each of the laws FnExactHostSteps returns true at every input and leaves its arguments as they were. Conditions: none beyond those of the given statements. -/
import Derived.Test.YtjlocpdfcanlhaaGreatA9
import Derived.Test.YtjlocpdfcanlhaaGreatA1
import Derived.Test.YtjlocpdfcanlhaaGreatRows
import Derived.WalkKit
import Derived.ProofKit
import Derived.OpenShut
import Derived.KernelRfl
namespace Go.Proofs.YtjlocpdfcanlhaaGreat
open Go Go.ChangeShapes Go.WideShapes Go.ChangeAt Go.RowKit
set_option linter.unusedVariables false
set_option linter.unusedSimpArgs false
set_option maxRecDepth 100000
set_option maxHeartbeats 2000000
theorem kN:dH Tryz.prog 3 (Int):=aiI Tryz.underlying3 (by kernel_rfl)
theorem FF:dH Tryz.prog 38 (List Int):=sK Tryz.underlying38 (by kernel_rfl) kN
theorem UU:dH Tryz.prog 22 (List (List Int)):=sK Tryz.underlying22 (by kernel_rfl) FF
theorem ait:dH Tryz.prog 239 (aR):=aiG (t0:=3) (t1:=3) Tryz.underlying239 (by kernel_rfl) rfl kN kN
theorem FE:dH Tryz.prog 119 (List aR):=sK Tryz.underlying119 (by kernel_rfl) ait
theorem FG:dH Tryz.prog 4 (Bool):=aiH Tryz.underlying4 (by kernel_rfl)
theorem UX:dH Tryz.prog 39 (List Bool):=sK Tryz.underlying39 (by kernel_rfl) FG
theorem aiv:dH Tryz.prog 266 (da):=aiD (t0:=3) (t1:=3) Tryz.underlying266 (by kernel_rfl) rfl kN kN
theorem ain:dH Tryz.prog 229 (List da):=sK Tryz.underlying229 (by kernel_rfl) aiv
theorem aip:dH Tryz.prog 230 (fy):=aiy (t0:=3) (t1:=3) (t2:=4) Tryz.underlying230 (by kernel_rfl) rfl kN kN FG
theorem aiq:dH Tryz.prog 231 (dg):=aiA (t0:=3) (t1:=3) (t2:=4) (t3:=3) Tryz.underlying231 (by kernel_rfl) rfl kN kN FG kN
theorem air:dH Tryz.prog 233 (ax):=aiB (t0:=229) (t1:=3) (t2:=3) (t3:=119) (t4:=119) (t5:=230) (t6:=3) (t7:=231) (t8:=4) (t9:=38) Tryz.underlying233 (by kernel_rfl) rfl ain kN kN FE FE aip kN aiq FG FF
theorem aij:dH Tryz.prog 120 (List ax):=sK Tryz.underlying120 (by kernel_rfl) air
theorem ais:dH Tryz.prog 236 (bS):=aiE (t0:=39) (t1:=119) Tryz.underlying236 (by kernel_rfl) rfl UX FE
theorem aik:dH Tryz.prog 121 (List bS):=sK Tryz.underlying121 (by kernel_rfl) ais
theorem ail:dH Tryz.prog 123 (aO):=aiF (t0:=119) (t1:=22) (t2:=39) (t3:=120) (t4:=38) (t5:=3) (t6:=3) (t7:=121) (t8:=3) Tryz.underlying123 (by kernel_rfl) rfl FE UU UX aij FF kN kN aik kN
theorem aio:dH Tryz.prog 23 (List aO):=sK Tryz.underlying23 (by kernel_rfl) ail
theorem aim:dH Tryz.prog 140 (aH):=aiz (t0:=3) (t1:=3) (t2:=3) (t3:=3) Tryz.underlying140 (by kernel_rfl) rfl kN kN kN kN
theorem UW:dH Tryz.prog 24 (List aH):=sK Tryz.underlying24 (by kernel_rfl) aim
theorem aiu:dH Tryz.prog 26 (ah):=aiC (t0:=22) (t1:=23) (t2:=24) (t3:=24) Tryz.underlying26 (by kernel_rfl) rfl UU aio UW UW
set_option maxRecDepth 100000 in
theorem agE (os:Os) (started:os.Started) (H:Type) (enc:TypeId×Value->H):
    ReturnsInHanded {} Tryz.checked os 4 .any (Go.Proofs.YtjlocpdfcanlhaaGreat.Rows.fnExactHostStepsSpec.pre6 enc Tryz.prog Tryz.f4 Go.Proofs.YtjlocpdfcanlhaaGreat.Rows.fnExactHostStepsRow.domain false) (Go.Proofs.YtjlocpdfcanlhaaGreat.Rows.fnExactHostStepsSpec.post enc Tryz.prog Tryz.f4 false true false false):=by
  refine Go.returnsInHanded_of_change (C:=Tryz.checked) (by kernel_rfl) started (by kernel_rfl) Tryz.func4
    (ChangeSpec.witness6 (enc:=enc) (C:=Tryz.checked) false ⟨#[],#[.agg #[.slice none 0 0,.slice none 0 0,.slice none 0 0,.slice none 0 0],.int .i64 0,.slice none 0 0],[]⟩ 8 (by kernel_rfl) (by kernel_rfl) (by kernel_rfl) (by kernel_rfl)) ?_
  intro W base args qS gs before Ti aG aoM _
  have EP:∀(j:Nat) t v,Tryz.f4.params[j]? =some t->args[j]? =some v->Value.okWide Tryz.prog W .any base t v:=Ti
  have Jv:=aG
  obtain⟨p,q,RL,aen,rfl,aoR,ao_⟩:=aG
  have RK:DataW.TrodAll enc Tryz.prog W 0 (fun _=>true) true Tryz.f4.params.toList args.toList qS p:=RL
  rw [Tryz.params4] at RK EP
  obtain⟨v0,aqV,d0,am_,n5,aqt,qh,rfl,rfl,h0,la⟩:=Go.ChangeShapes.trodAll_cons RK
  obtain⟨v1,akX,d1,aba,lz,af,rfl,rfl,rfl,h1,km⟩:=Go.ChangeShapes.trodAll_cons la
  obtain⟨v2,aqW,d2,ana,cx,gB,rfl,rfl,rfl,an,oW⟩:=Go.ChangeShapes.trodAll_cons km
  obtain⟨rfl,rfl,rfl⟩:=Go.ChangeShapes.trodAll_nil oW
  obtain rfl:args=#[v0,v1,v2]:=by cases args;simp_all
  obtain⟨rfl,rfl⟩:=Go.ChangeShapes.trodVars_none aen
  have eW:=Jv.lt
  have Ku:=h0
  obtain⟨Hw,ai8,rfl,nI⟩:=Xt aiu Tryz.underlying26 rfl (EP 0 26 v0 rfl rfl) h0
  have dB:=h1
  obtain⟨mV,rfl,hP⟩:=Xu Tryz.underlying3 (EP 1 3 v1 rfl rfl) h1
  have afV:=an
  obtain⟨lf,ai9,rfl,m2⟩:=Xv FF Tryz.underlying38 (EP 2 38 v2 rfl rfl) an
  clear RL Ti
  simp only [List.append_nil] at Jv eW
  refine Calls.mono (Y9 W Hw ai8 nI mV lf ai9 m2) fun e uO ⟨he,aJ⟩=>?_
  subst he
  have hb:=aJ.below
  exact⟨_,rfl,ai7 (pa:=n5++(lz++(cx++[]))) (pv:=[]) Jv (fun _ _ _=>(trodAll_cons_mk (shut_bool Tryz.underlying4 _) Go.ChangeShapes.trodAll_mk0)) (fun sp wg=>(trodAll_cons_mk (WideElems.Trod_stays (by kernel_rfl) (by kernel_rfl) (of_decide_eq_true (by kernel_rfl)) Ku (fun x hx=>hb.same (eW x (by simp [hx]))) (fun x hx=>wg x (by simp [hx]))) (trodAll_cons_mk (WideElems.Trod_stays (by kernel_rfl) (by kernel_rfl) (of_decide_eq_true (by kernel_rfl)) dB (fun x hx=>hb.same (eW x (by simp [hx]))) (fun x hx=>wg x (by simp [hx]))) (trodAll_cons_mk (WideElems.Trod_stays (by kernel_rfl) (by kernel_rfl) (of_decide_eq_true (by kernel_rfl)) afV (fun x hx=>hb.same (eW x (by simp [hx]))) (fun x hx=>wg x (by simp [hx]))) Go.ChangeShapes.trodAll_mk0)))) (fun _ _=>rfl) (by simp)
    hb (RowKit.ok_one (by kernel_rfl) rfl (okWide_bool_mk Tryz.underlying4 _))⟩
theorem am {a b:Bool} (h:a=true) (an:b=true):(a&&b)=true:=by rw [h,an];rfl
theorem afK:(laidOutB Go.Proofs.YtjlocpdfcanlhaaGreat.Tryz.pinned.checked.prog)=true:=by kernel_rfl
theorem afQ:(mapsRowed Go.Proofs.YtjlocpdfcanlhaaGreat.Tryz.pinned.checked.prog)=true:=by kernel_rfl
theorem afR:((Go.Proofs.YtjlocpdfcanlhaaGreat.Tryz.pinned.checked.prog.stops==[]))=true:=by kernel_rfl
theorem afS:((Go.Proofs.YtjlocpdfcanlhaaGreat.Tryz.pinned.checked.prog.stopKnobs==[]))=true:=by kernel_rfl
theorem afG:((Go.Proofs.YtjlocpdfcanlhaaGreat.Rows.fnExactHostStepsRow.inPlace==Go.Proofs.YtjlocpdfcanlhaaGreat.Tryz.pinned.checked.prog.inPlace 4))=true:=by kernel_rfl
theorem afH:((Go.Proofs.YtjlocpdfcanlhaaGreat.Rows.fnExactHostStepsRow.unfollowed==Go.Proofs.YtjlocpdfcanlhaaGreat.Tryz.pinned.checked.prog.unfollowed 4))=true:=by kernel_rfl
theorem afI:((Go.Proofs.YtjlocpdfcanlhaaGreat.Rows.fnExactHostStepsRow.recurses==Go.Proofs.YtjlocpdfcanlhaaGreat.Tryz.pinned.checked.prog.recurses 4))=true:=by kernel_rfl
theorem afJ:((Go.Proofs.YtjlocpdfcanlhaaGreat.Rows.fnExactHostStepsRow.named==Go.Proofs.YtjlocpdfcanlhaaGreat.Tryz.pinned.checked.prog.varsNamed 4))=true:=by kernel_rfl
theorem afL:((Go.Proofs.YtjlocpdfcanlhaaGreat.Rows.fnExactHostStepsRow.plainKeys==Go.Proofs.YtjlocpdfcanlhaaGreat.Tryz.pinned.checked.prog.plainKeys))=true:=by kernel_rfl
theorem afM:(Go.Proofs.YtjlocpdfcanlhaaGreat.Tryz.pinned.checked.prog.stopsHeard)=true:=by kernel_rfl
theorem afN:(Go.Proofs.YtjlocpdfcanlhaaGreat.Tryz.pinned.checked.prog.mayEnter)=true:=by kernel_rfl
theorem afO:((Go.Proofs.YtjlocpdfcanlhaaGreat.Rows.fnExactHostStepsRow.lifted==Go.Proofs.YtjlocpdfcanlhaaGreat.Tryz.pinned.checked.prog.liftsFinal))=true:=by kernel_rfl
theorem afP:((Go.Proofs.YtjlocpdfcanlhaaGreat.Tryz.pinned.checked.prog.make==some Go.Proofs.YtjlocpdfcanlhaaGreat.Rows.fnExactHostStepsRow.make))=true:=by kernel_rfl
theorem fnExactHostSteps_holds:Go.Proofs.YtjlocpdfcanlhaaGreat.Rows.FnExactHostStepsSaid:=
  OpenClaim.holds_of_wide 4 Tryz.f4 rfl rfl rfl rfl rfl rfl rfl ⟨rfl,rfl,rfl,rfl,rfl⟩ rfl rfl rfl rfl rfl (by kernel_rfl) Tryz.func4 (by unfold joinedFacts;exact(am (am (am (am (am (am (am (am (am (am (am (am (am (am (am (am (am (am (am (am (am (am (am (am (am (am (am (am (am (am (am (by kernel_rfl) afK) afQ) (by kernel_rfl)) (by kernel_rfl)) (by kernel_rfl)) afR) (by kernel_rfl)) afS) afG) afH) afI) afJ) (by kernel_rfl)) (by kernel_rfl)) (by kernel_rfl)) (by kernel_rfl)) (by kernel_rfl)) (by kernel_rfl)) (by kernel_rfl)) (by kernel_rfl)) (by kernel_rfl)) afL) (by kernel_rfl)) afM) afN) afO) afP) (by kernel_rfl)) (by kernel_rfl)) (by kernel_rfl)) (by kernel_rfl)))
    (of_decide_eq_true (by kernel_rfl)) (by unfold Func.isWrapper;first|(rw [if_pos (by decide+kernel)];kernel_rfl)|(rw [if_neg (by decide+kernel)];exact⟨rfl,rfl⟩))
    (fun os started H enc _=>agE os started H enc)
end Go.Proofs.YtjlocpdfcanlhaaGreat
