/- These theorems prove that each of the laws FnExactHostAct returns true at every input and leaves its arguments as they were. Conditions: none beyond those of the given statements. -/
import Derived.Test.YtkggcdhigchepaaGreatA9
import Derived.Test.YtkggcdhigchepaaGreatA1
import Derived.Test.YtkggcdhigchepaaGreatRows
import Derived.WalkKit
import Derived.ProofKit
import Derived.OpenShut
import Derived.KernelRfl
namespace Go.Proofs.YtkggcdhigchepaaGreat
open Go Go.ChangeShapes Go.WideShapes Go.ChangeAt Go.RowKit
set_option linter.unusedVariables false
set_option linter.unusedSimpArgs false
set_option maxRecDepth 100000
set_option maxHeartbeats 2000000
theorem eP:bX Tryz.prog 3 (Int):=F6 Tryz.underlying3 an
theorem uA:bX Tryz.prog 74 (List Int):=j5 Tryz.underlying74 an eP
theorem zv:bX Tryz.prog 22 (List (List Int)):=j5 Tryz.underlying22 an uA
theorem FL:bX Tryz.prog 235 (aw):=F4 (t0:=3) (t1:=3) Tryz.underlying235 an rfl eP eP
theorem qY:bX Tryz.prog 76 (List aw):=j5 Tryz.underlying76 an FL
theorem qX:bX Tryz.prog 4 (Bool):=F5 Tryz.underlying4 an
theorem zx:bX Tryz.prog 77 (List Bool):=j5 Tryz.underlying77 an qX
theorem FM:bX Tryz.prog 258 (bS):=F1 (t0:=3) (t1:=3) Tryz.underlying258 an rfl eP eP
theorem FE:bX Tryz.prog 220 (List bS):=j5 Tryz.underlying220 an FM
theorem FG:bX Tryz.prog 221 (cj):=FW (t0:=3) (t1:=3) (t2:=4) Tryz.underlying221 an rfl eP eP qX
theorem FH:bX Tryz.prog 222 (bn):=FY (t0:=3) (t1:=3) (t2:=4) (t3:=3) Tryz.underlying222 an rfl eP eP qX eP
theorem FI:bX Tryz.prog 224 (ai):=FZ (t0:=220) (t1:=3) (t2:=3) (t3:=76) (t4:=76) (t5:=221) (t6:=3) (t7:=222) (t8:=4) (t9:=74) Tryz.underlying224 an rfl FE eP eP qY qY FG eP FH qX uA
theorem FP:bX Tryz.prog 78 (List ai):=j5 Tryz.underlying78 an FI
theorem FJ:bX Tryz.prog 227 (a6):=F2 (t0:=77) (t1:=76) Tryz.underlying227 an rfl zx qY
theorem FQ:bX Tryz.prog 79 (List a6):=j5 Tryz.underlying79 an FJ
theorem FR:bX Tryz.prog 81 (ay):=F3 (t0:=76) (t1:=22) (t2:=77) (t3:=78) (t4:=74) (t5:=3) (t6:=3) (t7:=79) (t8:=3) Tryz.underlying81 an rfl qY zv zx FP uA eP eP FQ eP
theorem FK:bX Tryz.prog 23 (List ay):=j5 Tryz.underlying23 an FR
theorem FD:bX Tryz.prog 126 (aG):=FX (t0:=3) (t1:=3) (t2:=3) (t3:=3) Tryz.underlying126 an rfl eP eP eP eP
theorem zw:bX Tryz.prog 24 (List aG):=j5 Tryz.underlying24 an FD
theorem FN:bX Tryz.prog 26 (aa):=F0 (t0:=22) (t1:=23) (t2:=24) (t3:=24) Tryz.underlying26 an rfl zv FK zw zw
theorem FO:bX Tryz.prog 28 (eo):=FV (t0:=3) (t1:=3) (t2:=3) (t3:=3) (t4:=3) (t5:=3) Tryz.underlying28 an rfl eP eP eP eP eP eP
set_option maxRecDepth 100000 in
theorem Fl (os:Os) (started:os.Started) (H:Type) (enc:TypeId×Value->H):
    ReturnsInHanded {} Tryz.checked os 3 .any (Go.Proofs.YtkggcdhigchepaaGreat.Rows.fnExactHostActSpec.pre6 enc Tryz.prog Tryz.f3 Go.Proofs.YtkggcdhigchepaaGreat.Rows.fnExactHostActRow.domain false) (Go.Proofs.YtkggcdhigchepaaGreat.Rows.fnExactHostActSpec.post enc Tryz.prog Tryz.f3 false true false false):=by
  refine Go.returnsInHanded_of_change (C:=Tryz.checked) an started an Tryz.func3
    (ChangeSpec.witness6 (enc:=enc) (C:=Tryz.checked) false ⟨#[],#[.agg #[.slice none 0 0,.slice none 0 0,.slice none 0 0,.slice none 0 0],.agg #[.int .i64 0,.int .i64 0,.int .i64 0,.int .i64 0,.int .i64 0,.int .i64 0]],[]⟩ 8 an an an an) ?_
  intro W base args c9 gs before x_ xN Ih _;have tg:∀(j:Nat) t v,Tryz.f3.params[j]? =some t->args[j]? =some v->Value.okWide Tryz.prog W .any base t v:=x_;have s5:=xN;obtain⟨p,q,xM,EL,rfl,Im,Io⟩:=xN;have xL:DataW.TrodAll enc Tryz.prog W 0 (fun _=>true) true Tryz.f3.params.toList args.toList c9 p:=xM;rw [Tryz.params3] at xL tg;obtain⟨v0,Iv,d0,HV,Gh,Ir,Ig,rfl,rfl,h0,Gq⟩:=Go.ChangeShapes.trodAll_cons xL;obtain⟨v1,Iw,d1,HW,Gi,Is,rfl,rfl,rfl,h1,Gr⟩:=Go.ChangeShapes.trodAll_cons Gq;obtain⟨rfl,rfl,rfl⟩:=Go.ChangeShapes.trodAll_nil Gr;obtain rfl:args=#[v0,v1]:=by cases args;simp_all
  obtain⟨rfl,rfl⟩:=Go.ChangeShapes.trodVars_none EL;have kU:=s5.lt;have Fg:=h0;obtain⟨AW,Gn,rfl,A6⟩:=vu FN Tryz.underlying26 rfl (tg 0 26 v0 rfl rfl) h0;have lf:=h1;obtain⟨AX,Iq,rfl,A7⟩:=vu FO Tryz.underlying28 rfl (tg 1 28 v1 rfl rfl) h1;clear xM x_;simp only [List.append_nil] at s5 kU;refine Calls.mono (Cl W AW Gn A6 AX A7) fun e HT ⟨he,aA⟩=>?_;subst he;have hb:=aA.below;exact⟨_,rfl,Gm (pa:=Gh++(Gi++[])) (pv:=[]) s5 (fun _ _ _=>(trodAll_cons_mk (shut_bool Tryz.underlying4 _) Go.ChangeShapes.trodAll_mk0)) (fun sp x9=>(trodAll_cons_mk (WideElems.Trod_stays an an (of_decide_eq_true an) Fg (fun x hx=>hb.same (kU x (by simp [hx]))) (fun x hx=>x9 x (by simp [hx]))) (trodAll_cons_mk (WideElems.Trod_stays an an (of_decide_eq_true an) lf (fun x hx=>hb.same (kU x (by simp [hx]))) (fun x hx=>x9 x (by simp [hx]))) Go.ChangeShapes.trodAll_mk0))) (fun _ _=>rfl) aM
    hb (RowKit.ok_one an rfl (okWide_bool_mk Tryz.underlying4 _))⟩
theorem am {a b:Bool} (h:a=true) (ab:b=true):(a&&b)=true:=by rw [h,ab];rfl
theorem E7:(laidOutB Go.Proofs.YtkggcdhigchepaaGreat.Tryz.pinned.checked.prog)=true:=by kernel_rfl
theorem Fc:(mapsRowed Go.Proofs.YtkggcdhigchepaaGreat.Tryz.pinned.checked.prog)=true:=by kernel_rfl
theorem Fe:((Go.Proofs.YtkggcdhigchepaaGreat.Tryz.pinned.checked.prog.stops==[]))=true:=by kernel_rfl
theorem Ff:((Go.Proofs.YtkggcdhigchepaaGreat.Tryz.pinned.checked.prog.stopKnobs==[]))=true:=by kernel_rfl
theorem E3:((Go.Proofs.YtkggcdhigchepaaGreat.Rows.fnExactHostActRow.inPlace==Go.Proofs.YtkggcdhigchepaaGreat.Tryz.pinned.checked.prog.inPlace 3))=true:=by kernel_rfl
theorem E4:((Go.Proofs.YtkggcdhigchepaaGreat.Rows.fnExactHostActRow.unfollowed==Go.Proofs.YtkggcdhigchepaaGreat.Tryz.pinned.checked.prog.unfollowed 3))=true:=by kernel_rfl
theorem E5:((Go.Proofs.YtkggcdhigchepaaGreat.Rows.fnExactHostActRow.recurses==Go.Proofs.YtkggcdhigchepaaGreat.Tryz.pinned.checked.prog.recurses 3))=true:=by kernel_rfl
theorem E6:((Go.Proofs.YtkggcdhigchepaaGreat.Rows.fnExactHostActRow.named==Go.Proofs.YtkggcdhigchepaaGreat.Tryz.pinned.checked.prog.varsNamed 3))=true:=by kernel_rfl
theorem E8:((Go.Proofs.YtkggcdhigchepaaGreat.Rows.fnExactHostActRow.plainKeys==Go.Proofs.YtkggcdhigchepaaGreat.Tryz.pinned.checked.prog.plainKeys))=true:=by kernel_rfl
theorem E9:(Go.Proofs.YtkggcdhigchepaaGreat.Tryz.pinned.checked.prog.stopsHeard)=true:=by kernel_rfl
theorem E_:(Go.Proofs.YtkggcdhigchepaaGreat.Tryz.pinned.checked.prog.mayEnter)=true:=by kernel_rfl
theorem Fa:((Go.Proofs.YtkggcdhigchepaaGreat.Rows.fnExactHostActRow.lifted==Go.Proofs.YtkggcdhigchepaaGreat.Tryz.pinned.checked.prog.liftsFinal))=true:=by kernel_rfl
theorem Fb:((Go.Proofs.YtkggcdhigchepaaGreat.Tryz.pinned.checked.prog.make==some Go.Proofs.YtkggcdhigchepaaGreat.Rows.fnExactHostActRow.make))=true:=by kernel_rfl
theorem fnExactHostAct_holds:Go.Proofs.YtkggcdhigchepaaGreat.Rows.FnExactHostActSaid:=
  OpenClaim.holds_of_wide 3 Tryz.f3 rfl rfl rfl rfl rfl rfl rfl ⟨rfl,rfl,rfl,rfl,rfl⟩ rfl rfl rfl rfl rfl an Tryz.func3 (by unfold joinedFacts;exact(am (am (am (am (am (am (am (am (am (am (am (am (am (am (am (am (am (am (am (am (am (am (am (am (am (am (am (am (am (am (am an E7) Fc) an) an) an) Fe) an) Ff) E3) E4) E5) E6) an) an) an) an) an) an) an) an) an) E8) an) E9) E_) Fa) Fb) an) an) an) an))
    (of_decide_eq_true an) (by unfold Func.isWrapper;first|(rw [if_pos (by decide+kernel)];kernel_rfl)|(rw [if_neg (by decide+kernel)];exact⟨rfl,rfl⟩))
    (fun os started H enc _=>Fl os started H enc)
end Go.Proofs.YtkggcdhigchepaaGreat
