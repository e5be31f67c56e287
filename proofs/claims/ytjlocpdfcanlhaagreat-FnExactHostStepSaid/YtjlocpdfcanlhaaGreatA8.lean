/- The walks: what each function that the laws reach computes (part 4). -/
import Derived.Test.YtjlocpdfcanlhaaGreatA7
import Derived.Test.YtjlocpdfcanlhaaGreatProg
import Derived.KernelRfl
namespace Go.Proofs.YtjlocpdfcanlhaaGreat
open Go
set_option linter.unusedVariables false
set_option linter.unusedSimpArgs false
set_option maxRecDepth 100000
set_option maxHeartbeats 2000000
theorem Tj {p:Prop} (h:p:=by clear S;((have Js:k=(el h.I m.toNat).U.length:=(by omega));subst Js;subst fP;unfold mU;first|(rw [DI (by assumption),DI (by assumption)];done)|(rw [DH (by assumption),DH (by assumption)];done))):p:=h
theorem Hb (w0:World) (h:ah) (cQ:aC ah) (F:au) (a1:GT.own b7 F w0 [h] cQ) (eM:∀b,F b->b<w0.heap.size) (m:Int) (page:Int) (s:aQ) (hs:ea s) (ft:(0<=m/\m<h.I.length)/\(el h.I m.toNat).tables.length=(el h.I m.toNat).U.length):Calls Tryz.prog 211 [bg cQ.1.b (cQ.1.off+0*4),aa m,aa page,GT.val s ()].toArray w0 (sN ov F cQ w0 (packed []) (mU h m page s)):=by
 refine Calls.run F Tryz.func211 ?_
 intro ac β S
 have eb:ad w0 F w0 (fc w0.heap.size) F [h] cQ:=⟨a1,eM,fun b hb=> .inr hb⟩
 have hv:(el h.I m.toNat).U.length<=4194304:=af.le (aU.U (d:=(el h.I m.toNat)) (af.el (fs eb.ak) m.toNat (by omega)))
 refine S.go 28 (.cons (iO eb.ak (t:=28) (k:=0) (j:=1) (v:=R h.I.length (cQ.2 0).I.1) (Nat.succ_pos 0) (by kernel_rfl) (by kernel_rfl)) (.cons (cp (fs eb.ak) m Tryz.underlying28) (.cons (cz (fs eb.ak) 71 m.toNat 3 (R (el h.I m.toNat).U.length ((cQ.2 0).I.2 m.toNat).U.1)) .nil))) fun ac w β S=>?_
 refine dc (fun a5 ac w=>∃(k:Nat) (X:List aO) (gy:Nat->cb) (ec:_) (u:_) (N:_) (β:_),a5=(el h.I m.toNat).U.length-k/\(k<=(el h.I m.toNat).U.length)/\(X=h.I.set m.toNat {el h.I m.toNat with tables:=p4 (el h.I m.toNat).tables (el h.I m.toNat).U page k})/\aj Tryz.prog Tryz.f211.ntmps w0 F u N β ⟨[(0,.v (bg cQ.1.b (cQ.1.off+0*4))),(2,.v (aa page)),(7,.p 0 0),(8,.v (bg (cQ.2 0).I.1.b ((cQ.2 0).I.1.off+m.toNat*9))),(20,.v (aa ((el h.I m.toNat).U.length:Int))),(21,.v (aa (k:Int)))],[GT.cells s ()]⟩ ac w/\ad w0 F u N ec ([(⟨h.mem,X,h.buf,h.ag⟩:ah)]) ((cQ.1,gy):aC ah)/\(gy 0).I.1=(cQ.2 0).I.1) _ ⟨0,h.I,cQ.2,F,_,_,_,rfl,cv,(by exact y3.symm),S.z,eb,rfl⟩ ?_
 clear S eb
 rintro f6 a5 D3 ac w ⟨k,X,gy,ec,u,N,β,rfl,hk,fP,S,fW,lU⟩
 refine S.rs fun S=>?_
 obtain⟨hl,he⟩:=y4 fP (show m.toNat<h.I.length by omega) (FY _ _ _ _)
 refine S.aI 6 .nil (decide ((k:Int)<((el h.I m.toNat).U.length:Int))) (fun ac w β db fx S=>?_) (fun ac w β db fx S=>?_)
 ·refine S.go 11 .nil fun ac w β S=>?_
  refine dI ?_
  refine S.dP (f:=24) 23 (by kernel_rfl) (by kernel_rfl) fun w S=>?_
  refine S.hm 3 [0,1,2,3,4,5,6,7,8,9,10,11,12,13,14,15,16,17,18,19,20] [] [(27,.v (R (el X m.toNat).tables.length (((gy 0).I.2) m.toNat).tables.1)),(28,.v (aa (k:Int))),(35,.v (GT.val (el (el X m.toNat).tables k) ((((gy 0).I.2) m.toNat).tables.2 k))),(43,.v (R (el (el X m.toNat).U k).live.length ((((gy 0).I.2) m.toNat).U.2 k).live.1)),(44,.v (aa page))] (.cons (cz (hp lU (hf fW.ak)) 72 m.toNat 7 (R (el X m.toNat).tables.length (((gy 0).I.2) m.toNat).tables.1)) (.cons (cz (hp lU (hf fW.ak)) 72 m.toNat 7 (R (el X m.toNat).tables.length (((gy 0).I.2) m.toNat).tables.1)) (.cons (b6 (aU.tables (d:=(el X m.toNat)) (af.el (hp lU (hf fW.ak)) m.toNat (by omega))) k Tryz.underlying72) (.cons (dy (aU.tables (d:=(el X m.toNat)) (af.el (hp lU (hf fW.ak)) m.toNat (by omega))) 165 k) (.cons (cz (hp lU (hf fW.ak)) 71 m.toNat 3 (R (el X m.toNat).U.length (((gy 0).I.2) m.toNat).U.1)) (.cons (b6 (aU.U (d:=(el X m.toNat)) (af.el (hp lU (hf fW.ak)) m.toNat (by omega))) k Tryz.underlying71) (.cons (cz (aU.U (d:=(el X m.toNat)) (af.el (hp lU (hf fW.ak)) m.toNat (by omega))) 64 k 4 (R (el (el X m.toNat).U k).live.length ((((gy 0).I.2) m.toNat).U.2 k).live.1)) .nil))))))) fun ac S=>?_
  refine ar.one (i:=21) (by kernel_rfl) ?_
  refine id (S.dz 45 (Yg w (el (el X m.toNat).tables k) ((((gy 0).I.2) m.toNat).tables.2 k) (S.rd (af.el (aU.tables (d:=(el X m.toNat)) (af.el (hp lU (hf fW.ak)) m.toNat (by omega))) k (by omega))) (el (el X m.toNat).U k).live ((((gy 0).I.2) m.toNat).U.2 k).live (S.rd (az.live (d:=(el (el X m.toNat).U k)) (af.el (aU.U (d:=(el X m.toNat)) (af.el (hp lU (hf fW.ak)) m.toNat (by omega))) k (by omega)))) page) fun ac w N fY e3 S up bG d13=>?_)
  refine ar.next S up (by kernel_rfl) ?_
  have d14:=J.w d13 fW.sub
  replace fW:=fW.up up
  clear up d13
  refine S.a9 22 [22] [] [(46,.v (bg (((gy 0).I.2) m.toNat).tables.1.b ((((gy 0).I.2) m.toNat).tables.1.off+k*2)))] (.cons (b6 (aU.tables (d:=(el X m.toNat)) (af.el (hp lU (hf fW.ak)) m.toNat (by omega))) k Tryz.underlying72) .nil) fun ac S=>?_
  refine ar.one (i:=23) (by kernel_rfl) ?_
  obtain⟨pK,gE,B7,Oz⟩:=rU fW (fun _ o=>Q2 o (k:=m.toNat) (show m.toNat<X.length by omega))
  change ad w0 F _ _ pK (el X m.toNat).tables (((gy 0).I.2) m.toNat).tables at gE
  have EG:=af.le gE.ak
  have K9:=gE.sub
  refine id (S.kO (α:=bQ) gE (t:=165) (k:=k) (off:=(((gy 0).I.2) m.toNat).tables.1.off+k*2) bG (J.symm (J.symm (J.part d14 B7))) fun w N fD e2 S up fU d24 ajx La=>?_)
  refine ar.last (by kernel_rfl) ?_
  clear d24 gE
  obtain⟨Md,fC,SI⟩:=Oz _ _ _ _ _ e3 up fU ajx d14 List.length_set La
  obtain⟨Oj,RJ⟩:∃z,z=X.set m.toNat {el X m.toNat with tables:=((el X m.toNat).tables.set k (nD (el (el X m.toNat).tables k) (el (el X m.toNat).U k).live page))}:=⟨_,rfl⟩
  have lY:ad w0 F w N (Or ec fD) [(⟨h.mem,Oj,h.buf,h.ag⟩:ah)] ((cQ.1,Md):aC ah):=by rw [RJ];exact fC
  obtain⟨afM,amE⟩:=y4 RJ (show m.toNat<X.length by omega) List.length_set
  change (Md 0).I.1=(gy 0).I.1 at SI
  clear up fU La fC
  refine ar.done (by kernel_rfl) ?_ _
  refine S.ex fun S=>?_
  refine S.ge 6 (.cons (cg (k:Int) 1) .nil) f6 fun ac w β S=>D3.of ((el h.I m.toNat).U.length-(k+1)) _ _ (by omega) ⟨k+1,Oj,Md,(Or ec fD),_,_,_,rfl,?_,?_,S.z,lY,(SI.trans lU)⟩
  ·exact cO
  ·clear S;(subst_vars;rw [List.set_set];simp only [dS (show m.toNat<h.I.length by omega),p4,VT _ _ _ (Nat.le_refl _)])
 refine S.aI 13 .nil (s.page != (-1)) (fun ac w β x5 xQ S=>?_) (fun ac w β x5 xQ S=>?_)
 ·refine S.go 2 .nil fun ac w β S=>?_
  refine dI ?_
  refine S.dP (f:=11) 10 (by kernel_rfl) (by kernel_rfl) fun w S=>?_
  refine S.hm 4 [0,1,2,3,4,5,6] [] [(51,.v (bg cQ.1.b (cQ.1.off+0*4))),(55,.v (R h.buf.length (gy 0).buf.1)),(57,.v (aa s.page))] (.cons (iO fW.ak (t:=29) (k:=0) (j:=2) (v:=R h.buf.length (gy 0).buf.1) (Nat.succ_pos 0) (by kernel_rfl) (by kernel_rfl)) .nil) fun ac S=>?_
  refine ar.one (i:=7) (by kernel_rfl) ?_
  refine id (S.dz 58 (O5 w h.buf (gy 0).buf (S.rd (P5 fW.ak)) s.page (ea.page (d:=s) hs)) fun ac w N lu wW S up kc d41=>?_)
  refine ar.next S up (by kernel_rfl) ?_
  have d42:=J.w d41 fW.sub
  replace fW:=fW.up up
  clear up d41
  refine S.a9 8 [9,8] [] [(59,.v (bg cQ.1.b (cQ.1.off+0*4)))] .nil fun ac S=>?_
  refine S.a9 9 [9] [] [(60,.v (bg cQ.1.b (cQ.1.off+0*4+2)))] .nil fun ac S=>?_
  refine ar.one (i:=10) (by kernel_rfl) ?_
  refine id (S.qt (α:=ah) fW (t:=29) (v:=R (g3 h.buf s.page).length lu.1) (k:=0) (j:=2) (off:=cQ.1.off+0*4+2) (y:=(⟨h.mem,X,(g3 h.buf s.page),h.ag⟩:ah)) (q:=({(gy 0) with buf:=lu}:cb)) (Fy:=wW) (by kernel_rfl) (by kernel_rfl) (Nat.succ_pos 0) (by kernel_rfl) (by kernel_rfl) (Nat.le_of_ble_eq_true (by kernel_rfl)) (by kernel_rfl) (fun G fk p7=>⟨_,L2 fk kc.own (fun b h an=>d42 b (p7 b h) an),fun _ h=>h⟩) d42 kc.sub kc.dJ fun w N lE S up k2 d46 Nj agQ=>?_)
  refine ar.last (by kernel_rfl) ?_
  obtain⟨rh,hS,aeN⟩:∃rh:Nat->cb,ad w0 F _ _ lE [(⟨h.mem,X,(g3 h.buf s.page),h.ag⟩:ah)] ((cQ.1,rh):aC ah)/\(rh 0).I.1=(gy 0).I.1:=⟨_,k2,rfl⟩
  clear up d46 fW k2 Nj agQ
  refine ar.done (by kernel_rfl) ?_ _
  refine S.ex fun S=>?_
  refine S.go 1 .nil fun ac w β S=>?_
  refine dI ?_
  refine S.dP (f:=11) 10 (by kernel_rfl) (by kernel_rfl) fun w S=>?_
  refine S.hm 4 [0,1,2,3,4,5,6] [] [(61,.v (bg cQ.1.b (cQ.1.off+0*4))),(65,.v (R h.ag.length (rh 0).ag.1)),(67,.v (aa s.page))] (.cons (iO hS.ak (t:=29) (k:=0) (j:=3) (v:=R h.ag.length (rh 0).ag.1) (Nat.succ_pos 0) (by kernel_rfl) (by kernel_rfl)) .nil) fun ac S=>?_
  refine ar.one (i:=7) (by kernel_rfl) ?_
  refine id (S.dz 68 (O5 w h.ag (rh 0).ag (S.rd (Z8 hS.ak)) s.page (ea.page (d:=s) hs)) fun ac w N Vo sL S up q8 d54=>?_)
  refine ar.next S up (by kernel_rfl) ?_
  have d55:=J.w d54 hS.sub
  replace hS:=hS.up up
  clear up d54
  refine S.a9 8 [9,8] [] [(69,.v (bg cQ.1.b (cQ.1.off+0*4)))] .nil fun ac S=>?_
  refine S.a9 9 [9] [] [(70,.v (bg cQ.1.b (cQ.1.off+0*4+3)))] .nil fun ac S=>?_
  refine ar.one (i:=10) (by kernel_rfl) ?_
  refine id (S.qt (α:=ah) hS (t:=29) (v:=R (g3 h.ag s.page).length Vo.1) (k:=0) (j:=3) (off:=cQ.1.off+0*4+3) (y:=(⟨h.mem,X,(g3 h.buf s.page),(g3 h.ag s.page)⟩:ah)) (q:=({(rh 0) with ag:=Vo}:cb)) (Fy:=sL) (by kernel_rfl) (by kernel_rfl) (Nat.succ_pos 0) (by kernel_rfl) (by kernel_rfl) (Nat.le_of_ble_eq_true (by kernel_rfl)) (by kernel_rfl) (fun G fk p7=>⟨_,aia fk q8.own (fun b h an=>d55 b (p7 b h) an),fun _ h=>h⟩) d55 q8.sub q8.dJ fun w N wX S up kI d59 Nl agS=>?_)
  refine ar.last (by kernel_rfl) ?_
  obtain⟨MT,BE,aeO⟩:∃MT:Nat->cb,ad w0 F _ _ wX [(⟨h.mem,X,(g3 h.buf s.page),(g3 h.ag s.page)⟩:ah)] ((cQ.1,MT):aC ah)/\(MT 0).I.1=(rh 0).I.1:=⟨_,kI,rfl⟩
  clear up d59 hS kI Nl agS
  refine ar.done (by kernel_rfl) ?_ _
  refine S.ex fun S=>?_
  refine S.bq 0 .nil [] fun ac w β S=>?_
  exact tS S (show mU h m page s=(⟨h.mem,X,(g3 h.buf s.page),(g3 h.ag s.page)⟩:ah) from Tj) (show ov _ _ from(aeO.trans (aeN.trans lU))) BE
 refine S.bq 2 .nil [] fun ac w β S=>?_
 exact tS S (show mU h m page s=(⟨h.mem,X,h.buf,h.ag⟩:ah) from Tj) (show ov _ _ from lU) fW
theorem YC (w0:World) (h:ah) (cQ:aC ah) (F:au) (a1:GT.own b7 F w0 [h] cQ) (eM:∀b,F b->b<w0.heap.size) (m:Int) (page:Int) (ft:(0<=m/\m<h.I.length)/\(el h.I m.toNat).tables.length=(el h.I m.toNat).U.length/\(0<=page/\page<=7)/\(el h.I m.toNat).outer.length=8/\(el h.I m.toNat).out.length=8):Calls Tryz.prog 209 [bg cQ.1.b (cQ.1.off+0*4),aa m,aa page].toArray w0 (sN ov F cQ w0 (packed []) (iu h m page)):=by
 refine Calls.run F Tryz.func209 ?_
 intro ac β S
 have eb:ad w0 F w0 (fc w0.heap.size) F [h] cQ:=⟨a1,eM,fun b hb=> .inr hb⟩
 refine S.go 25 (.cons (iO eb.ak (t:=28) (k:=0) (j:=1) (v:=R h.I.length (cQ.2 0).I.1) (Nat.succ_pos 0) (by kernel_rfl) (by kernel_rfl)) (.cons (cp (fs eb.ak) m Tryz.underlying28) (.cons (cz (fs eb.ak) 64 m.toNat 0 (R (el h.I m.toNat).outer.length ((cQ.2 0).I.2 m.toNat).outer.1)) (.cons (cp (aU.outer (d:=(el h.I m.toNat)) (af.el (fs eb.ak) m.toNat (by omega))) page Tryz.underlying64) (.cons (dy (aU.outer (d:=(el h.I m.toNat)) (af.el (fs eb.ak) m.toNat (by omega))) 111 page.toNat) .nil))))) fun ac w β S=>?_
 refine dI ?_
 refine S.dP (f:=14) 13 (by kernel_rfl) (by kernel_rfl) fun w S=>?_
 refine S.hm 3 [0,1,2,3,4,5,6,7,8,9,10] [] [(24,.v (R (el h.I m.toNat).out.length ((cQ.2 0).I.2 m.toNat).out.1)),(25,.v (aa page)),(29,.v (R h.mem.length (cQ.2 0).mem.1)),(31,.v (aa (el (el h.I m.toNat).outer page.toNat).page))] (.cons (cz (fs eb.ak) 22 m.toNat 1 (R (el h.I m.toNat).out.length ((cQ.2 0).I.2 m.toNat).out.1)) (.cons (iO eb.ak (t:=22) (k:=0) (j:=0) (v:=R h.mem.length (cQ.2 0).mem.1) (Nat.succ_pos 0) (by kernel_rfl) (by kernel_rfl)) .nil)) fun ac S=>?_
 refine ar.one (i:=11) (by kernel_rfl) ?_
 refine id (S.dz 32 (G8 w h.mem (cQ.2 0).mem (S.rd (P6 eb.ak)) (el (el h.I m.toNat).outer page.toNat).page) fun ac w N ae br S up aD d4=>?_)
 refine ar.next S up (by kernel_rfl) ?_
 have d5:=J.w d4 eb.sub
 replace eb:=eb.up up
 clear up d4
 refine S.a9 12 [12] [] [(33,.v (bg ((cQ.2 0).I.2 m.toNat).out.1.b (((cQ.2 0).I.2 m.toNat).out.1.off+page.toNat*1)))] (.cons (cp (aU.out (d:=(el h.I m.toNat)) (af.el (fs eb.ak) m.toNat (by omega))) page Tryz.underlying22) .nil) fun ac S=>?_
 refine ar.one (i:=13) (by kernel_rfl) ?_
 obtain⟨cW,ao,ajL,ux⟩:=rU eb (fun _ o=>Q1 o (k:=m.toNat) (show m.toNat<h.I.length by omega))
 change ad w0 F _ _ cW (el h.I m.toNat).out ((cQ.2 0).I.2 m.toNat).out at ao
 have aoz:=af.le ao.ak
 have apy:=ao.sub
 refine id (S.kO (α:=List Int) ao (t:=38) (k:=page.toNat) (off:=((cQ.2 0).I.2 m.toNat).out.1.off+page.toNat*1) aD (J.symm (J.symm (J.part d5 ajL))) fun w N gb nW S up bG d15 Nb tx=>?_)
 refine ar.last (by kernel_rfl) ?_
 clear d15 ao
 obtain⟨sv,iD,Ec⟩:=ux _ _ _ _ _ br up bG Nb d5 List.length_set tx
 obtain⟨pO,RG⟩:∃z,z=h.I.set m.toNat {el h.I m.toNat with out:=((el h.I m.toNat).out.set page.toNat (hg h.mem (el (el h.I m.toNat).outer page.toNat).page))}:=⟨_,rfl⟩
 have fh:ad w0 F w N (Or F gb) [(⟨h.mem,pO,h.buf,h.ag⟩:ah)] ((cQ.1,sv):aC ah):=by rw [RG];exact iD
 obtain⟨KO,sZ⟩:=FQ RG (show m.toNat<h.I.length by omega) List.length_set
 change (sv 0).I.1=(cQ.2 0).I.1 at Ec
 clear up bG tx iD
 refine ar.done (by kernel_rfl) ?_ _
 refine S.ex fun S=>?_
 refine S.go 2 .nil fun ac w β S=>?_
 refine dI ?_
 refine S.dP (f:=8) 7 (by kernel_rfl) (by kernel_rfl) fun w S=>?_
 refine S.hm 3 [0,1,2,3,4] [] [(37,.v (R (el pO m.toNat).outer.length (((sv 0).I.2) m.toNat).outer.1)),(38,.v (aa page))] (.cons (cz (hp Ec (hf fh.ak)) 64 m.toNat 0 (R (el pO m.toNat).outer.length (((sv 0).I.2) m.toNat).outer.1)) .nil) fun ac S=>?_
 refine S.iI 5 [] [(39,.v (GT.val (⟨-1,0⟩:aQ) ()))] 1 [] (.cons (aE fun w hw=>ny w) .nil) fun ac w β S=>?_
 refine S.a9 6 [6] [] [(40,.v (bg (((sv 0).I.2) m.toNat).outer.1.b ((((sv 0).I.2) m.toNat).outer.1.off+page.toNat*2)))] (.cons (cp (aU.outer (d:=(el pO m.toNat)) (af.el (hp Ec (hf fh.ak)) m.toNat (by omega))) page Tryz.underlying64) .nil) fun ac S=>?_
 refine ar.one (i:=7) (by kernel_rfl) ?_
 obtain⟨uh,fC,_,OB⟩:=rU fh (fun _ o=>Ig o (k:=m.toNat) (show m.toNat<pO.length by omega))
 change ad w0 F _ _ uh (el pO m.toNat).outer (((sv 0).I.2) m.toNat).outer at fC
 have ao6:=af.le fC.ak
 have v3:=fC.sub
 have amD:ea (el (el pO m.toNat).outer page.toNat):=(af.el fC.ak page.toNat (by omega))
 refine id (S.y1 (α:=aQ) fC (t:=111) (k:=page.toNat) (j:=0) (off:=(((sv 0).I.2) m.toNat).outer.1.off+page.toNat*2) (v:=GT.val (⟨-1,0⟩:aQ) ()) (y:=(⟨-1,0⟩:aQ)) (q:=()) (fun _ _ _=>⟨ab,(show ea ⟨-1,0⟩ from⟨⟨by decide,by decide⟩,⟨by decide,by decide⟩⟩),fun _ h=>False.elim h⟩) fun w N n2 BQ S up ie d37 Cg Bh=>?_)
 refine ar.last (by kernel_rfl) ?_
 clear d37 fC
 obtain⟨Fp,qk,SK⟩:=OB _ _ _ _ _ ab up ie Cg (fun b _ h=>False.elim h) List.length_set Bh
 obtain⟨GY,RL⟩:∃z,z=pO.set m.toNat {el pO m.toNat with outer:=((el pO m.toNat).outer.set page.toNat (⟨-1,0⟩:aQ))}:=⟨_,rfl⟩
 have ql:ad w0 F w N (Or (Or F gb) n2) [(⟨h.mem,GY,h.buf,h.ag⟩:ah)] ((cQ.1,Fp):aC ah):=by rw [RL];exact qk
 obtain⟨TK,amG⟩:=Cn RL (show m.toNat<pO.length by omega) List.length_set
 change (Fp 0).I.1=(sv 0).I.1 at SK
 clear up ie Bh qk
 refine ar.done (by kernel_rfl) ?_ _
 refine S.ex fun S=>?_
 refine S.go 6 .nil fun ac w β S=>S.uq (d:=45) ql (Hb w (⟨h.mem,GY,h.buf,h.ag⟩:ah) ((cQ.1,Fp):aC ah) (Or (Or F gb) n2) (S.fX ql) (fun b hb=>(S.sep b (ql.sub b hb)).1) m page (el (el h.I m.toNat).outer page.toNat) (af.el (aU.outer (d:=(el h.I m.toNat)) (af.el (fs eb.ak) m.toNat (by omega))) page.toNat (by omega)) (by(first|omega|(dsimp only;omega)))) fun ac w N UX qz S up g6 d53 SL=>?_
 change (UX 0).I.1=(Fp 0).I.1 at SL
 clear up d53 ql
 obtain⟨On,RV⟩:∃z,z=(mU (⟨h.mem,GY,h.buf,h.ag⟩:ah) m page (el (el h.I m.toNat).outer page.toNat)):=⟨_,rfl⟩
 have kI:ad w0 F w N qz [On] ((cQ.1,UX):aC ah):=by rw [RV];exact g6
 clear g6
 have afR:=J4 RV (by first|omega|(dsimp only;omega))
 try dsimp only at afR
 refine S.bq 1 .nil [] fun ac w β S=>?_
 exact tS S (show iu h m page=On by clear S;(first|(subst_vars;rfl)|(subst_vars;simp [iu,j9,gK,mU,dS, *];done))) (show ov _ _ from(SL.trans (SK.trans Ec))) kI
theorem YD (w0:World) (h:ah) (cQ:aC ah) (F:au) (a1:GT.own b7 F w0 [h] cQ) (eM:∀b,F b->b<w0.heap.size) (ft:eD h=true) (gP:¬0<(eg h).length):Calls Tryz.prog 295 [bg cQ.1.b (cQ.1.off+0*4)].toArray w0 (sN ov F cQ w0 (packed []) (xJ h)):=by
 refine Calls.run F Tryz.func295 ?_
 intro ac β S
 have eb:ad w0 F w0 (fc w0.heap.size) F [h] cQ:=⟨a1,eM,fun b hb=> .inr hb⟩
 have vO:=No (h:=h) (by assumption) (by assumption)
 refine S.go 17 (.cons (rB eb.ak (t:=31) (k:=0) (Nat.succ_pos 0) rfl (by kernel_rfl) (by kernel_rfl)) (.cons (aE fun w hw=>Pe w h (cQ.2 0) (bN (show GT.rd b7 _ _ h (cQ.2 0) from af.el eb.ak 0 (Nat.succ_pos 0)) hw) 0) .nil)) fun ac w β S=>S.uq (d:=14) eb (YC w h cQ F (S.fX eb) (fun b hb=>(S.sep b (eb.sub b hb)).1) (dX h 0).1 (dX h 0).2 (by(first|omega|(dsimp only;omega)))) fun ac w N lq br S up aD d5 SJ=>?_
 change (lq 0).I.1=(cQ.2 0).I.1 at SJ
 clear up d5 eb
 obtain⟨Oo,adQ⟩:∃z,z=(iu h (dX h 0).1 (dX h 0).2):=⟨_,rfl⟩
 have bP:ad w0 F w N br [Oo] ((cQ.1,lq):aC ah):=by rw [adQ];exact aD
 clear aD
 refine S.bq 1 .nil [] fun ac w β S=>?_
 exact tS S (show xJ h=Oo by clear S;(subst_vars;rfl)) (show ov _ _ from SJ) bP
theorem Kc {p:Prop} (h:p:=by clear S;(unfold js;(repeat' split)<;>first|rfl|(simp;done)|(exfalso;omega)|(exfalso;simp_all;done)|(exfalso;simp_all;omega))):p:=h
theorem Yw (w0:World) (m:List (List Int)) (pm:aC (List Int)) (hm:bT w0 m pm) (page:Int) (cells:List Int) (l5:aC Int) (ml:bT w0 cells l5):Calls Tryz.prog 296 [R m.length pm.1,aa page,R cells.length l5.1].toArray w0 (dw ab w0 (js m page cells:List (List Int))):=by
 refine Calls.run ab Tryz.func296 ?_
 intro ac β S
 have qW:m.length<=4194304:=af.le hm
 have Jx:cells.length<=4194304:=af.le ml
 refine S.go 8 .nil fun ac w β S=>S.cN (r:=m) (d:=9) (o4 w m pm (S.rd (S.arg hm))) fun ac w N ae br S up aD d4=>?_
 clear up d4
 refine S.bb 11 (.cons (aE fun w hw=>jo w page (m.length:Int) (by omega)) .nil) (a3 page 0 ((m.length:Int)-1)) (fun ac w β bl S=>?_) (fun ac w β bl S=>?_)
 ·have c7:=cU bl
  refine S.bb 5 (.cons (aE fun w hw=>G9 w cells l5 (bN (S.arg ml) hw)) .nil) (hh cells) (fun ac w β cD S=>?_) (fun ac w β cD S=>?_)
  ·refine S.go 5 .nil fun ac w β S=>S.cN (r:=cells) (d:=21) (xe w cells l5 (S.rd (S.arg ml))) fun ac w N bX bU S up m9 d11=>?_
   have d12:=J.w d11 aD.sub
   replace aD:=aD.up up
   clear up d11
   refine S.go 1 (.cons (cp aD.ak page Tryz.underlying22) .nil) fun ac w β S=>S.eJ (α:=List Int) aD (t:=38) (k:=page.toNat) (off:=ae.1.off+page.toNat*1) m9 d12 fun w N fL nj S up ju d16 B7 vZ=>?_
   clear up d16 aD vZ
   have EG:(m.set page.toNat cells).length=m.length:=List.length_set
   refine S.bq 9 .nil [R m.length ae.1] fun ac w β S=>?_
   exact cx S (show js m page cells=(m.set page.toNat cells) from Kc) (by rw [show m.length=(m.set page.toNat cells).length from(by rw [List.length_set])];rfl) ju
  refine S.bq 10 .nil [R m.length ae.1] fun ac w β S=>?_
  exact cx S (show js m page cells=m from Kc) rfl aD
 have p5:=dm bl
 refine S.bq 15 .nil [R m.length ae.1] fun ac w β S=>?_
 exact cx S (show js m page cells=m from Kc) rfl aD
theorem Yy (w0:World) (h:ah) (cQ:aC ah) (F:au) (a1:GT.own b7 F w0 [h] cQ) (eM:∀b,F b->b<w0.heap.size) (m:Int) (page:Int) (ft:fJ h m page=true):Calls Tryz.prog 210 [bg cQ.1.b (cQ.1.off+0*4),aa m,aa page].toArray w0 (sN ov F cQ w0 (packed []) (ld h m page)):=by
 refine Calls.run F Tryz.func210 ?_
 intro ac β S
 have eb:ad w0 F w0 (fc w0.heap.size) F [h] cQ:=⟨a1,eM,fun b hb=> .inr hb⟩
 have bD:=pj (h:=h) (m:=m) (page:=page) (by assumption)
 refine S.go 6 (.cons (rB eb.ak (t:=31) (k:=0) (Nat.succ_pos 0) rfl (by kernel_rfl) (by kernel_rfl)) .nil) fun ac w β S=>S.cN (r:=eg h) (d:=12) (O7 w h (cQ.2 0) (S.rd (show GT.rd b7 _ _ h (cQ.2 0) from af.el eb.ak 0 (Nat.succ_pos 0)))) fun ac w N ae br S up aD d4=>?_
 replace eb:=eb.up up
 clear up d4
 refine S.go 4 .nil fun ac w β S=>?_
 refine il S (fun ac w=>∃(bp:ah) (kh:Nat->cb) (e5:au) (u:_) (N:_) (β:_),(bp=j8 h)/\(kh 0).I.1=(cQ.2 0).I.1/\aj Tryz.prog Tryz.f210.ntmps w0 F u N β ⟨[(0,.v (bg cQ.1.b (cQ.1.off+0*4))),(1,.v (aa m)),(2,.v (aa page))],[]⟩ ac w/\ad w0 F u N e5 ([bp]) ((cQ.1,kh):aC ah)) ?_ ?_
 ·clear S;intro S
  refine S.aI 0 .nil (((eg h).length:Int)==0) (fun ac w β c3 dY S=>?_) (fun ac w β c3 dY S=>?_)
  ·refine S.go 3 .nil fun ac w β S=>S.uq (d:=16) eb (YD w h cQ F (S.fX eb) (fun b hb=>(S.sep b (eb.sub b hb)).1) (by(first|assumption|exact r1 (by assumption)|omega|(dsimp only;omega))) (by(first|assumption|exact r1 (by assumption)|omega|(dsimp only;omega)))) fun ac w N Mc gb S up c4 d16 SH=>?_
   change (Mc 0).I.1=(cQ.2 0).I.1 at SH
   clear up d16 eb
   obtain⟨Om,RU⟩:∃z,z=(xJ h):=⟨_,rfl⟩
   have iD:ad w0 F w N gb [Om] ((cQ.1,Mc):aC ah):=by rw [RU];exact c4
   clear c4
   have afE:=VD RU (r1 (by assumption)) (by omega) m.toNat
   try dsimp only at afE
   exact S.dF 1 .nil fun ac w β S=>⟨rfl,Om,Mc,gb,_,_,_,(by clear S;first|exact FH (by assumption) (by omega)|exact FG (by omega)),SH,S.z,iD⟩
  exact S.dF 2 .nil fun ac w β S=>⟨rfl,h,cQ.2,F,_,_,_,(by clear S;first|exact FH (by assumption) (by omega)|exact FG (by omega)),rfl,S.z,eb⟩
 clear S eb aD
 rintro ac w ⟨bp,kh,e5,u,N,β,kB,aeP,S,bP⟩
 have bn:=Vx kB (by assumption)
 refine S.ex fun S=>?_
 refine S.go 17 (.cons (iO bP.ak (t:=28) (k:=0) (j:=1) (v:=R bp.I.length (kh 0).I.1) (Nat.succ_pos 0) (by kernel_rfl) (by kernel_rfl)) (.cons (cp (fs bP.ak) m Tryz.underlying28) (.cons (rB bP.ak (t:=31) (k:=0) (Nat.succ_pos 0) rfl (by kernel_rfl) (by kernel_rfl)) .nil))) fun ac w β S=>S.cN (r:=eg bp) (d:=26) (O7 w bp (kh 0) (S.rd (show GT.rd b7 _ _ bp (kh 0) from af.el bP.ak 0 (Nat.succ_pos 0)))) fun ac w N dd fD S up ba d24=>?_
 replace bP:=bP.up up
 clear up d24
 have i26:a_ (el (eg bp) 0):=(af.el ba.ak 0 (by omega))
 refine S.go 6 (.cons (b6 ba.ak 0 Tryz.underlying38) (.cons (cj ba.ak 3 0) .nil)) fun ac w β S=>?_
 refine dI ?_
 refine S.dP (f:=17) 16 (by kernel_rfl) (by kernel_rfl) fun w S=>?_
 refine S.hm 4 [0,1,2,3,4,5,6,7,8,9,10,11,12] [] [(29,.v (bg cQ.1.b (cQ.1.off+0*4))),(33,.v (R bp.mem.length (kh 0).mem.1)),(34,.v (aa (el (eg bp) 0))),(41,.v (R (el (el bp.I m.toNat).out page.toNat).length (((kh 0).I.2 m.toNat).out.2 page.toNat).1))] (.cons (iO bP.ak (t:=22) (k:=0) (j:=0) (v:=R bp.mem.length (kh 0).mem.1) (Nat.succ_pos 0) (by kernel_rfl) (by kernel_rfl)) (.cons (cz (fs bP.ak) 22 m.toNat 1 (R (el bp.I m.toNat).out.length ((kh 0).I.2 m.toNat).out.1)) (.cons (cp (aU.out (d:=(el bp.I m.toNat)) (af.el (fs bP.ak) m.toNat (by omega))) page Tryz.underlying22) (.cons (cj (aU.out (d:=(el bp.I m.toNat)) (af.el (fs bP.ak) m.toNat (by omega))) 38 page.toNat) .nil)))) fun ac S=>?_
 refine ar.one (i:=13) (by kernel_rfl) ?_
 refine id (S.dz 42 (Yw w bp.mem (kh 0).mem (S.rd (P6 bP.ak)) (el (eg bp) 0) (el (el bp.I m.toNat).out page.toNat) (((kh 0).I.2 m.toNat).out.2 page.toNat) (S.rd (af.el (aU.out (d:=(el bp.I m.toNat)) (af.el (fs bP.ak) m.toNat (by omega))) page.toNat (by omega)))) fun ac w N eZ n1 S up kb d30=>?_)
 refine ar.next S up (by kernel_rfl) ?_
 have d31:=J.w d30 bP.sub
 replace bP:=bP.up up
 clear up d30
 refine S.a9 14 [15,14] [] [(43,.v (bg cQ.1.b (cQ.1.off+0*4)))] .nil fun ac S=>?_
 refine S.a9 15 [15] [] [(44,.v (bg cQ.1.b (cQ.1.off+0*4)))] .nil fun ac S=>?_
 refine ar.one (i:=16) (by kernel_rfl) ?_
 refine id (S.qt (α:=ah) bP (t:=22) (v:=R (js bp.mem (el (eg bp) 0) (el (el bp.I m.toNat).out page.toNat)).length eZ.1) (k:=0) (j:=0) (off:=cQ.1.off+0*4) (y:=(⟨(js bp.mem (el (eg bp) 0) (el (el bp.I m.toNat).out page.toNat)),bp.I,bp.buf,bp.ag⟩:ah)) (q:=({(kh 0) with mem:=eZ}:cb)) (Fy:=n1) (by kernel_rfl) (by kernel_rfl) (Nat.succ_pos 0) (by kernel_rfl) (by kernel_rfl) (Nat.le_of_ble_eq_true (by kernel_rfl)) (by kernel_rfl) (fun G fk p7=>⟨_,aib fk kb.own (fun b h an=>d31 b (p7 b h) an),fun _ h=>h⟩) d31 kb.sub kb.dJ fun w N qy S up fV d35 Nh Lb=>?_)
 refine ar.last (by kernel_rfl) ?_
 obtain⟨l7,lp,sb⟩:∃l7:Nat->cb,ad w0 F _ _ qy [(⟨(js bp.mem (el (eg bp) 0) (el (el bp.I m.toNat).out page.toNat)),bp.I,bp.buf,bp.ag⟩:ah)] ((cQ.1,l7):aC ah)/\(l7 0).I.1=(kh 0).I.1:=⟨_,fV,rfl⟩
 clear up d35 bP fV Nh Lb
 refine ar.done (by kernel_rfl) ?_ _
 refine S.ex fun S=>?_
 refine S.go 8 (.cons (cz (hp sb (hf lp.ak)) 22 m.toNat 1 (R (el bp.I m.toNat).out.length (((l7 0).I.2) m.toNat).out.1)) .nil) fun ac w β S=>S.gR (α:=Int) (d:=50) fun ac w N Fz n3 S up kd d43=>?_
 have d44:=J.w d43 lp.sub
 replace lp:=lp.up up
 clear up d43
 obtain⟨WA,nR,Nj,XA⟩:=rU lp (fun _ o=>Q1 o (k:=m.toNat) (show m.toNat<bp.I.length by omega))
 change ad w0 F _ _ WA (el bp.I m.toNat).out (((l7 0).I.2) m.toNat).out at nR
 have apg:=af.le nR.ak
 have T6:=nR.sub
 refine S.go 1 (.cons (cp (aU.out (d:=(el bp.I m.toNat)) (af.el (hp sb (hf lp.ak)) m.toNat (by omega))) page Tryz.underlying22) .nil) fun ac w β S=>S.eJ (α:=List Int) nR (t:=38) (k:=page.toNat) (off:=(((l7 0).I.2) m.toNat).out.1.off+page.toNat*1) kd (J.symm (J.symm (J.part d44 Nj))) fun w N sL BW S up g6 d54 Nk Bk=>?_
 clear d54 nR
 obtain⟨nh,eu,qc⟩:=XA _ _ _ _ _ n3 up g6 Nk d44 List.length_set Bk
 obtain⟨kt,Az⟩:∃z,z=bp.I.set m.toNat {el bp.I m.toNat with out:=((el bp.I m.toNat).out.set page.toNat ([]:List Int))}:=⟨_,rfl⟩
 have ez:ad w0 F w N (Or qy sL) [(⟨(js bp.mem (el (eg bp) 0) (el (el bp.I m.toNat).out page.toNat)),kt,bp.buf,bp.ag⟩:ah)] ((cQ.1,nh):aC ah):=by rw [Az];exact eu
 obtain⟨afS,Du⟩:=FQ Az (show m.toNat<bp.I.length by omega) List.length_set
 change (nh 0).I.1=(l7 0).I.1 at qc
 clear up g6 Bk eu
 obtain⟨WD,so,_,XD⟩:=rU ez (fun _ o=>Ig o (k:=m.toNat) (show m.toNat<kt.length by omega))
 change ad w0 F _ _ WD (el kt m.toNat).outer (((nh 0).I.2) m.toNat).outer at so
 have apo:=af.le so.ak
 have apD:=so.sub
 have amJ:ea (el (el kt m.toNat).outer page.toNat):=(af.el so.ak page.toNat (by omega))
 refine S.go 25 (.cons (cz (hp (qc.trans sb) (hf ez.ak)) 64 m.toNat 0 (R (el kt m.toNat).outer.length (((nh 0).I.2) m.toNat).outer.1)) (.cons (cp (aU.outer (d:=(el kt m.toNat)) (af.el (hp (qc.trans sb) (hf ez.ak)) m.toNat (by omega))) page Tryz.underlying64) (.cons (dy (aU.outer (d:=(el kt m.toNat)) (af.el (hp (qc.trans sb) (hf ez.ak)) m.toNat (by omega))) 111 page.toNat) (.cons (cz (hp (qc.trans sb) (hf ez.ak)) 64 m.toNat 0 (R (el kt m.toNat).outer.length (((nh 0).I.2) m.toNat).outer.1)) (.cons (fT (s:=Instr.build 111 [(0,aa (el (eg bp) 0)),(1,aa 3)].toArray) (v:= .agg [aa (el (eg bp) 0),aa 3].toArray) (fun w=>by kernel_rfl)) (.cons (cp (aU.outer (d:=(el kt m.toNat)) (af.el (hp (qc.trans sb) (hf ez.ak)) m.toNat (by omega))) page Tryz.underlying64) .nil)))))) fun ac w β S=>S.fM (α:=aQ) so (t:=111) (k:=page.toNat) (j:=0) (off:=(((nh 0).I.2) m.toNat).outer.1.off+page.toNat*2) (v:=GT.val (⟨(el (eg bp) 0),3⟩:aQ) ()) (y:=(⟨(el (eg bp) 0),3⟩:aQ)) (q:=()) (fun _ _ _=>⟨ab,(show ea (⟨(el (eg bp) 0),3⟩:aQ) from⟨i26,(show a_ 3 from⟨by decide,by decide⟩)⟩),fun _ h=>False.elim h⟩) fun w N CQ FA S up hH d76 ajK Ua=>?_
 clear d76 so
 obtain⟨yH,q_,SO⟩:=XD _ _ _ _ _ ab up hH ajK (fun b _ h=>False.elim h) List.length_set Ua
 obtain⟨GZ,RP⟩:∃z,z=kt.set m.toNat {el kt m.toNat with outer:=((el kt m.toNat).outer.set page.toNat (⟨(el (eg bp) 0),3⟩:aQ))}:=⟨_,rfl⟩
 have oH:ad w0 F w N (Or (Or qy sL) CQ) [(⟨(js bp.mem (el (eg bp) 0) (el (el bp.I m.toNat).out page.toNat)),GZ,bp.buf,bp.ag⟩:ah)] ((cQ.1,yH):aC ah):=by rw [RP];exact q_
 obtain⟨aps,HZ⟩:=Cn RP (show m.toNat<kt.length by omega) List.length_set
 change (yH 0).I.1=(nh 0).I.1 at SO
 clear up hH Ua q_
 refine S.go 7 .nil fun ac w β S=>S.uq (d:=71) oH (Hb w (⟨(js bp.mem (el (eg bp) 0) (el (el bp.I m.toNat).out page.toNat)),GZ,bp.buf,bp.ag⟩:ah) ((cQ.1,yH):aC ah) (Or (Or qy sL) CQ) (S.fX oH) (fun b hb=>(S.sep b (oH.sub b hb)).1) m page (el (el kt m.toNat).outer page.toNat) (af.el (aU.outer (d:=(el kt m.toNat)) (af.el (hp (qc.trans sb) (hf ez.ak)) m.toNat (by omega))) page.toNat (by omega)) (by(first|omega|(dsimp only;omega)))) fun ac w N U4 nt S up fI d92 SP=>?_
 change (U4 0).I.1=(yH 0).I.1 at SP
 clear up d92 oH
 obtain⟨Ot,RX⟩:∃z,z=(mU (⟨(js bp.mem (el (eg bp) 0) (el (el bp.I m.toNat).out page.toNat)),GZ,bp.buf,bp.ag⟩:ah) m page (el (el kt m.toNat).outer page.toNat)):=⟨_,rfl⟩
 have BF:ad w0 F w N nt [Ot] ((cQ.1,U4):aC ah):=by rw [RX];exact fI
 clear fI
 have afX:=J4 RX (by first|omega|(dsimp only;omega))
 try dsimp only at afX
 refine S.bq 1 .nil [] fun ac w β S=>?_
 exact tS S (show ld h m page=Ot by clear S;(unfold ld;first|(subst_vars;rfl)|(subst_vars;simp [o9,j9,gK,mU,dS, *];done))) (show ov _ _ from(SP.trans (SO.trans (qc.trans (sb.trans aeP))))) BF
theorem Kd {p:Prop} (h:p:=by clear S;(first|(rw [K2 (by assumption) kB.symm (by assumption)];done)|(rw [K4 (by assumption) kB.symm (by assumption) (by assumption) (by assumption)];done)|(exact age (by assumption) kB.symm (by assumption) (by assumption) (by assumption) (by assumption) rfl (by assumption)))):p:=h
theorem YB (w0:World) (h:ah) (cQ:aC ah) (F:au) (a1:GT.own b7 F w0 [h] cQ) (eM:∀b,F b->b<w0.heap.size) (m:Int) (page:Int) (need:Int) (ft:fJ h m page=true):Calls Tryz.prog 202 [bg cQ.1.b (cQ.1.off+0*4),aa m,aa page,aa need].toArray w0 (sN ov F cQ w0 (packed []) (gm h m page need)):=by
 refine Calls.run F Tryz.func202 ?_
 intro ac β S
 have eb:ad w0 F w0 (fc w0.heap.size) F [h] cQ:=⟨a1,eM,fun b hb=> .inr hb⟩
 have bD:=pj (h:=h) (m:=m) (page:=page) (by assumption)
 refine S.go 18 (.cons (iO eb.ak (t:=28) (k:=0) (j:=1) (v:=R h.I.length (cQ.2 0).I.1) (Nat.succ_pos 0) (by kernel_rfl) (by kernel_rfl)) (.cons (cp (fs eb.ak) m Tryz.underlying28) (.cons (cz (fs eb.ak) 64 m.toNat 0 (R (el h.I m.toNat).outer.length ((cQ.2 0).I.2 m.toNat).outer.1)) (.cons (cp (aU.outer (d:=(el h.I m.toNat)) (af.el (fs eb.ak) m.toNat (by omega))) page Tryz.underlying64) (.cons (cz (aU.outer (d:=(el h.I m.toNat)) (af.el (fs eb.ak) m.toNat (by omega))) 3 page.toNat 0 (aa (el (el h.I m.toNat).outer page.toNat).page)) .nil))))) fun ac w β S=>?_
 refine il S (fun ac w=>∃(bp:ah) (gy:Nat->cb) (ec:au) (u:_) (N:_) (β:_),(bp=hz h m page)/\(gy 0).I.1=(cQ.2 0).I.1/\aj Tryz.prog Tryz.f202.ntmps w0 F u N β ⟨[(0,.v (bg cQ.1.b (cQ.1.off+0*4))),(1,.v (aa m)),(2,.v (aa page)),(3,.v (aa need))],[]⟩ ac w/\ad w0 F u N ec ([bp]) ((cQ.1,gy):aC ah)) ?_ ?_
 ·clear S;intro S
  refine S.aI 0 .nil ((el (el h.I m.toNat).outer page.toNat).page==(-1)) (fun ac w β cR gC S=>?_) (fun ac w β cR gC S=>?_)
  ·refine S.go 5 .nil fun ac w β S=>S.uq (d:=26) eb (Yy w h cQ F (S.fX eb) (fun b hb=>(S.sep b (eb.sub b hb)).1) m page (by(first|assumption|exact r1 (by assumption)|omega|(dsimp only;omega)))) fun ac w N BL bU S up m9 d12 SG=>?_
   change (BL 0).I.1=(cQ.2 0).I.1 at SG
   clear up d12 eb
   obtain⟨Ol,RT⟩:∃z,z=(ld h m page):=⟨_,rfl⟩
   have bh:ad w0 F w N bU [Ol] ((cQ.1,BL):aC ah):=by rw [RT];exact m9
   clear m9
   have Bb:=Ie RT (by assumption)
   try dsimp only at Bb
   exact S.dF 1 .nil fun ac w β S=>⟨rfl,Ol,BL,bU,_,_,_,(by clear S;first|exact(EL (by assumption) (by assumption)).symm|exact(EJ (by assumption)).symm|exact tv (by assumption) (of_decide_eq_true (by assumption))|exact(tu (by assumption) (of_decide_eq_false (by assumption))).symm|exact tv (by assumption) (by assumption)|exact(tu (by assumption) (by assumption)).symm),SG,S.z,bh⟩
  exact S.dF 2 .nil fun ac w β S=>⟨rfl,h,cQ.2,F,_,_,_,(by clear S;first|exact(EL (by assumption) (by assumption)).symm|exact(EJ (by assumption)).symm|exact tv (by assumption) (of_decide_eq_true (by assumption))|exact(tu (by assumption) (of_decide_eq_false (by assumption))).symm|exact tv (by assumption) (by assumption)|exact(tu (by assumption) (by assumption)).symm),rfl,S.z,eb⟩
 clear S eb
 rintro ac w ⟨bp,gy,ec,u,N,β,kB,lU,S,fW⟩
 have bn:=Bf kB (by assumption)
 refine S.ex fun S=>?_
 refine S.bb 9 (.cons (aE fun w hw=>xc w need 2) .nil) (!(e8 need 2)) (fun ac w β jE S=>?_) (fun ac w β jE S=>?_)
 ·have nM:=cn jE
  refine S.bq 2 .nil [] fun ac w β S=>?_
  exact tS S (show gm h m page need=bp from Kd) (show ov _ _ from lU) fW
 have iZ:=b_ jE
 have p5:=qJ iZ
 obtain⟨oR,fh,_,Xk⟩:=rU fW (fun _ o=>Q0 o (k:=m.toNat) (show m.toNat<bp.I.length by omega))
 change ad w0 F _ _ oR (el bp.I m.toNat).aT ((gy 0).I.2 m.toNat).aT at fh
 have KO:=af.le fh.ak
 have La:=fh.sub
 refine S.go 22 (.cons (iO fW.ak (t:=28) (k:=0) (j:=1) (v:=R bp.I.length (gy 0).I.1) (Nat.succ_pos 0) (by kernel_rfl) (by kernel_rfl)) (.cons (cp (fs fW.ak) m Tryz.underlying28) (.cons (cz (fs fW.ak) 39 m.toNat 2 (R (el bp.I m.toNat).aT.length ((gy 0).I.2 m.toNat).aT.1)) (.cons (cp (aU.aT (d:=(el bp.I m.toNat)) (af.el (fs fW.ak) m.toNat (by omega))) page Tryz.underlying39) .nil)))) fun ac w β S=>S.fM (α:=Bool) fh (t:=4) (k:=page.toNat) (j:=0) (off:=((gy 0).I.2 m.toNat).aT.1.off+page.toNat*1) (v:=B true) (y:=true) (q:=()) (fun _ _ _=>⟨ab,trivial,fun _ h=>False.elim h⟩) fun w N n1 tM S up dQ d30 Cf v3=>?_
 clear d30 fh
 obtain⟨wk,ie,sa⟩:=Xk _ _ _ _ _ ab up dQ Cf (fun b _ h=>False.elim h) List.length_set v3
 obtain⟨jx,RK⟩:∃z,z=bp.I.set m.toNat {el bp.I m.toNat with aT:=((el bp.I m.toNat).aT.set page.toNat true)}:=⟨_,rfl⟩
 have iE:ad w0 F w N (Or ec n1) [(⟨bp.mem,jx,bp.buf,bp.ag⟩:ah)] ((cQ.1,wk):aC ah):=by rw [RK];exact ie
 obtain⟨afO,amF⟩:=FO RK (show m.toNat<bp.I.length by omega) List.length_set
 change (wk 0).I.1=(gy 0).I.1 at sa
 clear up dQ v3 ie
 refine S.bb 23 (.cons (cz (hp sa (hf iE.ak)) 64 m.toNat 0 (R (el jx m.toNat).outer.length (((wk 0).I.2) m.toNat).outer.1)) (.cons (cp (aU.outer (d:=(el jx m.toNat)) (af.el (hp sa (hf iE.ak)) m.toNat (by omega))) page Tryz.underlying64) (.cons (dy (aU.outer (d:=(el jx m.toNat)) (af.el (hp sa (hf iE.ak)) m.toNat (by omega))) 111 page.toNat) (.cons (aE fun w hw=>xc w (el (el jx m.toNat).outer page.toNat).bd 2) .nil)))) (!(e8 (el (el jx m.toNat).outer page.toNat).bd 2)) (fun ac w β j_ S=>?_) (fun ac w β j_ S=>?_)
 ·have tg:=cn j_
  obtain⟨lE,ey,_,w_⟩:=rU iE (fun _ o=>Ig o (k:=m.toNat) (show m.toNat<jx.length by omega))
  change ad w0 F _ _ lE (el jx m.toNat).outer (((wk 0).I.2) m.toNat).outer at ey
  have TL:=af.le ey.ak
  have apB:=ey.sub
  have aaO:ea (el (el jx m.toNat).outer page.toNat):=(af.el ey.ak page.toNat (by omega))
  refine S.go 10 (.cons (cz (hp sa (hf iE.ak)) 64 m.toNat 0 (R (el jx m.toNat).outer.length (((wk 0).I.2) m.toNat).outer.1)) (.cons (cp (aU.outer (d:=(el jx m.toNat)) (af.el (hp sa (hf iE.ak)) m.toNat (by omega))) page Tryz.underlying64) .nil)) fun ac w β S=>S.fM (α:=aQ) ey (t:=3) (k:=page.toNat) (j:=1) (off:=(((wk 0).I.2) m.toNat).outer.1.off+page.toNat*2+1) (v:=aa 3) (y:=(⟨(el (el jx m.toNat).outer page.toNat).page,3⟩:aQ)) (q:=()) (fun _ _ _=>⟨ab,(show ea (⟨(el (el jx m.toNat).outer page.toNat).page,3⟩:aQ) from⟨(ea.page (d:=(el (el jx m.toNat).outer page.toNat)) aaO),(show a_ 3 from⟨by decide,by decide⟩)⟩),fun _ h=>False.elim h⟩) fun w N sL BW S up g6 d54 Nk Bk=>?_
  clear d54 ey
  obtain⟨nh,eu,qc⟩:=w_ _ _ _ _ _ ab up g6 Nk (fun b _ h=>False.elim h) List.length_set Bk
  obtain⟨kt,Az⟩:∃z,z=jx.set m.toNat {el jx m.toNat with outer:=((el jx m.toNat).outer.set page.toNat (⟨(el (el jx m.toNat).outer page.toNat).page,3⟩:aQ))}:=⟨_,rfl⟩
  have ez:ad w0 F w N (Or (Or ec n1) sL) [(⟨bp.mem,kt,bp.buf,bp.ag⟩:ah)] ((cQ.1,nh):aC ah):=by rw [Az];exact eu
  obtain⟨afS,Du⟩:=Cn Az (show m.toNat<jx.length by omega) List.length_set
  change (nh 0).I.1=(wk 0).I.1 at qc
  clear up g6 Bk eu
  refine S.go 7 .nil fun ac w β S=>S.uq (d:=64) ez (Hb w (⟨bp.mem,kt,bp.buf,bp.ag⟩:ah) ((cQ.1,nh):aC ah) (Or (Or ec n1) sL) (S.fX ez) (fun b hb=>(S.sep b (ez.sub b hb)).1) m page (el (el jx m.toNat).outer page.toNat) (af.el (aU.outer (d:=(el jx m.toNat)) (af.el (hp sa (hf iE.ak)) m.toNat (by omega))) page.toNat (by omega)) (by(first|omega|(dsimp only;omega)))) fun ac w N UZ wY S up q9 d70 SM=>?_
  change (UZ 0).I.1=(nh 0).I.1 at SM
  clear up d70 ez
  obtain⟨Oq,RW⟩:∃z,z=(mU (⟨bp.mem,kt,bp.buf,bp.ag⟩:ah) m page (el (el jx m.toNat).outer page.toNat)):=⟨_,rfl⟩
  have hH:ad w0 F w N wY [Oq] ((cQ.1,UZ):aC ah):=by rw [RW];exact q9
  clear q9
  have afT:=J4 RW (by first|omega|(dsimp only;omega))
  try dsimp only at afT
  refine S.bq 1 .nil [] fun ac w β S=>?_
  exact tS S (show gm h m page need=Oq from Kd) (show ov _ _ from(SM.trans (qc.trans (sa.trans lU)))) hH
 have ac3:=b_ j_
 have anL:=qJ ac3
 refine S.bq 2 .nil [] fun ac w β S=>?_
 exact tS S (show gm h m page need=(⟨bp.mem,jx,bp.buf,bp.ag⟩:ah) from Kd) (show ov _ _ from(sa.trans lU)) iE
theorem J7 {p:Prop} (h:p:=by clear S;(unfold lb;(repeat' split)<;>first|rfl|(exfalso;omega)|(exfalso;simp_all;done)|(exfalso;simp_all;omega)|(simp_all;done))):p:=h
theorem X6 (w0:World) (a:Int) (b:Int):Calls Tryz.prog 342 [aa a,aa b].toArray w0 (fun e w'=>e= .returned (aa (lb a b))/\bu ab w0 w'):=by
 refine Calls.run ab Tryz.func342 ?_
 intro ac β S
 refine S.bb 12 (.cons (aE fun w hw=>C7 w a) .nil) (!(a3 a 0 3)) (fun ac w β h1 S=>?_) (fun ac w β h1 S=>?_)
 ·have an:=cn h1
  have b4:=dm an
  exact S.aq 13 .nil [aa 0] (b3 J7)
 have b2:=b_ h1
 have dK:=cU b2
 refine S.bb 6 (.cons (aE fun w hw=>C7 w b) .nil) (!(a3 b 0 3)) (fun ac w β cR S=>?_) (fun ac w β cR S=>?_)
 ·have cD:=cn cR
  have e_:=dm cD
  exact S.aq 7 .nil [aa 0] (b3 J7)
 have et:=b_ cR
 have iP:=cU et
 exact S.aq 12 (.cons (qC (x:=a) (y:=b)) .nil) [aa (jH a b)] (b3 J7)
theorem En {p:Prop} (h:p:=by clear S;(unfold hM;(repeat' split)<;>first|rfl|(exfalso;omega)|(exfalso;simp_all;done)|(exfalso;simp_all;omega)|(simp_all;done))):p:=h
theorem X8 (w0:World) (inner:aQ) (outer:List aQ) (ke:aC aQ) (ox:bT w0 outer ke):Calls Tryz.prog 314 [GT.val inner (),R outer.length ke.1].toArray w0 (fun e w'=>e= .returned (GT.val (hM inner outer) ())/\bu ab w0 w'):=by
 refine Calls.run ab Tryz.func314 ?_
 intro ac β S
 have JE:outer.length<=4194304:=af.le ox
 refine S.aI 33 (.cons (aE fun w hw=>G_ w outer ke (bN (S.arg ox) hw) inner.page) (.cons (aE fun w hw=>X6 w inner.bd (eO outer inner.page).bd) .nil)) (inner.page==(-1)) (fun ac w β h1 a8 S=>?_) (fun ac w β h1 a8 S=>?_)
 ·exact S.aq 18 (.cons (aE fun w hw=>ny w) .nil) [GT.val (⟨-1,0⟩:aQ) ()] (hU (p:=()) En)
 refine S.aI 5 .nil ((eO outer inner.page).page==(-1)) (fun ac w β aF cB S=>?_) (fun ac w β aF cB S=>?_)
 ·exact S.aq 13 (.cons (aE fun w hw=>ny w) .nil) [GT.val (⟨-1,0⟩:aQ) ()] (hU (p:=()) En)
 refine S.aI 5 .nil ((lb inner.bd (eO outer inner.page).bd)==0) (fun ac w β bl c7 S=>?_) (fun ac w β bl c7 S=>?_)
 ·exact S.aq 8 (.cons (aE fun w hw=>ny w) .nil) [GT.val (⟨-1,0⟩:aQ) ()] (hU (p:=()) En)
 exact S.aq 13 (.cons (fT (s:=Instr.build 111 [(0,aa (eO outer inner.page).page),(1,aa (lb inner.bd (eO outer inner.page).bd))].toArray) (v:= .agg [aa (eO outer inner.page).page,aa (lb inner.bd (eO outer inner.page).bd)].toArray) (fun w=>by kernel_rfl)) .nil) [GT.val (⟨(eO outer inner.page).page,(lb inner.bd (eO outer inner.page).bd)⟩:aQ) ()] (hU (p:=()) En)
theorem Eo {p:Prop} (h:p:=by clear S;(unfold lf;(repeat' split)<;>first|rfl|(exfalso;omega)|(exfalso;simp_all;done)|(exfalso;simp_all;omega)|(simp_all;done))):p:=h
theorem Yb (w0:World) (k:bQ) (ej:fm) (hk:bT w0 k ej) (inner:List aQ) (jc:aC aQ) (k0:bT w0 inner jc) (outer:List aQ) (ke:aC aQ) (ox:bT w0 outer ke) (page:Int):Calls Tryz.prog 251 [GT.val k ej,R inner.length jc.1,R outer.length ke.1,aa page].toArray w0 (dw ab w0 (lf k inner outer page:bQ)):=by
 refine Calls.run ab Tryz.func251 ?_
 intro ac β S
 have qU:k.known.length<=4194304:=af.le (er.known (d:=k) hk)
 have qV:k.aY.length<=4194304:=af.le (er.aY (d:=k) hk)
 have AT:inner.length<=4194304:=af.le k0
 have JE:outer.length<=4194304:=af.le ox
 refine S.go 9 .nil fun ac w β S=>S.cN (r:=k) (d:=11) (C8 w k ej (S.rd (S.arg hk))) fun ac w N ae br S up aD d4=>?_
 clear up d4
 obtain⟨dO,eX,bJ,bE,_,_,d11⟩:=tV aD
 refine S.bb 13 (.cons (aE fun w hw=>jo w page (k.known.length:Int) (by omega)) .nil) (a3 page 0 ((k.known.length:Int)-1)) (fun ac w β dZ S=>?_) (fun ac w β dZ S=>?_)
 ·have hA:=cU dZ
  refine S.bb 7 (.cons (aE fun w hw=>jo w page (k.aY.length:Int) (by omega)) .nil) (a3 page 0 ((k.aY.length:Int)-1)) (fun ac w β h9 S=>?_) (fun ac w β h9 S=>?_)
  ·have lM:=cU h9
   refine S.bb 7 (.cons (aE fun w hw=>jo w page (inner.length:Int) (by omega)) .nil) (a3 page 0 ((inner.length:Int)-1)) (fun ac w β lO S=>?_) (fun ac w β lO S=>?_)
   ·have Il:=cU lO
    refine S.go 7 (.cons (cp bJ.ak page Tryz.underlying39) .nil) fun ac w β S=>S.fM (α:=Bool) bJ (t:=4) (k:=page.toNat) (j:=0) (off:=ae.known.1.off+page.toNat*1) (v:=B true) (y:=true) (q:=()) (fun _ _ _=>⟨ab,trivial,fun _ h=>False.elim h⟩) fun w N ko c5 S up eU d21 VB ET=>?_
    have d24:=d21 _ (J.symm d11) (fun b _ h=>False.elim h) bE.sub
    replace bE:=bE.bw (J.symm d11) up
    clear up d21 bJ ET
    have KO:(k.known.set page.toNat true).length=k.known.length:=List.length_set
    replace S:=S.z (σ':=⟨[(1,.v (R inner.length jc.1)),(2,.v (R outer.length ke.1)),(3,.v (aa page)),(8,.p 1 0),(9,.p 2 0),(33,.v (bg ae.known.1.b (ae.known.1.off+page.toNat*1)))],[GT.cells k ej,ck bQ,[R k.known.length ae.known.1,R k.aY.length ae.aY.1]]⟩)
    replace S:=S.cast (σ':=⟨[(1,.v (R inner.length jc.1)),(2,.v (R outer.length ke.1)),(3,.v (aa page)),(8,.p 1 0),(9,.p 2 0),(33,.v (bg ae.known.1.b (ae.known.1.off+page.toNat*1)))],[GT.cells k ej,ck bQ,[R (k.known.set page.toNat true).length ae.known.1,R k.aY.length ae.aY.1]]⟩) (by rw [show(k.known.set page.toNat true).length=k.known.length by omega])
    refine S.is fun S=>?_
    refine S.go 2 .nil fun ac w β S=>?_
    refine dI ?_
    refine S.dP (f:=11) 10 (by kernel_rfl) (by kernel_rfl) fun w S=>?_
    refine S.hm 3 [0,1,2,3,4,5,6,7] [] [(35,.v (R k.aY.length ae.aY.1)),(36,.v (aa page)),(40,.v (GT.val (el inner page.toNat) ())),(41,.v (R outer.length ke.1))] (.cons (cp (S.arg k0) page Tryz.underlying64) (.cons (dy (S.arg k0) 111 page.toNat) .nil)) fun ac S=>?_
    refine S.iI 8 [] [(42,.v (GT.val (hM (el inner page.toNat) outer) ()))] 3 [] (.cons (aE fun w hw=>X8 w (el inner page.toNat) outer ke (bN (S.arg ox) hw)) .nil) fun ac w β S=>?_
    refine S.a9 9 [9] [] [(43,.v (bg ae.aY.1.b (ae.aY.1.off+page.toNat*2)))] (.cons (cp bE.ak page Tryz.underlying64) .nil) fun ac S=>?_
    refine ar.one (i:=10) (by kernel_rfl) ?_
    have sZ:ea (el k.aY page.toNat):=(af.el bE.ak page.toNat (by omega))
    refine id (S.y1 (α:=aQ) bE (t:=111) (k:=page.toNat) (j:=0) (off:=ae.aY.1.off+page.toNat*2) (v:=GT.val (hM (el inner page.toNat) outer) ()) (y:=(hM (el inner page.toNat) outer)) (q:=()) (fun _ _ _=>⟨ab,(P_ (S.arg ox) (el inner page.toNat)),fun _ h=>False.elim h⟩) fun w N n1 tM S up dQ d30 Cf v3=>?_)
    refine ar.last (by kernel_rfl) ?_
    have d33:=d30 _ (J.symm d24) (fun b _ h=>False.elim h) eU.sub
    replace eU:=eU.bw (J.symm d24) up
    clear up d30 bE v3
    have afM:(k.aY.set page.toNat (hM (el inner page.toNat) outer)).length=k.aY.length:=List.length_set
    replace S:=S.z (σ':=⟨[(8,.p 1 0),(9,.p 2 0),(42,.v (GT.val (hM (el inner page.toNat) outer) ())),(43,.v (bg ae.aY.1.b (ae.aY.1.off+page.toNat*2)))],[GT.cells k ej,ck bQ,[R (k.known.set page.toNat true).length ae.known.1,R k.aY.length ae.aY.1]]⟩)
    replace S:=S.cast (σ':=⟨[(8,.p 1 0),(9,.p 2 0),(42,.v (GT.val (hM (el inner page.toNat) outer) ())),(43,.v (bg ae.aY.1.b (ae.aY.1.off+page.toNat*2)))],[GT.cells k ej,ck bQ,[R (k.known.set page.toNat true).length ae.known.1,R (k.aY.set page.toNat (hM (el inner page.toNat) outer)).length ae.aY.1]]⟩) (by rw [show(k.aY.set page.toNat (hM (el inner page.toNat) outer)).length=k.aY.length by omega])
    refine ar.done (by kernel_rfl) ?_ _
    refine S.ex fun S=>?_
    refine S.bq 8 .nil [GT.val (⟨(k.known.set page.toNat true),(k.aY.set page.toNat (hM (el inner page.toNat) outer))⟩:bQ) (⟨(ae.known.1,c5),(ae.aY.1,tM)⟩:fm)] fun ac w β S=>?_
    have By:=l4 (x:=(⟨(k.known.set page.toNat true),(k.aY.set page.toNat (hM (el inner page.toNat) outer))⟩:bQ)) (p:=(⟨(ae.known.1,c5),(ae.aY.1,tM)⟩:fm)) eU dQ d33
    exact cx S (show lf k inner outer page=(⟨(k.known.set page.toNat true),(k.aY.set page.toNat (hM (el inner page.toNat) outer))⟩:bQ) from Eo) rfl By
   have pd:=dm lO
   refine S.bq 10 .nil [GT.val k ae] fun ac w β S=>?_
   have iE:=l4 (x:=k) (p:=ae) bJ bE d11
   exact cx S (show lf k inner outer page=k from Eo) rfl iE
  have Rd:=dm h9
  refine S.bq 17 .nil [GT.val k ae] fun ac w β S=>?_
  have wb:=l4 (x:=k) (p:=ae) bJ bE d11
  exact cx S (show lf k inner outer page=k from Eo) rfl wb
 have DJ:=dm dZ
 refine S.bq 24 .nil [GT.val k ae] fun ac w β S=>?_
 have qk:=l4 (x:=k) (p:=ae) bJ bE d11
 exact cx S (show lf k inner outer page=k from Eo) rfl qk
theorem O6 (w0:World) (b:List aG) (bB:aC aG) (hb:bT w0 b bB) (tag:Int) (qY:a_ tag) (page:Int) (hE:a_ page):Calls Tryz.prog 190 [R b.length bB.1,aa tag,aa page].toArray w0 (dw ab w0 (cK b tag page:List aG)):=by
 refine Calls.run ab Tryz.func190 ?_
 intro ac β S
 have kD:b.length<=4194304:=af.le hb
 have aey:=qY.lo;have aee:=qY.hi
 have yl:=hE.lo;have yc:=hE.hi
 refine S.go 8 .nil fun ac w β S=>?_
 refine S.GR 0 tag () qY fun β N hv br S up aD d4=>?_
 clear up d4
 refine S.GR 0 page () hE fun β N dM cW S up ao d8=>?_
 replace aD:=aD.up up
 clear up d8
 refine S.go 3 .nil fun ac w β S=>S.cN (r:=jB b (fun e=>h7 e tag page)) (d:=9) (YF w b bB (S.rd (S.arg hb)) tag (dA hv ():aC Int) (S.rd aD.ak) page (dA dM ():aC Int) (S.rd ao.ak)) fun ac w N fY e3 S up bG d13=>?_
 clear up d13
 refine S.bq 4 .nil [R (jB b (fun e=>h7 e tag page)).length fY.1] fun ac w β S=>?_
 exact cx S (show cK b tag page=(jB b (fun e=>h7 e tag page)) by clear S;rfl) rfl bG
theorem Pf (w0:World) (b:List aG) (bB:aC aG) (hb:bT w0 b bB) (e:aG) (he:e7 e) (ft:b.length<=6):Calls Tryz.prog 252 [R b.length bB.1,GT.val e ()].toArray w0 (dw ab w0 (dE b e:List aG)):=by
 refine Calls.run ab Tryz.func252 ?_
 intro ac β S
 have hfl:(cK b e.tag e.page).length<=b.length:=wK _ _
 have aea:(cK b e.tag e.page++[e]).length=(cK b e.tag e.page).length+1:=by simp
 have kD:b.length<=4194304:=af.le hb
 refine S.go 7 .nil fun ac w β S=>?_
 refine dI ?_
 let bH:b1:=⟨[(0,.v (R b.length bB.1)),(3,.p 0 0)],[GT.cells e ()]⟩
 obtain⟨bA,bx,bS,S⟩:∃bA bx bS,aj Tryz.prog Tryz.f252.ntmps w0 ab bA bx bS bH ac w:=⟨_,_,_,S.z⟩
 refine mD (fun ac w=>∃iG k8 u N β,aj Tryz.prog Tryz.f252.ntmps w0 ab u N β (bH.dl [0,3] [(5,.v (R ((cK b e.tag e.page)++[e]).length iG.1))] 0 []) ac w/\ad w0 ab u N k8 ((cK b e.tag e.page)++[e]) iG) ?_ ?_
 ·refine S.dP (f:=10) 10 (by kernel_rfl) (by kernel_rfl) fun w S=>?_
  refine S.a9 0 [] [] [(6,.v (R b.length bB.1))] .nil fun ac S=>?_
  refine S.a9 1 [] [] [(7,.p 0 0)] .nil fun ac S=>?_
  refine S.a9 2 [] [] [(8,.v (aa e.tag))] .nil fun ac S=>?_
  refine S.a9 3 [] [] [(9,.p 0 1)] .nil fun ac S=>?_
  refine S.a9 4 [] [] [(10,.v (aa e.page))] .nil fun ac S=>?_
  refine S.a9 6 [] [] [(12,.v (GT.val e ()))] .nil fun ac S=>?_
  refine ar.m8 fun W aH=>?_
  refine ar.mP (l':=cu 10 [0,1,2,3,4,6]) (by kernel_rfl) ?_
  have I0 ac w iG k8 u N β (S:aj Tryz.prog Tryz.f252.ntmps w0 ab u N β (bH.dl [0,3] [(5,.v (R ((cK b e.tag e.page)++[e]).length iG.1))] 1 []) ac w) (gY:ad w0 ab u N k8 ((cK b e.tag e.page)++[e]) iG) (al:d_ bx bA N u) (aP:cS bH.aM.length bS β):W 0 (cu 10 [0,1,2,3,4,5,6,7,8,9]) ac w:=by
   exact nb aH ⟨rfl,iG,k8,_,_,_,S.z,gY⟩
  have Av ac w bX bU cG cC u N β (S:aj Tryz.prog Tryz.f252.ntmps w0 ab u N β (bH.dl [0,3] [(11,.v (R (cK b e.tag e.page).length bX.1)),(13,.v (R 1 cG.1))] 1 []) ac w) (ao:ad w0 ab u N bU (cK b e.tag e.page) bX) (bh:ad w0 ab u N cC ([e]) cG) (d41:J bU cC) (al:∀b,bx b->N b/\u.heap[b]? =bA.heap[b]? /\¬bU b) (aP:cS bH.aM.length bS β):W 2 (cu 10 [0,1,2,3,4,5,6,7]) ac w:=by
   refine en aH 8 ?_
   refine id (S.CT (α:=aG) ao bh.ak (fun _ _ h=>h) (by':=32) (d:=14) (lx:=(cK b e.tag e.page).length) (ly:=1) rfl rfl (by kernel_rfl) (show _<=4194304 by simp only [List.length_append,List.length_cons,List.length_nil];omega) fun ac w N BU Gx S up ql d45=>?_)
   have AF:=fun b h=>(⟨(up b (al b h).1 (al b h).2.2).1,(up b (al b h).1 (al b h).2.2).2.trans (al b h).2.1⟩:_/\_)
   refine ar.dh S AF aP fun bk=>?_
   replace bh:=bh.bw (J.symm d41) up
   clear up d45
   exact S.cZ aH [9] bk fun _ S=>I0 _ _ BU Gx _ _ _ S ql AF aP
  have I5 ac w bX bU u N β (S:aj Tryz.prog Tryz.f252.ntmps w0 ab u N β (bH.dl [0,3] [(11,.v (R (cK b e.tag e.page).length bX.1)),(12,.v (GT.val e ()))] 1 []) ac w) (ao:ad w0 ab u N bU (cK b e.tag e.page) bX) (al:∀b,bx b->N b/\u.heap[b]? =bA.heap[b]? /\¬bU b) (aP:cS bH.aM.length bS β):W 3 (cu 10 [0,1,2,3,4,5,6]) ac w:=by
   refine en aH 7 ?_
   refine id (S.pS (α:=aG) (x:=e) (p:=()) (F:=ab) he (fun b h=>False.elim h) (fun b h=>False.elim h) (d:=13) (by kernel_rfl) fun ac w N BV qz S up g6 d52=>?_)
   have vB:=fun b h=>(⟨(up b (al b h).1).1,(up b (al b h).1).2.trans (al b h).2.1,(al b h).2.2⟩:_/\_/\_)
   refine ar.dh S (fun b h=>⟨(vB b h).1,(vB b h).2.1⟩) aP fun bk=>?_
   have d54:=d52 _ (fun b _ h=>False.elim h) ao.sub
   replace ao:=ao.up up
   clear up d52
   exact S.cZ aH [] bk fun _ S=>Av _ _ bX bU BV qz _ _ _ S ao g6 d54 vB aP
  have I6 ac w cG cC u N β (S:aj Tryz.prog Tryz.f252.ntmps w0 ab u N β (bH.dl [0,3] [(6,.v (R b.length bB.1)),(8,.v (aa e.tag)),(10,.v (aa e.page)),(13,.v (R 1 cG.1))] 1 []) ac w) (bh:ad w0 ab u N cC ([e]) cG) (al:d_ bx bA N u) (aP:cS bH.aM.length bS β):W 3 (cu 10 [0,1,2,3,4,6,7]) ac w:=by
   refine en aH 5 ?_
   refine id (S.dz 11 (O6 w b bB (S.rd (S.arg hb)) e.tag (e7.tag (d:=e) he) e.page (e7.page (d:=e) he)) fun ac w N MS wX S up eu d59=>?_)
   have vC:=fun b h=>(⟨(up b (al b h).1).1,(up b (al b h).1).2.trans (al b h).2,d59 b (al b h).1⟩:_/\_/\_)
   refine ar.dh S (fun b h=>⟨(vC b h).1,(vC b h).2.1⟩) aP fun bk=>?_
   have d61:=J.w d59 bh.sub
   replace bh:=bh.up up
   clear up d59
   exact S.cZ aH [] bk fun _ S=>Av _ _ MS wX cG cC _ _ _ S eu bh (J.symm d61) vC aP
  have al:d_ bx bA bx bA:=fun b h=>⟨h,rfl⟩
  have aP:cS bH.aM.length bS bS:=fun _ _=>rfl
  refine gx aH 5 7 ?_ ?_
  ·refine id (S.dz 11 (O6 w b bB (S.rd (S.arg hb)) e.tag (e7.tag (d:=e) he) e.page (e7.page (d:=e) he)) fun ac w N MU GO S up LU d65=>?_)
   have vD:=fun b h=>(⟨(up b (al b h).1).1,(up b (al b h).1).2.trans (al b h).2,d65 b (al b h).1⟩:_/\_/\_)
   refine ar.dh S (fun b h=>⟨(vD b h).1,(vD b h).2.1⟩) aP fun bk=>?_
   clear up d65
   exact S.cZ aH [] bk fun _ S=>I5 _ _ MU GO _ _ _ S LU vD aP
  ·refine id (S.pS (α:=aG) (x:=e) (p:=()) (F:=ab) he (fun b h=>False.elim h) (fun b h=>False.elim h) (d:=13) (by kernel_rfl) fun ac w N tP wZ S up jY d70=>?_)
   have AJ:=fun b h=>(⟨(up b (al b h).1).1,(up b (al b h).1).2.trans (al b h).2⟩:_/\_)
   refine ar.dh S AJ aP fun bk=>?_
   clear up d70
   exact S.cZ aH [] bk fun _ S=>I6 _ _ tP wZ _ _ _ S jY AJ aP
 clear S
 rintro ac w ⟨iG,k8,u,N,β,S,gY⟩
 refine S.ex fun S=>?_
 refine S.go 8 (.cons (g8 (((cK b e.tag e.page)++[e]).length:Int) 6) .nil) fun ac w β S=>?_
 replace S:=S.z (σ':=⟨[(15,.v (R ((cK b e.tag e.page)++[e]).length iG.1)),(19,.v (aa (if((((cK b e.tag e.page)++[e]).length:Int)-6)>0 then((((cK b e.tag e.page)++[e]).length:Int)-6) else 0)))],[]⟩)
 replace S:=S.cast (σ':=⟨[(15,.v (R ((cK b e.tag e.page)++[e]).length iG.1)),(19,.v (aa (((cK b e.tag e.page++[e]).length-6:Nat):Int)))],[]⟩) (by rw [show(((cK b e.tag e.page++[e]).length-6:Nat):Int)=(if((((cK b e.tag e.page)++[e]).length:Int)-6)>0 then((((cK b e.tag e.page)++[e]).length:Int)-6) else 0) by(repeat' split)<;>omega])
 have apq:((((cK b e.tag e.page)++[e]).drop ((cK b e.tag e.page++[e]).length-6)).take (((cK b e.tag e.page)++[e]).length-((cK b e.tag e.page++[e]).length-6))).length=((cK b e.tag e.page)++[e]).length-((cK b e.tag e.page++[e]).length-6):=by first|(simp;done)|(simp;omega)
 refine S.is fun S=>?_
 refine S.bq 5 (.cons (GV gY.ak (l:=((cK b e.tag e.page)++[e]).length) (a:=((cK b e.tag e.page++[e]).length-6)) (b:=((cK b e.tag e.page)++[e]).length) rfl (.inr rfl) (.inl ⟨rfl,rfl⟩) (by omega) (by omega) Tryz.underlying29 (by kernel_rfl)) .nil) [R (((cK b e.tag e.page)++[e]).length-((cK b e.tag e.page++[e]).length-6):Nat) (iG.1.c9 ((cK b e.tag e.page++[e]).length-6) 4)] fun ac w β S=>?_
 have hH:ad w0 ab _ _ k8 ((((cK b e.tag e.page)++[e]).drop ((cK b e.tag e.page++[e]).length-6)).take (((cK b e.tag e.page)++[e]).length-((cK b e.tag e.page++[e]).length-6))) (iG.1.c9 ((cK b e.tag e.page++[e]).length-6) 4,fun i=>iG.2 (((cK b e.tag e.page++[e]).length-6)+i)):=ad.c9 gY (a:=((cK b e.tag e.page++[e]).length-6)) (b:=((cK b e.tag e.page)++[e]).length) (by omega) (by omega)
 exact cx S (show dE b e=((((cK b e.tag e.page)++[e]).drop ((cK b e.tag e.page++[e]).length-6)).take (((cK b e.tag e.page)++[e]).length-((cK b e.tag e.page++[e]).length-6))) by clear S;(first|exact put_eq (by omega)|exact Mh (by omega))) (show R (((cK b e.tag e.page)++[e]).length-((cK b e.tag e.page++[e]).length-6):Nat) (iG.1.c9 ((cK b e.tag e.page++[e]).length-6) 4)=GT.val ((((cK b e.tag e.page)++[e]).drop ((cK b e.tag e.page++[e]).length-6)).take (((cK b e.tag e.page)++[e]).length-((cK b e.tag e.page++[e]).length-6))) ((iG.1.c9 ((cK b e.tag e.page++[e]).length-6) 4,fun i=>iG.2 (((cK b e.tag e.page++[e]).length-6)+i)):aC aG) from congrArg (fun z=>R z (iG.1.c9 ((cK b e.tag e.page++[e]).length-6) 4)) (show(((cK b e.tag e.page)++[e]).length-((cK b e.tag e.page++[e]).length-6):Nat)=((((cK b e.tag e.page)++[e]).drop ((cK b e.tag e.page++[e]).length-6)).take (((cK b e.tag e.page)++[e]).length-((cK b e.tag e.page++[e]).length-6))).length by omega)) hH
theorem m5 {p:Prop} (h:p:=by clear S;(first|(rw [af3 (by assumption)];done)|(rw [af4 (by assumption) (by assumption)];done)|(rw [KQ (by assumption) (by assumption) (by omega) (by omega) (by assumption) lR,TP (by assumption)];first|done|rfl)|(rw [KQ (by assumption) (by assumption) (by omega) (by omega) (by assumption) lR,TQ (by assumption) (by assumption)];first|done|rfl)|(rw [KQ (by assumption) (by assumption) (by omega) (by omega) (by assumption) lR,TR (by assumption) (by assumption) (by assumption) (by assumption)];first|done|rfl))):p:=h
theorem YA (w0:World) (h:ah) (ai:cb) (a1:bT w0 h ai) (m:Int) (g:Int) (page:Int) (hE:a_ page) (need:Int) (io:Bool) (ft:io=false):Calls Tryz.prog 135 [GT.val h ai,aa m,aa g,aa page,aa need,B io].toArray w0 (zo ab w0 ((cL h m g page need io).1:ah) ((cL h m g page need io).2.1:Int) ((cL h m g page need io).2.2:Bool)):=by
 refine Calls.run ab Tryz.func135 ?_
 intro ac β S
 have JG:io=false:=by assumption
 subst JG
 have m1:h.mem.length<=4194304:=af.le (bz.mem (d:=h) a1)
 have m2:h.I.length<=4194304:=af.le (bz.I (d:=h) a1)
 have mZ:h.buf.length<=4194304:=af.le (bz.buf (d:=h) a1)
 have m0:h.ag.length<=4194304:=af.le (bz.ag (d:=h) a1)
 have yl:=hE.lo;have yc:=hE.hi
 refine S.go 11 .nil fun ac w β S=>S.cN (r:=h) (d:=28) (Po w h ai (S.rd (S.arg a1))) fun ac w N ae br S up aD d4=>?_
 clear up d4
 refine S.go 5 .nil fun ac w β S=>?_
 refine S.WI 2 aD fun β N dM cW S up ao d8=>?_
 clear up d8 aD
 refine S.go 3 .nil fun ac w β S=>S.rA (r:=(aK h m).1) (r':=(aK h m).2) (d:=32) (G6 w h ai (S.rd (S.arg a1)) m) fun ac w N tQ fY e3 CG S up ju c4 d15 d16 d17=>?_
 replace ao:=ao.up up
 clear up d15
 clear d16
 refine S.go 10 .nil fun ac w β S=>?_
 refine S.pV ⟨[(1,.v (aa m)),(2,.v (aa g)),(3,.v (aa page)),(4,.v (aa need)),(5,.v (B false)),(12,.p 1 0),(15,.v (bg (dA dM ae:aC ah).1.b ((dA dM ae:aC ah).1.off+0*4))),(16,.p 2 0),(57,.v (B ((((!(eD h))||(!(aK h m).2))||(!(a3 g 0 (((aK h m).1.U.length:Int)-1))))||((need != 1)&&(need != 2)))))],[GT.cells h ai,ck ah,GT.cells (aK h m).1 tQ]⟩ ?_ ?_
 ·clear S;intro S
  refine S.bb 5 (.cons (aE fun w hw=>O_ w h ai (bN (S.arg a1) hw)) .nil) (!(eD h)) (fun ac w β hj S=>?_) (fun ac w β hj S=>?_)
  ·have lj:=cn hj
   exact S.dF 20 .nil fun ac w β S=>⟨rfl,_,by rw [hj];exact S.z⟩
  have pe:=b_ hj
  have tc:=r_ pe
  refine S.bb 4 .nil (!(aK h m).2) (fun ac w β gM S=>?_) (fun ac w β gM S=>?_)
  ·have x4:=cn gM
   exact S.dF 16 .nil fun ac w β S=>⟨rfl,_,by rw [hj,gM];exact S.z⟩
  have gN:=b_ gM
  have td:=vX gN
  refine S.bb 8 (.cons (aE fun w hw=>jo w g ((aK h m).1.U.length:Int) (by omega)) .nil) (!(a3 g 0 (((aK h m).1.U.length:Int)-1))) (fun ac w β hB S=>?_) (fun ac w β hB S=>?_)
  ·have i_:=cn hB
   have nL:=dm i_
   exact S.dF 8 .nil fun ac w β S=>⟨rfl,_,by rw [hj,gM,hB];exact S.z⟩
  have lQ:=b_ hB
  have uU:=cU lQ
  refine S.aI 3 .nil (need != 1) (fun ac w β mW rV S=>?_) (fun ac w β mW rV S=>?_)
  ·exact S.dF 5 .nil fun ac w β S=>⟨rfl,_,by rw [hj,gM,hB,mW];exact S.z⟩
  exact S.dF 5 .nil fun ac w β S=>⟨rfl,_,by rw [hj,gM,hB,mW];exact S.z⟩
 clear S;intro ac w β S
 refine S.bb 1 .nil ((((!(eD h))||(!(aK h m).2))||(!(a3 g 0 (((aK h m).1.U.length:Int)-1))))||((need != 1)&&(need != 2))) (fun ac w β kA S=>?_) (fun ac w β kA S=>?_)
 ·refine S.bq 10 (.cons (rB ao.ak (t:=31) (k:=0) (Nat.succ_pos 0) rfl (by kernel_rfl) (by kernel_rfl)) .nil) [GT.val h ((dA dM ae:aC ah).2 0),aa (-1),B false] fun ac w β S=>?_
  obtain⟨CL,iE,_,_⟩:=uR ao (k:=0) (Nat.succ_pos 0)
  change ad w0 ab _ _ CL h ((dA dM ae:aC ah).2 0) at iE
  exact yS (p':=()) (p'':=()) S (show(cL h m g page need false).1=h from m5) (show(cL h m g page need false).2.1=(-1) from m5) (show(cL h m g page need false).2.2=false from m5) rfl rfl rfl iE (show a_ (-1) from⟨by decide,by decide⟩) trivial
 obtain⟨qR,kZ⟩:=nU kA
 obtain⟨pg,j_⟩:=nU qR
 obtain⟨tg,Ad⟩:=nU pg
 have p8:=b_ tg
 have Iq:=r_ p8
 have rX:=b_ Ad
 have DK:=vX rX
 have DO:=b_ j_
 have DL:=cU DO
 have Rf:=Ue kZ
 refine S.bb 28 (.cons (cp (aU.U (d:=(aK h m).1) ju.ak) g Tryz.underlying71) (.cons (cz (aU.U (d:=(aK h m).1) ju.ak) 64 g.toNat 4 (R (el (aK h m).1.U g.toNat).live.length (tQ.U.2 g.toNat).live.1)) (.cons (aE fun w hw=>Pl w (el (aK h m).1.U g.toNat).live (tQ.U.2 g.toNat).live (bN (az.live (d:=(el (aK h m).1.U g.toNat)) (af.el (aU.U (d:=(aK h m).1) ju.ak) g.toNat (by omega))) hw) page need) .nil))) (!(cV (el (aK h m).1.U g.toNat).live page need).2) (fun ac w β oo S=>?_) (fun ac w β oo S=>?_)
 ·have Ag:=cn oo
  refine S.bq 10 (.cons (rB ao.ak (t:=31) (k:=0) (Nat.succ_pos 0) rfl (by kernel_rfl) (by kernel_rfl)) .nil) [GT.val h ((dA dM ae:aC ah).2 0),aa (-1),B false] fun ac w β S=>?_
  obtain⟨zh,yG,_,_⟩:=uR ao (k:=0) (Nat.succ_pos 0)
  change ad w0 ab _ _ zh h ((dA dM ae:aC ah).2 0) at yG
  exact yS (p':=()) (p'':=()) S (show(cL h m g page need false).1=h from m5) (show(cL h m g page need false).2.1=(-1) from m5) (show(cL h m g page need false).2.2=false from m5) rfl rfl rfl yG (show a_ (-1) from⟨by decide,by decide⟩) trivial
 have Ah:=b_ oo
 have te:=F2 Ah
 refine S.go 10 .nil fun ac w β S=>?_
 refine il S (fun ac w=>∃(aL:ah) (fS:Nat->cb) (qB:au) (u:_) (N:_) (β:_),(aL=j5 h m (cV (el (aK h m).1.U g.toNat).live page need).1 need)/\(fS 0).I.1=ae.I.1/\aj Tryz.prog Tryz.f135.ntmps w0 ab u N β ⟨[(1,.v (aa m)),(2,.v (aa g)),(3,.v (aa page)),(4,.v (aa need)),(5,.v (B false)),(12,.p 1 0),(15,.v (bg ((dA dM ae:aC ah).1).b (((dA dM ae:aC ah).1).off+0*4))),(18,.v (aa (cV (el (aK h m).1.U g.toNat).live page need).1))],[GT.cells h ai,ck ah]⟩ ac w/\ad w0 ab u N qB ([aL]) (((dA dM ae:aC ah).1,fS):aC ah)) ?_ ?_
 ·clear S;intro S
  refine S.aI 0 .nil (need==2) (fun ac w β u0 Iu S=>?_) (fun ac w β u0 Iu S=>?_)
  ·obtain⟨sM,g7,_,XC⟩:=rU ao (fun _ o=>Q0 o (k:=m.toNat) (show m.toNat<h.I.length by omega))
   change ad w0 ab _ _ sM (el h.I m.toNat).aT (((dA dM ae:aC ah).2 0).I.2 m.toNat).aT at g7
   have apn:=af.le g7.ak
   have apC:=g7.sub
   refine S.go 10 (.cons (iO ao.ak (t:=28) (k:=0) (j:=1) (v:=R h.I.length ((dA dM ae:aC ah).2 0).I.1) (Nat.succ_pos 0) (by kernel_rfl) (by kernel_rfl)) (.cons (cp (fs ao.ak) m Tryz.underlying28) (.cons (cz (fs ao.ak) 39 m.toNat 2 (R (el h.I m.toNat).aT.length (((dA dM ae:aC ah).2 0).I.2 m.toNat).aT.1)) (.cons (eI (aU.aT (d:=(el h.I m.toNat)) (af.el (fs ao.ak) m.toNat (by omega))) (l:=(el h.I m.toNat).aT.length) (k:=(cV (el (aK h m).1.U g.toNat).live page need).1.toNat) (i:=(cV (el (aK h m).1.U g.toNat).live page need).1) rfl (by omega) (by omega) Tryz.underlying39 (by kernel_rfl)) .nil)))) fun ac w β S=>S.fM (α:=Bool) g7 (t:=4) (k:=(cV (el (aK h m).1.U g.toNat).live page need).1.toNat) (j:=0) (off:=(((dA dM ae:aC ah).2 0).I.2 m.toNat).aT.1.off+(cV (el (aK h m).1.U g.toNat).live page need).1.toNat*1) (v:=B true) (y:=true) (q:=()) (fun _ _ _=>⟨ab,trivial,fun _ h=>False.elim h⟩) fun w N oT Vq S up pz d74 ajJ T_=>?_
   clear d74 g7
   obtain⟨Mg,l0,SN⟩:=XC _ _ _ _ _ ab up pz ajJ (fun b _ h=>False.elim h) List.length_set T_
   obtain⟨Ok,RO⟩:∃z,z=h.I.set m.toNat {el h.I m.toNat with aT:=((el h.I m.toNat).aT.set (cV (el (aK h m).1.U g.toNat).live page need).1.toNat true)}:=⟨_,rfl⟩
   have nT:ad w0 ab w N (Or cW oT) [(⟨h.mem,Ok,h.buf,h.ag⟩:ah)] (((dA dM ae:aC ah).1,Mg):aC ah):=by rw [RO];exact l0
   obtain⟨TN,amK⟩:=FO RO (show m.toNat<h.I.length by omega) List.length_set
   change (Mg 0).I.1=((dA dM ae:aC ah).2 0).I.1 at SN
   clear up pz T_ l0
   exact S.dF 1 .nil fun ac w β S=>⟨rfl,(⟨h.mem,Ok,h.buf,h.ag⟩:ah),Mg,(Or cW oT),_,_,_,(by clear S;first|exact HU (by assumption) (by assumption)|exact HT (by assumption)),SN,S.z,nT⟩
  exact S.dF 2 .nil fun ac w β S=>⟨rfl,h,(dA dM ae:aC ah).2,cW,_,_,_,(by clear S;first|exact HU (by assumption) (by assumption)|exact HT (by assumption)),rfl,S.z,ao⟩
 clear S ao ju c4
 rintro ac w ⟨aL,fS,qB,u,N,β,lR,aow,S,ez⟩
 have bn:=z0 lR (F2 (by assumption)).1
 refine S.ex fun S=>?_
 have i86:e7 (ds aL.buf (bO m g) page).1:=(QX (Dj ez.ak) (bO m g) page)
 refine S.go 42 (.cons (aE fun w hw=>Yt w m g) (.cons (iO ez.ak (t:=29) (k:=0) (j:=2) (v:=R aL.buf.length (fS 0).buf.1) (Nat.succ_pos 0) (by kernel_rfl) (by kernel_rfl)) (.cons (aE fun w hw=>Yc w aL.buf (fS 0).buf (bN (Dj ez.ak) hw) (bO m g) page) .nil))) fun ac w β S=>?_
 refine S.pV ⟨[(1,.v (aa m)),(2,.v (aa g)),(3,.v (aa page)),(4,.v (aa need)),(12,.p 1 0),(15,.v (bg ((dA dM ae:aC ah).1).b (((dA dM ae:aC ah).1).off+0*4))),(18,.v (aa (cV (el (aK h m).1.U g.toNat).live page need).1)),(20,.v (bg ((dA dM ae:aC ah).1).b (((dA dM ae:aC ah).1).off+0*4+2))),(21,.v (aa (bO m g))),(22,.p 2 0),(105,.v (B ((ds aL.buf (bO m g) page).2&&(e8 (ds aL.buf (bO m g) page).1.bd need))))],[GT.cells h ai,ck ah,GT.cells (ds aL.buf (bO m g) page).1 ()]⟩ ?_ ?_
 ·clear S;intro S
  refine S.bb 3 .nil (ds aL.buf (bO m g) page).2 (fun ac w β IQ S=>?_) (fun ac w β IQ S=>?_)
  ·exact S.dF 6 (.cons (aE fun w hw=>xc w (ds aL.buf (bO m g) page).1.bd need) .nil) fun ac w β S=>⟨rfl,_,by rw [IQ];exact S.z⟩
  exact S.dF 6 .nil fun ac w β S=>⟨rfl,_,by rw [IQ];exact S.z⟩
 clear S;intro ac w β S
 refine S.bb 1 .nil ((ds aL.buf (bO m g) page).2&&(e8 (ds aL.buf (bO m g) page).1.bd need)) (fun ac w β Rm S=>?_) (fun ac w β Rm S=>?_)
 ·obtain⟨anX,ac5⟩:=Ou Rm
  have anM:=qJ ac5
  refine S.go 2 .nil fun ac w β S=>?_
  refine dI ?_
  let ue:b1:=⟨[(1,.v (aa m)),(2,.v (aa g)),(3,.v (aa page)),(4,.v (aa need)),(12,.p 1 0),(15,.v (bg ((dA dM ae:aC ah).1).b (((dA dM ae:aC ah).1).off+0*4))),(18,.v (aa (cV (el (aK h m).1.U g.toNat).live page need).1)),(20,.v (bg ((dA dM ae:aC ah).1).b (((dA dM ae:aC ah).1).off+0*4+2))),(21,.v (aa (bO m g))),(22,.p 2 0),(105,.v (B true))],[GT.cells h ai,ck ah,GT.cells (ds aL.buf (bO m g) page).1 ()]⟩
  obtain⟨bA,bx,bS,S,ez⟩:∃bA bx bS,aj Tryz.prog Tryz.f135.ntmps w0 ab bA bx bS ue ac w/\ad w0 ab bA bx qB ([aL]) (((dA dM ae:aC ah).1,fS):aC ah):=⟨_,_,_,S.z,ez⟩
  refine mD (fun ac w=>∃u N β,aj Tryz.prog Tryz.f135.ntmps w0 ab u N β (ue.dl [1,2,3,4,15,18,20,21,22,105] [(13,.v (aa (ds aL.buf (bO m g) page).1.host)),(14,.v (B true))] 2 [(1,[R aL.mem.length (fS 0).mem.1,R aL.I.length (fS 0).I.1,R aL.buf.length (fS 0).buf.1,R aL.ag.length (fS 0).ag.1])]) ac w/\ad w0 ab u N qB ([aL]) (((dA dM ae:aC ah).1,fS):aC ah)/\e7 (ds aL.buf (bO m g) page).1) ?_ ?_
  ·refine S.dP (f:=6) 3 (by kernel_rfl) (by kernel_rfl) fun w S=>?_
   refine S.a9 0 [0] [] [(106,.v (GT.val aL (fS 0)))] (.cons (rB ez.ak (t:=31) (k:=0) (Nat.succ_pos 0) rfl (by kernel_rfl) (by kernel_rfl)) .nil) fun ac S=>?_
   refine ar.m8 fun W aH=>?_
   refine ar.mP (l':=cu 6 [0]) (by kernel_rfl) ?_
   have Ry ac w u N β (S:aj Tryz.prog Tryz.f135.ntmps w0 ab u N β (ue.dl [1,2,3,4,15,18,20,21,22,105] [(13,.v (aa (ds aL.buf (bO m g) page).1.host)),(14,.v (B true))] 3 [(1,[R aL.mem.length (fS 0).mem.1,R aL.I.length (fS 0).I.1,R aL.buf.length (fS 0).buf.1,R aL.ag.length (fS 0).ag.1])]) ac w) (ez:ad w0 ab u N qB ([aL]) (((dA dM ae:aC ah).1,fS):aC ah)) (i93:e7 (ds aL.buf (bO m g) page).1):W 0 (cu 6 [0,1,2,3,4,5]) ac w:=by
    exact nb aH ⟨rfl,_,_,_,S.z,ez,i93⟩
   have adL ac w u N β (S:aj Tryz.prog Tryz.f135.ntmps w0 ab u N β (ue.dl [1,2,3,4,15,18,20,21,22,105] [(106,.v (GT.val aL (fS 0))),(108,.v (aa (ds aL.buf (bO m g) page).1.host))] 3 []) ac w) (ez:ad w0 ab u N qB ([aL]) (((dA dM ae:aC ah).1,fS):aC ah)) (i93:e7 (ds aL.buf (bO m g) page).1) (al:d_ bx bA N u) (aP:cS ue.aM.length bS β):W 3 (cu 6 [0,1,2]) ac w:=by
    exact en aH 3 (S.wl aH [4,5] .nil fun _ _ _ S=>Ry _ _ _ _ _ S ez i93)
   have DT ac w u N β (S:aj Tryz.prog Tryz.f135.ntmps w0 ab u N β (ue.dl [1,2,3,4,15,18,20,21,22,105] [(107,.p 2 2)] 3 [(1,[R aL.mem.length (fS 0).mem.1,R aL.I.length (fS 0).I.1,R aL.buf.length (fS 0).buf.1,R aL.ag.length (fS 0).ag.1])]) ac w) (ez:ad w0 ab u N qB ([aL]) (((dA dM ae:aC ah).1,fS):aC ah)) (i93:e7 (ds aL.buf (bO m g) page).1):W 3 (cu 6 [0,1,3]) ac w:=by
    exact en aH 2 (S.wl aH [4,5] .nil fun _ _ _ S=>Ry _ _ _ _ _ S ez i93)
   have adM ac w u N β (S:aj Tryz.prog Tryz.f135.ntmps w0 ab u N β (ue.dl [1,2,3,4,15,18,20,21,22,105] [(106,.v (GT.val aL (fS 0))),(107,.p 2 2)] 3 []) ac w) (ez:ad w0 ab u N qB ([aL]) (((dA dM ae:aC ah).1,fS):aC ah)) (al:d_ bx bA N u) (aP:cS ue.aM.length bS β):W 4 (cu 6 [0,1]) ac w:=by
    exact gx aH 2 3 (S.e0 aH al aP [] .nil fun _ _ _ S ca=>adL _ _ _ _ _ S ez i86 al ca) (S.wl aH [] .nil fun _ _ _ S=>DT _ _ _ _ _ S ez i86)
   rw [aH]
   exact S.cZ aH [1] (fun _=>S.tR) fun _ S=>adM _ _ _ _ _ S ez (fun _ h=>⟨h,rfl⟩) (fun _ _=>rfl)
  clear S ez
  rintro ac w ⟨u,N,β,S,ez,i93⟩
  refine S.ex fun S=>?_
  refine S.bq 2 .nil [GT.val aL (fS 0),aa (ds aL.buf (bO m g) page).1.host,B true] fun ac w β S=>?_
  obtain⟨gd,my,_,_⟩:=uR ez (k:=0) (Nat.succ_pos 0)
  change ad w0 ab _ _ gd aL (fS 0) at my
  exact yS (p':=()) (p'':=()) S (show(cL h m g page need false).1=aL from m5) (show(cL h m g page need false).2.1=(ds aL.buf (bO m g) page).1.host from m5) (show(cL h m g page need false).2.2=true from m5) rfl rfl rfl my (e7.host (d:=(ds aL.buf (bO m g) page).1) i93) trivial
 have i101:ea (aV (el (el aL.I m.toNat).tables g.toNat) page).1:=(CV (af.el (aU.tables (d:=(el aL.I m.toNat)) (af.el (fs ez.ak) m.toNat (by omega))) g.toNat (by omega)) page)
 refine S.go 26 (.cons (iO ez.ak (t:=28) (k:=0) (j:=1) (v:=R aL.I.length (fS 0).I.1) (Nat.succ_pos 0) (by kernel_rfl) (by kernel_rfl)) (.cons (cp (fs ez.ak) m Tryz.underlying28) (.cons (cz (fs ez.ak) 72 m.toNat 7 (R (el aL.I m.toNat).tables.length ((fS 0).I.2 m.toNat).tables.1)) (.cons (cp (aU.tables (d:=(el aL.I m.toNat)) (af.el (fs ez.ak) m.toNat (by omega))) g Tryz.underlying72) (.cons (dy (aU.tables (d:=(el aL.I m.toNat)) (af.el (fs ez.ak) m.toNat (by omega))) 165 g.toNat) (.cons (aE fun w hw=>O0 w (el (el aL.I m.toNat).tables g.toNat) (((fS 0).I.2 m.toNat).tables.2 g.toNat) (bN (af.el (aU.tables (d:=(el aL.I m.toNat)) (af.el (fs ez.ak) m.toNat (by omega))) g.toNat (by omega)) hw) page) .nil)))))) fun ac w β S=>?_
 refine S.pV ⟨[(1,.v (aa m)),(2,.v (aa g)),(3,.v (aa page)),(4,.v (aa need)),(12,.p 1 0),(15,.v (bg ((dA dM ae:aC ah).1).b (((dA dM ae:aC ah).1).off+0*4))),(18,.v (aa (cV (el (aK h m).1.U g.toNat).live page need).1)),(20,.v (bg ((dA dM ae:aC ah).1).b (((dA dM ae:aC ah).1).off+0*4+2))),(21,.v (aa (bO m g))),(24,.p 3 0),(136,.v (B (((!(aV (el (el aL.I m.toNat).tables g.toNat) page).2)||((aV (el (el aL.I m.toNat).tables g.toNat) page).1.page==(-1)))||(!(e8 (aV (el (el aL.I m.toNat).tables g.toNat) page).1.bd need)))))],[GT.cells h ai,ck ah,GT.cells (ds aL.buf (bO m g) page).1 (),GT.cells (aV (el (el aL.I m.toNat).tables g.toNat) page).1 ()]⟩ ?_ ?_
 ·clear S;intro S
  refine S.bb 4 .nil (!(aV (el (el aL.I m.toNat).tables g.toNat) page).2) (fun ac w β x2 S=>?_) (fun ac w β x2 S=>?_)
  ·have anO:=cn x2
   exact S.dF 12 .nil fun ac w β S=>⟨rfl,_,by rw [x2];exact S.z⟩
  have anP:=b_ x2
  refine S.aI 5 .nil ((aV (el (el aL.I m.toNat).tables g.toNat) page).1.page==(-1)) (fun ac w β IB Ij S=>?_) (fun ac w β IB Ij S=>?_)
  ·exact S.dF 7 .nil fun ac w β S=>⟨rfl,_,by rw [x2,IB];exact S.z⟩
  exact S.dF 7 (.cons (aE fun w hw=>xc w (aV (el (el aL.I m.toNat).tables g.toNat) page).1.bd need) .nil) fun ac w β S=>⟨rfl,_,by rw [x2,IB];exact S.z⟩
 clear S;intro ac w β S
 refine S.bb 1 .nil (((!(aV (el (el aL.I m.toNat).tables g.toNat) page).2)||((aV (el (el aL.I m.toNat).tables g.toNat) page).1.page==(-1)))||(!(e8 (aV (el (el aL.I m.toNat).tables g.toNat) page).1.bd need))) (fun ac w β IC S=>?_) (fun ac w β IC S=>?_)
 ·refine S.go 6 .nil fun ac w β S=>S.uq (d:=140) ez (YB w aL (((dA dM ae:aC ah).1,fS):aC ah) qB (S.fX ez) (fun b hb=>(S.sep b (ez.sub b hb)).1) m (cV (el (aK h m).1.U g.toNat).live page need).1 need (by exact(z0 lR (F2 (by assumption)).1).1)) fun ac w N kK F9 S up EU d112 aeM=>?_
  change (kK 0).I.1=(fS 0).I.1 at aeM
  clear up d112 ez
  obtain⟨da,RS⟩:∃z,z=(gm aL m (cV (el (aK h m).1.U g.toNat).live page need).1 need):=⟨_,rfl⟩
  have jI:ad w0 ab w N F9 [da] ((((dA dM ae:aC ah).1),kK):aC ah):=by rw [RS];exact EU
  clear EU
  have afs:=K1 RS (z0 lR (F2 (by assumption)).1).1
  try dsimp only at afs
  refine S.go 12 (.cons (iO jI.ak (t:=28) (k:=0) (j:=1) (v:=R da.I.length (kK 0).I.1) (Nat.succ_pos 0) (by kernel_rfl) (by kernel_rfl)) (.cons (cp (fs jI.ak) m Tryz.underlying28) .nil)) fun ac w β S=>?_
  refine dI ?_
  refine S.dP (f:=28) 27 (by kernel_rfl) (by kernel_rfl) fun w S=>?_
  refine S.hm 3 [0,1,2,3,4,5,6,7,8,9,10,11,12,13,14,15,16,17,18,19,20,21,22,23,24] [] [(148,.v (R (el da.I m.toNat).tables.length ((kK 0).I.2 m.toNat).tables.1)),(149,.v (aa g)),(156,.v (GT.val (el (el da.I m.toNat).tables g.toNat) (((kK 0).I.2 m.toNat).tables.2 g.toNat))),(164,.v (R (el (el da.I m.toNat).U g.toNat).live.length (((kK 0).I.2 m.toNat).U.2 g.toNat).live.1)),(168,.v (R (el da.I m.toNat).outer.length ((kK 0).I.2 m.toNat).outer.1)),(169,.v (aa page))] (.cons (cz (fs jI.ak) 72 m.toNat 7 (R (el da.I m.toNat).tables.length ((kK 0).I.2 m.toNat).tables.1)) (.cons (cz (fs jI.ak) 72 m.toNat 7 (R (el da.I m.toNat).tables.length ((kK 0).I.2 m.toNat).tables.1)) (.cons (cp (aU.tables (d:=(el da.I m.toNat)) (af.el (fs jI.ak) m.toNat (by omega))) g Tryz.underlying72) (.cons (dy (aU.tables (d:=(el da.I m.toNat)) (af.el (fs jI.ak) m.toNat (by omega))) 165 g.toNat) (.cons (cz (fs jI.ak) 71 m.toNat 3 (R (el da.I m.toNat).U.length ((kK 0).I.2 m.toNat).U.1)) (.cons (cp (aU.U (d:=(el da.I m.toNat)) (af.el (fs jI.ak) m.toNat (by omega))) g Tryz.underlying71) (.cons (cz (aU.U (d:=(el da.I m.toNat)) (af.el (fs jI.ak) m.toNat (by omega))) 64 g.toNat 4 (R (el (el da.I m.toNat).U g.toNat).live.length (((kK 0).I.2 m.toNat).U.2 g.toNat).live.1)) (.cons (cz (fs jI.ak) 64 m.toNat 0 (R (el da.I m.toNat).outer.length ((kK 0).I.2 m.toNat).outer.1)) .nil)))))))) fun ac S=>?_
  refine ar.one (i:=25) (by kernel_rfl) ?_
  refine id (S.dz 170 (Yb w (el (el da.I m.toNat).tables g.toNat) (((kK 0).I.2 m.toNat).tables.2 g.toNat) (S.rd (af.el (aU.tables (d:=(el da.I m.toNat)) (af.el (fs jI.ak) m.toNat (by omega))) g.toNat (by omega))) (el (el da.I m.toNat).U g.toNat).live (((kK 0).I.2 m.toNat).U.2 g.toNat).live (S.rd (az.live (d:=(el (el da.I m.toNat).U g.toNat)) (af.el (aU.U (d:=(el da.I m.toNat)) (af.el (fs jI.ak) m.toNat (by omega))) g.toNat (by omega)))) (el da.I m.toNat).outer ((kK 0).I.2 m.toNat).outer (S.rd (aU.outer (d:=(el da.I m.toNat)) (af.el (fs jI.ak) m.toNat (by omega)))) page) fun ac w N Mj zc S up px d120=>?_)
  refine ar.next S up (by kernel_rfl) ?_
  have d121:=J.w d120 jI.sub
  replace jI:=jI.up up
  clear up d120
  refine S.a9 26 [26] [] [(171,.v (bg ((kK 0).I.2 m.toNat).tables.1.b (((kK 0).I.2 m.toNat).tables.1.off+g.toNat*2)))] (.cons (cp (aU.tables (d:=(el da.I m.toNat)) (af.el (fs jI.ak) m.toNat (by omega))) g Tryz.underlying72) .nil) fun ac S=>?_
  refine ar.one (i:=27) (by kernel_rfl) ?_
  obtain⟨qw,ib,ai9,Xa⟩:=rU jI (fun _ o=>Q2 o (k:=m.toNat) (show m.toNat<da.I.length by omega))
  change ad w0 ab _ _ qw (el da.I m.toNat).tables ((kK 0).I.2 m.toNat).tables at ib
  have aoG:=af.le ib.ak
  have apz:=ib.sub
  refine id (S.kO (α:=bQ) ib (t:=165) (k:=g.toNat) (off:=((kK 0).I.2 m.toNat).tables.1.off+g.toNat*2) px (J.symm (J.symm (J.part d121 ai9))) fun w N zd Fv S up v7 d131 M8 ER=>?_)
  refine ar.last (by kernel_rfl) ?_
  clear d131 ib
  obtain⟨su,Ug,yo⟩:=Xa _ _ _ _ _ zc up v7 M8 d121 List.length_set ER
  obtain⟨dn,RB⟩:∃z,z=da.I.set m.toNat {el da.I m.toNat with tables:=((el da.I m.toNat).tables.set g.toNat (lf (el (el da.I m.toNat).tables g.toNat) (el (el da.I m.toNat).U g.toNat).live (el da.I m.toNat).outer page))}:=⟨_,rfl⟩
  have nQ:ad w0 ab w N (Or F9 zd) [(⟨da.mem,dn,da.buf,da.ag⟩:ah)] (((((dA dM ae:aC ah).1)),su):aC ah):=by rw [RB];exact Ug
  obtain⟨afx,HV⟩:=y4 RB (show m.toNat<da.I.length by omega) List.length_set
  change (su 0).I.1=(kK 0).I.1 at yo
  clear up v7 ER Ug
  refine ar.done (by kernel_rfl) ?_ _
  refine S.ex fun S=>?_
  have i143:ea (aV (el (el dn m.toNat).tables g.toNat) page).1:=(CV (af.el (aU.tables (d:=(el dn m.toNat)) (af.el (hp yo (hf nQ.ak)) m.toNat (by omega))) g.toNat (by omega)) page)
  refine S.go 18 (.cons (cz (hp yo (hf nQ.ak)) 72 m.toNat 7 (R (el dn m.toNat).tables.length (((su 0).I.2) m.toNat).tables.1)) (.cons (cp (aU.tables (d:=(el dn m.toNat)) (af.el (hp yo (hf nQ.ak)) m.toNat (by omega))) g Tryz.underlying72) (.cons (dy (aU.tables (d:=(el dn m.toNat)) (af.el (hp yo (hf nQ.ak)) m.toNat (by omega))) 165 g.toNat) (.cons (aE fun w hw=>O0 w (el (el dn m.toNat).tables g.toNat) ((((su 0).I.2) m.toNat).tables.2 g.toNat) (bN (af.el (aU.tables (d:=(el dn m.toNat)) (af.el (hp yo (hf nQ.ak)) m.toNat (by omega))) g.toNat (by omega)) hw) page) .nil)))) fun ac w β S=>?_
  refine dI ?_
  refine S.dP (f:=14) 13 (by kernel_rfl) (by kernel_rfl) fun w S=>?_
  refine S.hm 3 [0,1,2,3,4,5,6,7,8,9,10] [] [(184,.v (bg ((((dA dM ae:aC ah).1))).b (((((dA dM ae:aC ah).1))).off+0*4+2))),(187,.v (R da.buf.length (su 0).buf.1)),(194,.v (GT.val (⟨(bO m g),page,(aV (el (el dn m.toNat).tables g.toNat) page).1.page,(aV (el (el dn m.toNat).tables g.toNat) page).1.bd⟩:aG) ()))] (.cons (iO nQ.ak (t:=29) (k:=0) (j:=2) (v:=R da.buf.length (su 0).buf.1) (Nat.succ_pos 0) (by kernel_rfl) (by kernel_rfl)) (.cons (fT (s:=Instr.build 138 [(0,aa (bO m g)),(1,aa page),(2,aa (aV (el (el dn m.toNat).tables g.toNat) page).1.page),(3,aa (aV (el (el dn m.toNat).tables g.toNat) page).1.bd)].toArray) (v:= .agg [aa (bO m g),aa page,aa (aV (el (el dn m.toNat).tables g.toNat) page).1.page,aa (aV (el (el dn m.toNat).tables g.toNat) page).1.bd].toArray) (fun w=>by kernel_rfl)) .nil)) fun ac S=>?_
  refine ar.one (i:=11) (by kernel_rfl) ?_
  refine id (S.dz 195 (Pf w da.buf (su 0).buf (S.rd (P5 nQ.ak)) (⟨(bO m g),page,(aV (el (el dn m.toNat).tables g.toNat) page).1.page,(aV (el (el dn m.toNat).tables g.toNat) page).1.bd⟩:aG) (show e7 (⟨(bO m g),page,(aV (el (el dn m.toNat).tables g.toNat) page).1.page,(aV (el (el dn m.toNat).tables g.toNat) page).1.bd⟩:aG) from⟨(FZ m g),hE,(ea.page (d:=(aV (el (el dn m.toNat).tables g.toNat) page).1) i143),(ea.bd (d:=(aV (el (el dn m.toNat).tables g.toNat) page).1) i143)⟩) (by(first|omega|(dsimp only;omega)))) fun ac w N Vf NV S up Br d147=>?_)
  refine ar.next S up (by kernel_rfl) ?_
  have d148:=J.w d147 nQ.sub
  replace nQ:=nQ.up up
  clear up d147
  refine S.a9 12 [12] [] [(196,.v (bg ((((dA dM ae:aC ah).1))).b (((((dA dM ae:aC ah).1))).off+0*4+2)))] .nil fun ac S=>?_
  refine ar.one (i:=13) (by kernel_rfl) ?_
  refine id (S.qt (α:=ah) nQ (t:=29) (v:=R (dE da.buf (⟨(bO m g),page,(aV (el (el dn m.toNat).tables g.toNat) page).1.page,(aV (el (el dn m.toNat).tables g.toNat) page).1.bd⟩:aG)).length Vf.1) (k:=0) (j:=2) (off:=((((dA dM ae:aC ah).1))).off+0*4+2) (y:=(⟨da.mem,dn,(dE da.buf (⟨(bO m g),page,(aV (el (el dn m.toNat).tables g.toNat) page).1.page,(aV (el (el dn m.toNat).tables g.toNat) page).1.bd⟩:aG)),da.ag⟩:ah)) (q:=({(su 0) with buf:=Vf}:cb)) (Fy:=NV) (by kernel_rfl) (by kernel_rfl) (Nat.succ_pos 0) (by kernel_rfl) (by kernel_rfl) (Nat.le_of_ble_eq_true (by kernel_rfl)) (by kernel_rfl) (fun G fk p7=>⟨_,L2 fk Br.own (fun b h an=>d148 b (p7 b h) an),fun _ h=>h⟩) d148 Br.sub Br.dJ fun w N hL S up Uh d152 ajf agq=>?_)
  refine ar.last (by kernel_rfl) ?_
  obtain⟨gZ,jb,aou⟩:∃gZ:Nat->cb,ad w0 ab _ _ hL [(⟨da.mem,dn,(dE da.buf (⟨(bO m g),page,(aV (el (el dn m.toNat).tables g.toNat) page).1.page,(aV (el (el dn m.toNat).tables g.toNat) page).1.bd⟩:aG)),da.ag⟩:ah)] ((((((dA dM ae:aC ah).1))),gZ):aC ah)/\(gZ 0).I.1=(su 0).I.1:=⟨_,Uh,rfl⟩
  clear up d152 nQ Uh ajf agq
  refine ar.done (by kernel_rfl) ?_ _
  refine S.ex fun S=>?_
  refine S.go 2 .nil fun ac w β S=>?_
  refine dI ?_
  let ua:b1:=⟨[(12,.p 1 0),(15,.v (bg (((((dA dM ae:aC ah).1)))).b ((((((dA dM ae:aC ah).1)))).off+0*4))),(24,.p 3 0)],[GT.cells h ai,ck ah,GT.cells (ds aL.buf (bO m g) page).1 (),GT.cells (aV (el (el dn m.toNat).tables g.toNat) page).1 ()]⟩
  obtain⟨bA,bx,bS,S,jb⟩:∃bA bx bS,aj Tryz.prog Tryz.f135.ntmps w0 ab bA bx bS ua ac w/\ad w0 ab bA bx hL ([(⟨da.mem,dn,(dE da.buf (⟨(bO m g),page,(aV (el (el dn m.toNat).tables g.toNat) page).1.page,(aV (el (el dn m.toNat).tables g.toNat) page).1.bd⟩:aG)),da.ag⟩:ah)]) ((((((dA dM ae:aC ah).1))),gZ):aC ah):=⟨_,_,_,S.z,jb⟩
  refine mD (fun ac w=>∃u N β,aj Tryz.prog Tryz.f135.ntmps w0 ab u N β (ua.dl [15,24] [(13,.v (aa (aV (el (el dn m.toNat).tables g.toNat) page).1.page)),(14,.v (B true))] 2 [(1,[R da.mem.length (gZ 0).mem.1,R dn.length (gZ 0).I.1,R (dE da.buf (⟨(bO m g),page,(aV (el (el dn m.toNat).tables g.toNat) page).1.page,(aV (el (el dn m.toNat).tables g.toNat) page).1.bd⟩:aG)).length (gZ 0).buf.1,R da.ag.length (gZ 0).ag.1])]) ac w/\ad w0 ab u N hL ([(⟨da.mem,dn,(dE da.buf (⟨(bO m g),page,(aV (el (el dn m.toNat).tables g.toNat) page).1.page,(aV (el (el dn m.toNat).tables g.toNat) page).1.bd⟩:aG)),da.ag⟩:ah)]) ((((((dA dM ae:aC ah).1))),gZ):aC ah)/\e7 (ds aL.buf (bO m g) page).1/\ea (aV (el (el dn m.toNat).tables g.toNat) page).1) ?_ ?_
  ·refine S.dP (f:=6) 3 (by kernel_rfl) (by kernel_rfl) fun w S=>?_
   refine S.a9 0 [0] [] [(197,.v (GT.val (⟨da.mem,dn,(dE da.buf (⟨(bO m g),page,(aV (el (el dn m.toNat).tables g.toNat) page).1.page,(aV (el (el dn m.toNat).tables g.toNat) page).1.bd⟩:aG)),da.ag⟩:ah) (gZ 0)))] (.cons (rB jb.ak (t:=31) (k:=0) (Nat.succ_pos 0) rfl (by kernel_rfl) (by kernel_rfl)) .nil) fun ac S=>?_
   refine ar.m8 fun W aH=>?_
   refine ar.mP (l':=cu 6 [0]) (by kernel_rfl) ?_
   have Am ac w u N β (S:aj Tryz.prog Tryz.f135.ntmps w0 ab u N β (ua.dl [15,24] [(13,.v (aa (aV (el (el dn m.toNat).tables g.toNat) page).1.page)),(14,.v (B true))] 4 [(1,[R da.mem.length (gZ 0).mem.1,R dn.length (gZ 0).I.1,R (dE da.buf (⟨(bO m g),page,(aV (el (el dn m.toNat).tables g.toNat) page).1.page,(aV (el (el dn m.toNat).tables g.toNat) page).1.bd⟩:aG)).length (gZ 0).buf.1,R da.ag.length (gZ 0).ag.1])]) ac w) (jb:ad w0 ab u N hL ([(⟨da.mem,dn,(dE da.buf (⟨(bO m g),page,(aV (el (el dn m.toNat).tables g.toNat) page).1.page,(aV (el (el dn m.toNat).tables g.toNat) page).1.bd⟩:aG)),da.ag⟩:ah)]) ((((((dA dM ae:aC ah).1))),gZ):aC ah)) (i159:e7 (ds aL.buf (bO m g) page).1) (i158:ea (aV (el (el dn m.toNat).tables g.toNat) page).1):W 0 (cu 6 [0,1,2,3,4,5]) ac w:=by
    exact nb aH ⟨rfl,_,_,_,S.z,jb,i159,i158⟩
   have ado ac w u N β (S:aj Tryz.prog Tryz.f135.ntmps w0 ab u N β (ua.dl [15,24] [(197,.v (GT.val (⟨da.mem,dn,(dE da.buf (⟨(bO m g),page,(aV (el (el dn m.toNat).tables g.toNat) page).1.page,(aV (el (el dn m.toNat).tables g.toNat) page).1.bd⟩:aG)),da.ag⟩:ah) (gZ 0))),(199,.v (aa (aV (el (el dn m.toNat).tables g.toNat) page).1.page))] 4 []) ac w) (jb:ad w0 ab u N hL ([(⟨da.mem,dn,(dE da.buf (⟨(bO m g),page,(aV (el (el dn m.toNat).tables g.toNat) page).1.page,(aV (el (el dn m.toNat).tables g.toNat) page).1.bd⟩:aG)),da.ag⟩:ah)]) ((((((dA dM ae:aC ah).1))),gZ):aC ah)) (i159:e7 (ds aL.buf (bO m g) page).1) (i158:ea (aV (el (el dn m.toNat).tables g.toNat) page).1) (al:d_ bx bA N u) (aP:cS ua.aM.length bS β):W 3 (cu 6 [0,1,2]) ac w:=by
    exact en aH 3 (S.wl aH [4,5] .nil fun _ _ _ S=>Am _ _ _ _ _ S jb i159 i158)
   have adp ac w u N β (S:aj Tryz.prog Tryz.f135.ntmps w0 ab u N β (ua.dl [15,24] [(198,.p 3 0)] 4 [(1,[R da.mem.length (gZ 0).mem.1,R dn.length (gZ 0).I.1,R (dE da.buf (⟨(bO m g),page,(aV (el (el dn m.toNat).tables g.toNat) page).1.page,(aV (el (el dn m.toNat).tables g.toNat) page).1.bd⟩:aG)).length (gZ 0).buf.1,R da.ag.length (gZ 0).ag.1])]) ac w) (jb:ad w0 ab u N hL ([(⟨da.mem,dn,(dE da.buf (⟨(bO m g),page,(aV (el (el dn m.toNat).tables g.toNat) page).1.page,(aV (el (el dn m.toNat).tables g.toNat) page).1.bd⟩:aG)),da.ag⟩:ah)]) ((((((dA dM ae:aC ah).1))),gZ):aC ah)) (i159:e7 (ds aL.buf (bO m g) page).1) (i158:ea (aV (el (el dn m.toNat).tables g.toNat) page).1):W 3 (cu 6 [0,1,3]) ac w:=by
    exact en aH 2 (S.wl aH [4,5] .nil fun _ _ _ S=>Am _ _ _ _ _ S jb i159 i158)
   have adq ac w u N β (S:aj Tryz.prog Tryz.f135.ntmps w0 ab u N β (ua.dl [15,24] [(197,.v (GT.val (⟨da.mem,dn,(dE da.buf (⟨(bO m g),page,(aV (el (el dn m.toNat).tables g.toNat) page).1.page,(aV (el (el dn m.toNat).tables g.toNat) page).1.bd⟩:aG)),da.ag⟩:ah) (gZ 0))),(198,.p 3 0)] 4 []) ac w) (jb:ad w0 ab u N hL ([(⟨da.mem,dn,(dE da.buf (⟨(bO m g),page,(aV (el (el dn m.toNat).tables g.toNat) page).1.page,(aV (el (el dn m.toNat).tables g.toNat) page).1.bd⟩:aG)),da.ag⟩:ah)]) ((((((dA dM ae:aC ah).1))),gZ):aC ah)) (al:d_ bx bA N u) (aP:cS ua.aM.length bS β):W 4 (cu 6 [0,1]) ac w:=by
    exact gx aH 2 3 (S.e0 aH al aP [] .nil fun _ _ _ S ca=>ado _ _ _ _ _ S jb i86 i143 al ca) (S.wl aH [] .nil fun _ _ _ S=>adp _ _ _ _ _ S jb i86 i143)
   rw [aH]
   exact S.cZ aH [1] (fun _=>S.tR) fun _ S=>adq _ _ _ _ _ S jb (fun _ h=>⟨h,rfl⟩) (fun _ _=>rfl)
  clear S jb
  rintro ac w ⟨u,N,β,S,jb,i159,i158⟩
  refine S.ex fun S=>?_
  refine S.bq 2 .nil [GT.val (⟨da.mem,dn,(dE da.buf (⟨(bO m g),page,(aV (el (el dn m.toNat).tables g.toNat) page).1.page,(aV (el (el dn m.toNat).tables g.toNat) page).1.bd⟩:aG)),da.ag⟩:ah) (gZ 0),aa (aV (el (el dn m.toNat).tables g.toNat) page).1.page,B true] fun ac w β S=>?_
  obtain⟨NW,v8,_,_⟩:=uR jb (k:=0) (Nat.succ_pos 0)
  change ad w0 ab _ _ NW (⟨da.mem,dn,(dE da.buf (⟨(bO m g),page,(aV (el (el dn m.toNat).tables g.toNat) page).1.page,(aV (el (el dn m.toNat).tables g.toNat) page).1.bd⟩:aG)),da.ag⟩:ah) (gZ 0) at v8
  exact yS (p':=()) (p'':=()) S (show(cL h m g page need false).1=(⟨da.mem,dn,(dE da.buf (⟨(bO m g),page,(aV (el (el dn m.toNat).tables g.toNat) page).1.page,(aV (el (el dn m.toNat).tables g.toNat) page).1.bd⟩:aG)),da.ag⟩:ah) from m5) (show(cL h m g page need false).2.1=(aV (el (el dn m.toNat).tables g.toNat) page).1.page from m5) (show(cL h m g page need false).2.2=true from m5) rfl rfl rfl v8 (ea.page (d:=(aV (el (el dn m.toNat).tables g.toNat) page).1) i158) trivial
 obtain⟨acH,acI⟩:=nU IC
 obtain⟨acJ,acK⟩:=nU acH
 have anS:=b_ acJ
 have ans:¬((aV (el (el aL.I m.toNat).tables g.toNat) page).1.page=(-1)):=ne_of_beq_false acK
 have acL:=b_ acI
 have ant:=qJ acL
 refine S.go 4 .nil fun ac w β S=>?_
 refine dI ?_
 refine S.dP (f:=14) 13 (by kernel_rfl) (by kernel_rfl) fun w S=>?_
 refine S.hm 3 [0,1,2,3,4,5,6,7,8,9,10] [] [(184,.v (bg ((dA dM ae:aC ah).1).b (((dA dM ae:aC ah).1).off+0*4+2))),(187,.v (R aL.buf.length (fS 0).buf.1)),(194,.v (GT.val (⟨(bO m g),page,(aV (el (el aL.I m.toNat).tables g.toNat) page).1.page,(aV (el (el aL.I m.toNat).tables g.toNat) page).1.bd⟩:aG) ()))] (.cons (iO ez.ak (t:=29) (k:=0) (j:=2) (v:=R aL.buf.length (fS 0).buf.1) (Nat.succ_pos 0) (by kernel_rfl) (by kernel_rfl)) (.cons (fT (s:=Instr.build 138 [(0,aa (bO m g)),(1,aa page),(2,aa (aV (el (el aL.I m.toNat).tables g.toNat) page).1.page),(3,aa (aV (el (el aL.I m.toNat).tables g.toNat) page).1.bd)].toArray) (v:= .agg [aa (bO m g),aa page,aa (aV (el (el aL.I m.toNat).tables g.toNat) page).1.page,aa (aV (el (el aL.I m.toNat).tables g.toNat) page).1.bd].toArray) (fun w=>by kernel_rfl)) .nil)) fun ac S=>?_
 refine ar.one (i:=11) (by kernel_rfl) ?_
 refine id (S.dz 195 (Pf w aL.buf (fS 0).buf (S.rd (Dj ez.ak)) (⟨(bO m g),page,(aV (el (el aL.I m.toNat).tables g.toNat) page).1.page,(aV (el (el aL.I m.toNat).tables g.toNat) page).1.bd⟩:aG) (show e7 (⟨(bO m g),page,(aV (el (el aL.I m.toNat).tables g.toNat) page).1.page,(aV (el (el aL.I m.toNat).tables g.toNat) page).1.bd⟩:aG) from⟨(FZ m g),hE,(ea.page (d:=(aV (el (el aL.I m.toNat).tables g.toNat) page).1) i101),(ea.bd (d:=(aV (el (el aL.I m.toNat).tables g.toNat) page).1) i101)⟩) (by(first|omega|(dsimp only;omega)))) fun ac w N sy Gb S up v9 d178=>?_)
 refine ar.next S up (by kernel_rfl) ?_
 have d179:=J.w d178 ez.sub
 replace ez:=ez.up up
 clear up d178
 refine S.a9 12 [12] [] [(196,.v (bg ((dA dM ae:aC ah).1).b (((dA dM ae:aC ah).1).off+0*4+2)))] .nil fun ac S=>?_
 refine ar.one (i:=13) (by kernel_rfl) ?_
 refine id (S.qt (α:=ah) ez (t:=29) (v:=R (dE aL.buf (⟨(bO m g),page,(aV (el (el aL.I m.toNat).tables g.toNat) page).1.page,(aV (el (el aL.I m.toNat).tables g.toNat) page).1.bd⟩:aG)).length sy.1) (k:=0) (j:=2) (off:=((dA dM ae:aC ah).1).off+0*4+2) (y:=(⟨aL.mem,aL.I,(dE aL.buf (⟨(bO m g),page,(aV (el (el aL.I m.toNat).tables g.toNat) page).1.page,(aV (el (el aL.I m.toNat).tables g.toNat) page).1.bd⟩:aG)),aL.ag⟩:ah)) (q:=({(fS 0) with buf:=sy}:cb)) (Fy:=Gb) (by kernel_rfl) (by kernel_rfl) (Nat.succ_pos 0) (by kernel_rfl) (by kernel_rfl) (Nat.le_of_ble_eq_true (by kernel_rfl)) (by kernel_rfl) (fun G fk p7=>⟨_,L2 fk v9.own (fun b h an=>d179 b (p7 b h) an),fun _ h=>h⟩) d179 v9.sub v9.dJ fun w N ug S up Uk d183 Nc agv=>?_)
 refine ar.last (by kernel_rfl) ?_
 obtain⟨iT,iR,aov⟩:∃iT:Nat->cb,ad w0 ab _ _ ug [(⟨aL.mem,aL.I,(dE aL.buf (⟨(bO m g),page,(aV (el (el aL.I m.toNat).tables g.toNat) page).1.page,(aV (el (el aL.I m.toNat).tables g.toNat) page).1.bd⟩:aG)),aL.ag⟩:ah)] ((((dA dM ae:aC ah).1),iT):aC ah)/\(iT 0).I.1=(fS 0).I.1:=⟨_,Uk,rfl⟩
 clear up d183 ez Uk Nc agv
 refine ar.done (by kernel_rfl) ?_ _
 refine S.ex fun S=>?_
 refine S.go 2 .nil fun ac w β S=>?_
 refine dI ?_
 let uc:b1:=⟨[(12,.p 1 0),(15,.v (bg (((dA dM ae:aC ah).1)).b ((((dA dM ae:aC ah).1)).off+0*4))),(24,.p 3 0)],[GT.cells h ai,ck ah,GT.cells (ds aL.buf (bO m g) page).1 (),GT.cells (aV (el (el aL.I m.toNat).tables g.toNat) page).1 ()]⟩
 obtain⟨bA,bx,bS,S,iR⟩:∃bA bx bS,aj Tryz.prog Tryz.f135.ntmps w0 ab bA bx bS uc ac w/\ad w0 ab bA bx ug ([(⟨aL.mem,aL.I,(dE aL.buf (⟨(bO m g),page,(aV (el (el aL.I m.toNat).tables g.toNat) page).1.page,(aV (el (el aL.I m.toNat).tables g.toNat) page).1.bd⟩:aG)),aL.ag⟩:ah)]) ((((dA dM ae:aC ah).1),iT):aC ah):=⟨_,_,_,S.z,iR⟩
 refine mD (fun ac w=>∃u N β,aj Tryz.prog Tryz.f135.ntmps w0 ab u N β (uc.dl [15,24] [(13,.v (aa (aV (el (el aL.I m.toNat).tables g.toNat) page).1.page)),(14,.v (B true))] 2 [(1,[R aL.mem.length (iT 0).mem.1,R aL.I.length (iT 0).I.1,R (dE aL.buf (⟨(bO m g),page,(aV (el (el aL.I m.toNat).tables g.toNat) page).1.page,(aV (el (el aL.I m.toNat).tables g.toNat) page).1.bd⟩:aG)).length (iT 0).buf.1,R aL.ag.length (iT 0).ag.1])]) ac w/\ad w0 ab u N ug ([(⟨aL.mem,aL.I,(dE aL.buf (⟨(bO m g),page,(aV (el (el aL.I m.toNat).tables g.toNat) page).1.page,(aV (el (el aL.I m.toNat).tables g.toNat) page).1.bd⟩:aG)),aL.ag⟩:ah)]) ((((dA dM ae:aC ah).1),iT):aC ah)/\e7 (ds aL.buf (bO m g) page).1/\ea (aV (el (el aL.I m.toNat).tables g.toNat) page).1) ?_ ?_
 ·refine S.dP (f:=6) 3 (by kernel_rfl) (by kernel_rfl) fun w S=>?_
  refine S.a9 0 [0] [] [(197,.v (GT.val (⟨aL.mem,aL.I,(dE aL.buf (⟨(bO m g),page,(aV (el (el aL.I m.toNat).tables g.toNat) page).1.page,(aV (el (el aL.I m.toNat).tables g.toNat) page).1.bd⟩:aG)),aL.ag⟩:ah) (iT 0)))] (.cons (rB iR.ak (t:=31) (k:=0) (Nat.succ_pos 0) rfl (by kernel_rfl) (by kernel_rfl)) .nil) fun ac S=>?_
  refine ar.m8 fun W aH=>?_
  refine ar.mP (l':=cu 6 [0]) (by kernel_rfl) ?_
  have Rt ac w u N β (S:aj Tryz.prog Tryz.f135.ntmps w0 ab u N β (uc.dl [15,24] [(13,.v (aa (aV (el (el aL.I m.toNat).tables g.toNat) page).1.page)),(14,.v (B true))] 4 [(1,[R aL.mem.length (iT 0).mem.1,R aL.I.length (iT 0).I.1,R (dE aL.buf (⟨(bO m g),page,(aV (el (el aL.I m.toNat).tables g.toNat) page).1.page,(aV (el (el aL.I m.toNat).tables g.toNat) page).1.bd⟩:aG)).length (iT 0).buf.1,R aL.ag.length (iT 0).ag.1])]) ac w) (iR:ad w0 ab u N ug ([(⟨aL.mem,aL.I,(dE aL.buf (⟨(bO m g),page,(aV (el (el aL.I m.toNat).tables g.toNat) page).1.page,(aV (el (el aL.I m.toNat).tables g.toNat) page).1.bd⟩:aG)),aL.ag⟩:ah)]) ((((dA dM ae:aC ah).1),iT):aC ah)) (i190:e7 (ds aL.buf (bO m g) page).1) (i189:ea (aV (el (el aL.I m.toNat).tables g.toNat) page).1):W 0 (cu 6 [0,1,2,3,4,5]) ac w:=by
   exact nb aH ⟨rfl,_,_,_,S.z,iR,i190,i189⟩
  have adw ac w u N β (S:aj Tryz.prog Tryz.f135.ntmps w0 ab u N β (uc.dl [15,24] [(197,.v (GT.val (⟨aL.mem,aL.I,(dE aL.buf (⟨(bO m g),page,(aV (el (el aL.I m.toNat).tables g.toNat) page).1.page,(aV (el (el aL.I m.toNat).tables g.toNat) page).1.bd⟩:aG)),aL.ag⟩:ah) (iT 0))),(199,.v (aa (aV (el (el aL.I m.toNat).tables g.toNat) page).1.page))] 4 []) ac w) (iR:ad w0 ab u N ug ([(⟨aL.mem,aL.I,(dE aL.buf (⟨(bO m g),page,(aV (el (el aL.I m.toNat).tables g.toNat) page).1.page,(aV (el (el aL.I m.toNat).tables g.toNat) page).1.bd⟩:aG)),aL.ag⟩:ah)]) ((((dA dM ae:aC ah).1),iT):aC ah)) (i190:e7 (ds aL.buf (bO m g) page).1) (i189:ea (aV (el (el aL.I m.toNat).tables g.toNat) page).1) (al:d_ bx bA N u) (aP:cS uc.aM.length bS β):W 3 (cu 6 [0,1,2]) ac w:=by
   exact en aH 3 (S.wl aH [4,5] .nil fun _ _ _ S=>Rt _ _ _ _ _ S iR i190 i189)
  have adx ac w u N β (S:aj Tryz.prog Tryz.f135.ntmps w0 ab u N β (uc.dl [15,24] [(198,.p 3 0)] 4 [(1,[R aL.mem.length (iT 0).mem.1,R aL.I.length (iT 0).I.1,R (dE aL.buf (⟨(bO m g),page,(aV (el (el aL.I m.toNat).tables g.toNat) page).1.page,(aV (el (el aL.I m.toNat).tables g.toNat) page).1.bd⟩:aG)).length (iT 0).buf.1,R aL.ag.length (iT 0).ag.1])]) ac w) (iR:ad w0 ab u N ug ([(⟨aL.mem,aL.I,(dE aL.buf (⟨(bO m g),page,(aV (el (el aL.I m.toNat).tables g.toNat) page).1.page,(aV (el (el aL.I m.toNat).tables g.toNat) page).1.bd⟩:aG)),aL.ag⟩:ah)]) ((((dA dM ae:aC ah).1),iT):aC ah)) (i190:e7 (ds aL.buf (bO m g) page).1) (i189:ea (aV (el (el aL.I m.toNat).tables g.toNat) page).1):W 3 (cu 6 [0,1,3]) ac w:=by
   exact en aH 2 (S.wl aH [4,5] .nil fun _ _ _ S=>Rt _ _ _ _ _ S iR i190 i189)
  have ady ac w u N β (S:aj Tryz.prog Tryz.f135.ntmps w0 ab u N β (uc.dl [15,24] [(197,.v (GT.val (⟨aL.mem,aL.I,(dE aL.buf (⟨(bO m g),page,(aV (el (el aL.I m.toNat).tables g.toNat) page).1.page,(aV (el (el aL.I m.toNat).tables g.toNat) page).1.bd⟩:aG)),aL.ag⟩:ah) (iT 0))),(198,.p 3 0)] 4 []) ac w) (iR:ad w0 ab u N ug ([(⟨aL.mem,aL.I,(dE aL.buf (⟨(bO m g),page,(aV (el (el aL.I m.toNat).tables g.toNat) page).1.page,(aV (el (el aL.I m.toNat).tables g.toNat) page).1.bd⟩:aG)),aL.ag⟩:ah)]) ((((dA dM ae:aC ah).1),iT):aC ah)) (al:d_ bx bA N u) (aP:cS uc.aM.length bS β):W 4 (cu 6 [0,1]) ac w:=by
   exact gx aH 2 3 (S.e0 aH al aP [] .nil fun _ _ _ S ca=>adw _ _ _ _ _ S iR i86 i101 al ca) (S.wl aH [] .nil fun _ _ _ S=>adx _ _ _ _ _ S iR i86 i101)
  rw [aH]
  exact S.cZ aH [1] (fun _=>S.tR) fun _ S=>ady _ _ _ _ _ S iR (fun _ h=>⟨h,rfl⟩) (fun _ _=>rfl)
 clear S iR
 rintro ac w ⟨u,N,β,S,iR,i190,i189⟩
 refine S.ex fun S=>?_
 refine S.bq 2 .nil [GT.val (⟨aL.mem,aL.I,(dE aL.buf (⟨(bO m g),page,(aV (el (el aL.I m.toNat).tables g.toNat) page).1.page,(aV (el (el aL.I m.toNat).tables g.toNat) page).1.bd⟩:aG)),aL.ag⟩:ah) (iT 0),aa (aV (el (el aL.I m.toNat).tables g.toNat) page).1.page,B true] fun ac w β S=>?_
 obtain⟨Wn,Ul,_,_⟩:=uR iR (k:=0) (Nat.succ_pos 0)
 change ad w0 ab _ _ Wn (⟨aL.mem,aL.I,(dE aL.buf (⟨(bO m g),page,(aV (el (el aL.I m.toNat).tables g.toNat) page).1.page,(aV (el (el aL.I m.toNat).tables g.toNat) page).1.bd⟩:aG)),aL.ag⟩:ah) (iT 0) at Ul
 exact yS (p':=()) (p'':=()) S (show(cL h m g page need false).1=(⟨aL.mem,aL.I,(dE aL.buf (⟨(bO m g),page,(aV (el (el aL.I m.toNat).tables g.toNat) page).1.page,(aV (el (el aL.I m.toNat).tables g.toNat) page).1.bd⟩:aG)),aL.ag⟩:ah) from m5) (show(cL h m g page need false).2.1=(aV (el (el aL.I m.toNat).tables g.toNat) page).1.page from m5) (show(cL h m g page need false).2.2=true from m5) rfl rfl rfl Ul (ea.page (d:=(aV (el (el aL.I m.toNat).tables g.toNat) page).1) i189) trivial
theorem Pc (w0:World) (h:ah) (ai:cb) (a1:bT w0 h ai) (m:Int) (g:Int) (page:Int) (hE:a_ page) (need:Int):Calls Tryz.prog 44 [GT.val h ai,aa m,aa g,aa page,aa need].toArray w0 (zo ab w0 ((cL h m g page need false).1:ah) ((cL h m g page need false).2.1:Int) ((cL h m g page need false).2.2:Bool)):=by
 refine Calls.run ab Tryz.func44 ?_
 intro ac β S
 have m1:h.mem.length<=4194304:=af.le (bz.mem (d:=h) a1)
 have m2:h.I.length<=4194304:=af.le (bz.I (d:=h) a1)
 have mZ:h.buf.length<=4194304:=af.le (bz.buf (d:=h) a1)
 have m0:h.ag.length<=4194304:=af.le (bz.ag (d:=h) a1)
 have yl:=hE.lo;have yc:=hE.hi
 refine S.go 15 .nil fun ac w β S=>S.WK (r:=(cL h m g page need false).1) (r':=(cL h m g page need false).2.1) (r'':=(cL h m g page need false).2.2) (d:=18) (YA w h ai (S.rd (S.arg a1)) m g page hE need false (by rfl)) fun ac w N ae br S up aD d4 i5=>?_
 clear up d4
 refine S.bq 9 .nil [GT.val (cL h m g page need false).1 ae,aa (cL h m g page need false).2.1,B (cL h m g page need false).2.2] fun ac w β S=>?_
 exact yS (p':=()) (p'':=()) S (show(cL h m g page need false).1=(cL h m g page need false).1 by clear S;rfl) (show(cL h m g page need false).2.1=(cL h m g page need false).2.1 by clear S;rfl) (show(cL h m g page need false).2.2=(cL h m g page need false).2.2 by clear S;rfl) rfl rfl rfl aD i5 trivial
theorem O4 (w0:World) (page:Int) (hE:a_ page) (write:Bool):Calls Tryz.prog 48 [aa page,B write].toArray w0 (fun e w'=>e= .returned (GT.val (gU page write) ())/\bu ab w0 w'):=by
 refine Calls.run ab Tryz.func48 ?_
 intro ac β S
 have yl:=hE.lo;have yc:=hE.hi
 exact S.aq 14 (.cons (fT (s:=Instr.build 68 [(0,aa 1),(1,aa page),(2,B write)].toArray) (v:= .agg [aa 1,aa page,B write,aa 0].toArray) (fun w=>by kernel_rfl)) .nil) [GT.val (⟨1,page,write,0⟩:df) ()] (hU (p:=()) (by clear S;rfl))
theorem zG (w0:World) (g:ax) (bc:c6) (aJ:bT w0 g bc) (e:df) (he:fF e):Calls Tryz.prog 47 [GT.val g bc,GT.val e ()].toArray w0 (dw ab w0 (({g with exit:=e}:ax):ax)):=by
 refine Calls.run ab Tryz.func47 ?_
 intro ac β S
 have iy:g.prog.length<=4194304:=af.le (az.prog (d:=g) aJ)
 have iA:g.written.length<=4194304:=af.le (az.written (d:=g) aJ)
 have ix:g.live.length<=4194304:=af.le (az.live (d:=g) aJ)
 have iz:g.seen.length<=4194304:=af.le (az.seen (d:=g) aJ)
 refine S.go 10 .nil fun ac w β S=>S.cN (r:=g) (d:=7) (sT w g bc (S.rd (S.arg aJ))) fun ac w N ae br S up aD d4=>?_
 clear up d4
 have i8:a_ g.acc:=az.acc (d:=g) aD.ak
 have i9:a_ g.aw:=az.aw (d:=g) aD.ak
 have i16:hr g.aN:=az.aN (d:=g) aD.ak
 have i17:a_ g.aB:=az.aB (d:=g) aD.ak
 obtain⟨dO,dT,gb,ko,bJ,bo,c4,fz,_,_,_,_,d22,d23,d24,d25,d26,d27⟩:=mB aD
 refine S.bq 18 .nil [GT.val (⟨g.prog,g.acc,g.aw,g.written,g.live,g.aN,g.aB,e,g.halted,g.seen⟩:ax) (⟨ae.prog,ae.written,ae.live,ae.seen⟩:c6)] fun ac w β S=>?_
 have fC:=hI (x:=(⟨g.prog,g.acc,g.aw,g.written,g.live,g.aN,g.aB,e,g.halted,g.seen⟩:ax)) (p:=(⟨ae.prog,ae.written,ae.live,ae.seen⟩:c6)) bJ bo c4 fz d22 d23 d24 d25 d26 d27 i8 i9 i16 i17 he
 exact cx S (show({g with exit:=e}:ax)=(⟨g.prog,g.acc,g.aw,g.written,g.live,g.aN,g.aB,e,g.halted,g.seen⟩:ax) by clear S;rfl) rfl fC
theorem S6 {p:Prop} (h:p:=by clear S;(first|(unfold dr;rw [if_pos (by omega)];done)|(unfold dr;rw [if_pos (by omega)];first|rfl|(simp;done))|(unfold dr;rw [if_neg (by omega)];done)|(unfold dr;rw [if_neg (by omega)];first|rfl|(simp;done)))):p:=h
theorem C5 (w0:World) (addr:Int) (oq:a_ addr):Calls Tryz.prog 50 [aa addr].toArray w0 (fun e w'=>e= .returned (aa (dr addr))/\bu ab w0 w'):=by
 refine Calls.run ab Tryz.func50 ?_
 intro ac β S
 have JH:=oq.lo;have Jo:=oq.hi
 refine S.aI 12 .nil (decide (addr<0)) (fun ac w β h1 a8 S=>?_) (fun ac w β h1 a8 S=>?_)
 ·exact S.aq 7 .nil [aa (-1)] (b3 S6)
 exact S.aq 11 (.cons (oU (x:=addr) (y:=4) (by decide)) .nil) [aa (Int.tmod addr 4)] (b3 S6)
theorem Ew {p:Prop} (h:p:=by clear S;(unfold gf;(repeat' split)<;>first|rfl|(simp;done)|(exfalso;omega)|(exfalso;simp_all;done)|(exfalso;simp_all;omega))):p:=h
theorem Pm (w0:World) (m:List (List Int)) (pm:aC (List Int)) (hm:bT w0 m pm) (page:Int) (cell:Int) (v:Int) (b5:a_ v):Calls Tryz.prog 49 [R m.length pm.1,aa page,aa cell,aa v].toArray w0 (dw ab w0 (gf m page cell v:List (List Int))):=by
 refine Calls.run ab Tryz.func49 ?_
 intro ac β S
 have qW:m.length<=4194304:=af.le hm
 have JI:=b5.lo;have Jp:=b5.hi
 refine S.go 8 .nil fun ac w β S=>S.cN (r:=m) (d:=11) (o4 w m pm (S.rd (S.arg hm))) fun ac w N ae br S up aD d4=>?_
 clear up d4
 refine S.bb 11 (.cons (aE fun w hw=>jo w page (m.length:Int) (by omega)) .nil) (a3 page 0 ((m.length:Int)-1)) (fun ac w β bl S=>?_) (fun ac w β bl S=>?_)
 ·have c7:=cU bl
  have sQ:(el m page.toNat).length<=4194304:=af.le (af.el (S.arg hm) page.toNat (by omega))
  refine S.bb 9 (.cons (cp (S.arg hm) page Tryz.underlying22) (.cons (cj (S.arg hm) 38 page.toNat) (.cons (aE fun w hw=>jo w cell ((el m page.toNat).length:Int) (by omega)) .nil))) (a3 cell 0 (((el m page.toNat).length:Int)-1)) (fun ac w β db S=>?_) (fun ac w β db S=>?_)
  ·have fx:=cU db
   refine S.bb 5 (.cons (aE fun w hw=>ha w v 0 99) .nil) (a3 v 0 99) (fun ac w β c3 S=>?_) (fun ac w β c3 S=>?_)
   ·have dY:=cU c3
    obtain⟨CG,ju,_,Xd⟩:=uR aD (k:=page.toNat) (show page.toNat<m.length by omega)
    have Bb:=af.le ju.ak
    have tx:=ju.sub
    refine S.go 9 (.cons (cp aD.ak page Tryz.underlying22) (.cons (cj aD.ak 38 page.toNat) (.cons (cp (af.el aD.ak page.toNat (by omega)) cell Tryz.underlying38) .nil))) fun ac w β S=>S.fM (α:=Int) ju (t:=3) (k:=cell.toNat) (j:=0) (off:=(ae.2 page.toNat).1.off+cell.toNat*1) (v:=aa v) (y:=v) (q:=()) (fun _ _ _=>⟨ab,b5,fun _ h=>False.elim h⟩) fun w N ko c5 S up eU d21 VB ET=>?_
    clear d21 ju
    obtain⟨tK,dC,amk⟩:=Xd _ _ _ _ _ ab up eU VB (fun b _ h=>False.elim h) (by show [R _ _]=[R _ _];rw [List.length_set]) (fun b h=>ET b (tx b h))
    clear up eU ET
    have afK:(m.set page.toNat ((el m page.toNat).set cell.toNat v)).length=m.length:=List.length_set
    refine S.bq 9 .nil [R m.length ae.1] fun ac w β S=>?_
    exact cx S (show gf m page cell v=(m.set page.toNat ((el m page.toNat).set cell.toNat v)) from Ew) (by rw [show m.length=(m.set page.toNat ((el m page.toNat).set cell.toNat v)).length from(by omega)];rfl) dC
   have z8:=dm c3
   refine S.bq 10 .nil [R m.length ae.1] fun ac w β S=>?_
   exact cx S (show gf m page cell v=m from Ew) rfl aD
  have lN:=dm db
  refine S.bq 15 .nil [R m.length ae.1] fun ac w β S=>?_
  exact cx S (show gf m page cell v=m from Ew) rfl aD
 have nL:=dm bl
 refine S.bq 24 .nil [R m.length ae.1] fun ac w β S=>?_
 exact cx S (show gf m page cell v=m from Ew) rfl aD
theorem Tb {p:Prop} (h:p:=by clear S;(unfold a4;first|(rw [if_pos (by omega)];done)|(rw [if_neg (by omega)];done))):p:=h
theorem xd (w0:World) (g:ax) (bc:c6) (aJ:bT w0 g bc):Calls Tryz.prog 137 [GT.val g bc].toArray w0 (dw ab w0 (a4 g:ax)):=by
 refine Calls.run ab Tryz.func137 ?_
 intro ac β S
 have AY:=az.aw (d:=g) aJ
 have hpl:=AY.lo
 have aeL:=AY.hi
 have iy:g.prog.length<=4194304:=af.le (az.prog (d:=g) aJ)
 have iA:g.written.length<=4194304:=af.le (az.written (d:=g) aJ)
 have ix:g.live.length<=4194304:=af.le (az.live (d:=g) aJ)
 have iz:g.seen.length<=4194304:=af.le (az.seen (d:=g) aJ)
 refine S.go 9 .nil fun ac w β S=>S.cN (r:=g) (d:=5) (sT w g bc (S.rd (S.arg aJ))) fun ac w N ae br S up aD d4=>?_
 clear up d4
 have i8:a_ g.acc:=az.acc (d:=g) aD.ak
 have i16:hr g.aN:=az.aN (d:=g) aD.ak
 have i17:a_ g.aB:=az.aB (d:=g) aD.ak
 have i18:fF g.exit:=az.exit (d:=g) aD.ak
 obtain⟨dO,dT,gb,ko,bJ,bo,c4,fz,_,_,_,_,d22,d23,d24,d25,d26,d27⟩:=mB aD
 refine S.aI 12 .nil (decide (g.aw>=12)) (fun ac w β hB lN S=>?_) (fun ac w β hB lN S=>?_)
 ·refine S.bq 13 .nil [GT.val (⟨g.prog,g.acc,12,g.written,g.live,g.aN,g.aB,g.exit,g.halted,g.seen⟩:ax) (⟨ae.prog,ae.written,ae.live,ae.seen⟩:c6)] fun ac w β S=>?_
  have gG:=hI (x:=(⟨g.prog,g.acc,12,g.written,g.live,g.aN,g.aB,g.exit,g.halted,g.seen⟩:ax)) (p:=(⟨ae.prog,ae.written,ae.live,ae.seen⟩:c6)) bJ bo c4 fz d22 d23 d24 d25 d26 d27 i8 (show a_ 12 from⟨by decide,by decide⟩) i16 i17 i18
  exact cx S (show a4 g=(⟨g.prog,g.acc,12,g.written,g.live,g.aN,g.aB,g.exit,g.halted,g.seen⟩:ax) from Tb) rfl gG
 refine S.bq 16 (.cons (cg g.aw 1) .nil) [GT.val (⟨g.prog,g.acc,(g.aw+1),g.written,g.live,g.aN,g.aB,g.exit,g.halted,g.seen⟩:ax) (⟨ae.prog,ae.written,ae.live,ae.seen⟩:c6)] fun ac w β S=>?_
 have lY:=hI (x:=(⟨g.prog,g.acc,(g.aw+1),g.written,g.live,g.aN,g.aB,g.exit,g.halted,g.seen⟩:ax)) (p:=(⟨ae.prog,ae.written,ae.live,ae.seen⟩:c6)) bJ bo c4 fz d22 d23 d24 d25 d26 d27 i8 (show a_ (g.aw+1) from⟨by omega,by omega⟩) i16 i17 i18
 exact cx S (show a4 g=(⟨g.prog,g.acc,(g.aw+1),g.written,g.live,g.aN,g.aB,g.exit,g.halted,g.seen⟩:ax) from Tb) rfl lY
theorem Ph (w0:World) (g:ax) (bc:c6) (aJ:bT w0 g bc):Calls Tryz.prog 51 [GT.val g bc].toArray w0 (dw ab w0 (a4 g:ax)):=by
 refine Calls.run ab Tryz.func51 ?_
 intro ac β S
 have iy:g.prog.length<=4194304:=af.le (az.prog (d:=g) aJ)
 have iA:g.written.length<=4194304:=af.le (az.written (d:=g) aJ)
 have ix:g.live.length<=4194304:=af.le (az.live (d:=g) aJ)
 have iz:g.seen.length<=4194304:=af.le (az.seen (d:=g) aJ)
 refine S.go 9 .nil fun ac w β S=>S.cN (r:=a4 g) (d:=4) (xd w g bc (S.rd (S.arg aJ))) fun ac w N ae br S up aD d4=>?_
 clear up d4
 refine S.bq 4 .nil [GT.val (a4 g) ae] fun ac w β S=>?_
 exact cx S (show a4 g=(a4 g) by clear S;rfl) rfl aD
theorem J8 {p:Prop} (h:p:=by clear S;(first|(unfold fB;rw [if_pos (by omega)];done)|(unfold fB;rw [if_pos (by omega)];first|rfl|(simp;done))|(unfold fB;rw [if_neg (by omega)];done)|(unfold fB;rw [if_neg (by omega)];first|rfl|(simp;done)))):p:=h
theorem O3 (w0:World) (m:List (List Int)) (pm:aC (List Int)) (hm:bT w0 m pm) (page:Int) (cell:Int):Calls Tryz.prog 53 [R m.length pm.1,aa page,aa cell].toArray w0 (fun e w'=>e= .returned (aa (fB m page cell))/\bu ab w0 w'):=by
 refine Calls.run ab Tryz.func53 ?_
 intro ac β S
 have qW:m.length<=4194304:=af.le hm
 refine S.bb 14 (.cons (aE fun w hw=>jo w page (m.length:Int) (by omega)) .nil) (!(a3 page 0 ((m.length:Int)-1))) (fun ac w β h1 S=>?_) (fun ac w β h1 S=>?_)
 ·have an:=cn h1
  have b4:=dm an
  exact S.aq 18 .nil [aa 0] (b3 J8)
 have b2:=b_ h1
 have dK:=cU b2
 have G3:(el m page.toNat).length<=4194304:=af.le (af.el (S.arg hm) page.toNat (by omega))
 refine S.bb 11 (.cons (cp (S.arg hm) page Tryz.underlying22) (.cons (cj (S.arg hm) 38 page.toNat) (.cons (aE fun w hw=>jo w cell ((el m page.toNat).length:Int) (by omega)) .nil))) (!(a3 cell 0 (((el m page.toNat).length:Int)-1))) (fun ac w β cD S=>?_) (fun ac w β cD S=>?_)
 ·have db:=cn cD
  have fx:=dm db
  exact S.aq 7 .nil [aa 0] (b3 J8)
 have c3:=b_ cD
 have dY:=cU c3
 exact S.aq 16 (.cons (cp (S.arg hm) page Tryz.underlying22) (.cons (cj (S.arg hm) 38 page.toNat) (.cons (cp (af.el (S.arg hm) page.toNat (by omega)) cell Tryz.underlying38) (.cons (cj (af.el (S.arg hm) page.toNat (by omega)) 3 cell.toNat) .nil)))) [aa (el (el m page.toNat) cell.toNat)] (b3 J8)
theorem Te {p:Prop} (h:p:=by clear S;(first|(unfold g4;rw [if_pos (by omega)];done)|(unfold g4;rw [if_pos (by omega)];first|rfl|(simp;done))|(unfold g4;rw [if_neg (by omega)];done)|(unfold g4;rw [if_neg (by omega)];first|rfl|(simp;done)))):p:=h
theorem Pg (w0:World) (g:ax) (bc:c6) (aJ:bT w0 g bc) (n:Int) (cX:a_ n):Calls Tryz.prog 138 [GT.val g bc,aa n].toArray w0 (dw ab w0 (g4 g n:ax)):=by
 refine Calls.run ab Tryz.func138 ?_
 intro ac β S
 have iy:g.prog.length<=4194304:=af.le (az.prog (d:=g) aJ)
 have iA:g.written.length<=4194304:=af.le (az.written (d:=g) aJ)
 have ix:g.live.length<=4194304:=af.le (az.live (d:=g) aJ)
 have iz:g.seen.length<=4194304:=af.le (az.seen (d:=g) aJ)
 have yj:=cX.lo;have yb:=cX.hi
 refine S.go 9 .nil fun ac w β S=>S.cN (r:=g) (d:=7) (sT w g bc (S.rd (S.arg aJ))) fun ac w N ae br S up aD d4=>?_
 clear up d4
 have i8:a_ g.acc:=az.acc (d:=g) aD.ak
 have i9:a_ g.aw:=az.aw (d:=g) aD.ak
 have i16:hr g.aN:=az.aN (d:=g) aD.ak
 have i17:a_ g.aB:=az.aB (d:=g) aD.ak
 have i18:fF g.exit:=az.exit (d:=g) aD.ak
 obtain⟨dO,dT,gb,ko,bJ,bo,c4,fz,_,_,_,_,d22,d23,d24,d25,d26,d27⟩:=mB aD
 refine S.aI 13 .nil (decide ((g.seen.length:Int)<40)) (fun ac w β hB lN S=>?_) (fun ac w β hB lN S=>?_)
 ·refine S.go 5 .nil fun ac w β S=>S.iL (α:=Int) (x:=n) (p:=()) (F:=ab) cX (fun b h=>False.elim h) (fun b h=>False.elim h) (d:=15) fun ac w N mA qx S up fV d33=>?_
  replace bJ:=bJ.up up
  replace bo:=bo.up up
  replace c4:=c4.up up
  replace fz:=fz.up up
  clear up d33
  refine S.k7 (α:=Int) fz fV.ak (fun _ _ h=>h) (by':=8) (d:=16) (lx:=g.seen.length) (ly:=1) rfl rfl (show _<=4194304 by simp only [List.length_append,List.length_cons,List.length_nil];omega) fun ac w N lu wW S up kc d41=>?_
  have d42:=d41 _ d24 bJ.sub
  have d43:=d41 _ d26 bo.sub
  have d44:=d41 _ d27 c4.sub
  replace bJ:=bJ.bw d24 up
  replace bo:=bo.bw d26 up
  replace c4:=c4.bw d27 up
  clear up d41
  refine S.bq 11 .nil [GT.val (⟨g.prog,g.acc,g.aw,g.written,g.live,g.aN,g.aB,g.exit,g.halted,(g.seen++[n])⟩:ax) (⟨ae.prog,ae.written,ae.live,lu⟩:c6)] fun ac w β S=>?_
  have nR:=hI (x:=(⟨g.prog,g.acc,g.aw,g.written,g.live,g.aN,g.aB,g.exit,g.halted,(g.seen++[n])⟩:ax)) (p:=(⟨ae.prog,ae.written,ae.live,lu⟩:c6)) bJ bo c4 kc d22 d23 d42 d25 d43 d44 i8 i9 i16 i17 i18
  exact cx S (show g4 g n=(⟨g.prog,g.acc,g.aw,g.written,g.live,g.aN,g.aB,g.exit,g.halted,(g.seen++[n])⟩:ax) from Te) rfl nR
 refine S.bq 10 .nil [GT.val g ae] fun ac w β S=>?_
 have wc:=hI (x:=g) (p:=ae) bJ bo c4 fz d22 d23 d24 d25 d26 d27 i8 i9 i16 i17 i18
 exact cx S (show g4 g n=g from Te) rfl wc
theorem Pb (w0:World) (g:ax) (bc:c6) (aJ:bT w0 g bc) (v:Int) (b5:a_ v):Calls Tryz.prog 52 [GT.val g bc,aa v].toArray w0 (dw ab w0 (h5 g v:ax)):=by
 refine Calls.run ab Tryz.func52 ?_
 intro ac β S
 have iy:g.prog.length<=4194304:=af.le (az.prog (d:=g) aJ)
 have iA:g.written.length<=4194304:=af.le (az.written (d:=g) aJ)
 have ix:g.live.length<=4194304:=af.le (az.live (d:=g) aJ)
 have iz:g.seen.length<=4194304:=af.le (az.seen (d:=g) aJ)
 have JI:=b5.lo;have Jp:=b5.hi
 refine S.go 17 .nil fun ac w β S=>S.cN (r:=g4 (⟨g.prog,v,g.aw,g.written,g.live,g.aN,g.aB,g.exit,g.halted,g.seen⟩:ax) v) (d:=9) (Pg w (⟨g.prog,v,g.aw,g.written,g.live,g.aN,g.aB,g.exit,g.halted,g.seen⟩:ax) (⟨bc.prog,bc.written,bc.live,bc.seen⟩:c6) (S.rd (show GT.rd b7 _ _ (⟨g.prog,v,g.aw,g.written,g.live,g.aN,g.aB,g.exit,g.halted,g.seen⟩:ax) (⟨bc.prog,bc.written,bc.live,bc.seen⟩:c6) from⟨(az.prog (p:=bc) (d:=g) (S.arg aJ)),b5,(az.aw (d:=g) (S.arg aJ)),(az.written (p:=bc) (d:=g) (S.arg aJ)),(az.live (p:=bc) (d:=g) (S.arg aJ)),(az.aN (d:=g) (S.arg aJ)),(az.aB (d:=g) (S.arg aJ)),(az.exit (d:=g) (S.arg aJ)),(az.seen (p:=bc) (d:=g) (S.arg aJ))⟩)) v b5) fun ac w N ae br S up aD d4=>?_
 clear up d4
 refine S.cN (r:=a4 (g4 (⟨g.prog,v,g.aw,g.written,g.live,g.aN,g.aB,g.exit,g.halted,g.seen⟩:ax) v)) (d:=10) (xd w (g4 (⟨g.prog,v,g.aw,g.written,g.live,g.aN,g.aB,g.exit,g.halted,g.seen⟩:ax) v) ae (S.rd aD.ak)) fun ac w N bL cW S up ao d8=>?_
 clear up d8
 refine S.bq 4 .nil [GT.val (a4 (g4 (⟨g.prog,v,g.aw,g.written,g.live,g.aN,g.aB,g.exit,g.halted,g.seen⟩:ax) v)) bL] fun ac w β S=>?_
 exact cx S (show h5 g v=(a4 (g4 (⟨g.prog,v,g.aw,g.written,g.live,g.aN,g.aB,g.exit,g.halted,g.seen⟩:ax) v)) by clear S;rfl) rfl ao
theorem Tk {p:Prop} (h:p:=by clear S;(unfold fN;(repeat' split)<;>first|rfl|(exfalso;omega)|(exfalso;simp_all;done)|(exfalso;simp_all;omega)|(simp_all;done))):p:=h
theorem Pq (w0:World) (want:Int):Calls Tryz.prog 140 [aa want].toArray w0 (fun e w'=>e= .returned (aa (fN want))/\bu ab w0 w'):=by
 refine Calls.run ab Tryz.func140 ?_
 intro ac β S
 refine S.aI 12 .nil (want==5) (fun ac w β h1 a8 S=>?_) (fun ac w β h1 a8 S=>?_)
 ·exact S.aq 7 .nil [aa 1] (b3 Tk)
 exact S.aq 9 .nil [aa 2] (b3 Tk)
theorem Es {p:Prop} (h:p:=by clear S;(unfold hO;first|(rw [Bool.eq_iff_iff];simp_all;done)|(rw [Bool.eq_iff_iff];simp_all [a3];omega)|(simp_all;done))):p:=h
theorem G5 (w0:World) (aX:Int) (hV:Int):Calls Tryz.prog 151 [aa aX,aa hV].toArray w0 (fun e w'=>e= .returned (B (hO aX hV))/\bu ab w0 w'):=by
 refine Calls.run ab Tryz.func151 ?_
 intro ac β S
 refine S.bb 10 (.cons (aE fun w hw=>ha w aX 0 3) .nil) (a3 aX 0 3) (fun ac w β h1 S=>?_) (fun ac w β h1 S=>?_)
 ·have a8:=cU h1
  refine S.aI 3 .nil (hV==1) (fun ac w β aF cB S=>?_) (fun ac w β aF cB S=>?_)
  ·exact S.aq 14 (.cons (qC (x:=aX) (y:=hV)) .nil) [B ((jH aX hV) != 0)] (a6 Es)
  refine S.aI 5 .nil (hV==2) (fun ac w β bl c7 S=>?_) (fun ac w β bl c7 S=>?_)
  ·exact S.aq 9 (.cons (qC (x:=aX) (y:=hV)) .nil) [B ((jH aX hV) != 0)] (a6 Es)
  exact S.aq 9 .nil [B false] (a6 Es)
 have gC:=dm h1
 exact S.aq 17 .nil [B false] (a6 Es)
theorem Ym (w0:World) (outer:Int) (inner:Int) (hV:Int):Calls Tryz.prog 139 [aa outer,aa inner,aa hV].toArray w0 (fun e w'=>e= .returned (aa (hQ outer inner hV))/\bu ab w0 w'):=by
 refine Calls.run ab Tryz.func139 ?_
 intro ac β S
 refine S.bb 15 (.cons (aE fun w hw=>G5 w inner hV) .nil) (hO inner hV) (fun ac w β h1 S=>?_) (fun ac w β h1 S=>?_)
 ·exact S.aq 7 .nil [aa 1] (b3 (by clear S;(simp [hQ, *])))
 refine S.bb 9 (.cons (aE fun w hw=>G5 w outer hV) .nil) (hO outer hV) (fun ac w β an S=>?_) (fun ac w β an S=>?_)
 ·exact S.aq 7 .nil [aa 2] (b3 (by clear S;(simp [hQ, *])))
 exact S.aq 10 .nil [aa 0] (b3 (by clear S;(simp [hQ, *])))
theorem Yl (w0:World) (n:Int) (cX:a_ n):Calls Tryz.prog 254 [aa n].toArray w0 (fun e w'=>e= .returned (GT.val (me n) ())/\bu ab w0 w'):=by
 refine Calls.run ab Tryz.func254 ?_
 intro ac β S
 have yj:=cX.lo;have yb:=cX.hi
 exact S.aq 13 (.cons (fT (s:=Instr.build 68 [(0,aa 3),(3,aa n)].toArray) (v:= .agg [aa 3,aa 0,B false,aa n].toArray) (fun w=>by kernel_rfl)) .nil) [GT.val (⟨3,0,false,n⟩:df) ()] (hU (p:=()) (by clear S;rfl))
theorem Tl {p:Prop} (h:p:=by clear S;(unfold mh;(repeat' split)<;>first|rfl|(exfalso;omega)|(exfalso;simp_all;done)|(exfalso;simp_all;omega)|(simp_all;done))):p:=h
theorem Pr (w0:World) (x:ax) (ih:c6) (hx:bT w0 x ih) (want:Int):Calls Tryz.prog 141 [GT.val x ih,aa want].toArray w0 (dw ab w0 (mh x want:ax)):=by
 refine Calls.run ab Tryz.func141 ?_
 intro ac β S
 have Sv:x.prog.length<=4194304:=af.le (az.prog (d:=x) hx)
 have Sx:x.written.length<=4194304:=af.le (az.written (d:=x) hx)
 have Su:x.live.length<=4194304:=af.le (az.live (d:=x) hx)
 have Sw:x.seen.length<=4194304:=af.le (az.seen (d:=x) hx)
 refine S.aI 13 .nil (want==5) (fun ac w β h1 a8 S=>?_) (fun ac w β h1 a8 S=>?_)
 ·refine S.go 2 .nil fun ac w β S=>?_
  refine dI ?_
  refine S.dP (f:=10) 9 (by kernel_rfl) (by kernel_rfl) fun w S=>?_
  refine S.hm 5 [0,1,2,3,4] [] [(7,.v (GT.val x ih)),(9,.v (R x.prog.length ih.prog.1)),(11,.v (aa x.aw))] .nil fun ac S=>?_
  refine S.iI 5 [] [(12,.v (GT.val (bF x.prog x.aw) ()))] 2 [] (.cons (aE fun w hw=>uy w x.prog ih.prog (bN (az.prog (d:=x) (S.arg hx)) hw) x.aw) .nil) fun ac w β S=>?_
  refine S.a9 6 [6] [] [(13,.v (aa (bF x.prog x.aw).x))] .nil fun ac S=>?_
  refine S.iI 7 [] [(14,.v (GT.val (me (bF x.prog x.aw).x) ()))] 2 [] (.cons (aE fun w hw=>Yl w (bF x.prog x.aw).x (iY.x (d:=(bF x.prog x.aw)) (lV (az.prog (d:=x) (S.arg hx)) x.aw))) .nil) fun ac w β S=>?_
  refine ar.one (i:=8) (by kernel_rfl) ?_
  refine id (S.dz 15 (zG w x ih (S.rd (S.arg hx)) (me (bF x.prog x.aw).x) (UB (iY.x (d:=(bF x.prog x.aw)) (lV (az.prog (d:=x) (S.arg hx)) x.aw)))) fun ac w N sz e4 S up bY d6=>?_)
  refine ar.next S up (by kernel_rfl) ?_
  clear up d6
  refine S.c9 9 [] [] 2 [(1,GT.cells ({x with exit:=(me (bF x.prog x.aw).x)}:ax) sz)] .nil fun ac w β S=>?_
  refine ar.done (by kernel_rfl) ?_ _
  refine S.ex fun S=>?_
  refine S.bq 2 .nil [GT.val ({x with exit:=(me (bF x.prog x.aw).x)}:ax) sz] fun ac w β S=>?_
  exact cx S (show mh x want=({x with exit:=(me (bF x.prog x.aw).x)}:ax) from Tl) rfl bY
 refine S.go 7 (.cons (fT (s:=Instr.build 68 [(0,aa 4)].toArray) (v:= .agg [aa 4,aa 0,B false,aa 0].toArray) (fun w=>by kernel_rfl)) .nil) fun ac w β S=>S.cN (r:=({x with exit:=(⟨4,0,false,0⟩:df)}:ax)) (d:=18) (zG w x ih (S.rd (S.arg hx)) (⟨4,0,false,0⟩:df) (show fF (⟨4,0,false,0⟩:df) from⟨(show a_ 4 from⟨by decide,by decide⟩),(show a_ 0 from⟨by decide,by decide⟩),(show a_ 0 from⟨by decide,by decide⟩)⟩)) fun ac w N aiS eX S up bE d10=>?_
 clear up d10
 refine S.bq 4 .nil [GT.val ({x with exit:=(⟨4,0,false,0⟩:df)}:ax) aiS] fun ac w β S=>?_
 exact cx S (show mh x want=({x with exit:=(⟨4,0,false,0⟩:df)}:ax) from Tl) rfl bE
theorem O9 (w0:World) (g:ax) (bc:c6) (aJ:bT w0 g bc):Calls Tryz.prog 142 [GT.val g bc].toArray w0 (dw ab w0 (jA g:ax)):=by
 refine Calls.run ab Tryz.func142 ?_
 intro ac β S
 have iy:g.prog.length<=4194304:=af.le (az.prog (d:=g) aJ)
 have iA:g.written.length<=4194304:=af.le (az.written (d:=g) aJ)
 have ix:g.live.length<=4194304:=af.le (az.live (d:=g) aJ)
 have iz:g.seen.length<=4194304:=af.le (az.seen (d:=g) aJ)
 refine S.go 15 .nil fun ac w β S=>S.cN (r:=a4 (⟨g.prog,g.acc,g.aw,g.written,g.live,g.aN,g.aB,g.exit,true,g.seen⟩:ax)) (d:=5) (xd w (⟨g.prog,g.acc,g.aw,g.written,g.live,g.aN,g.aB,g.exit,true,g.seen⟩:ax) (⟨bc.prog,bc.written,bc.live,bc.seen⟩:c6) (S.rd (show GT.rd b7 _ _ (⟨g.prog,g.acc,g.aw,g.written,g.live,g.aN,g.aB,g.exit,true,g.seen⟩:ax) (⟨bc.prog,bc.written,bc.live,bc.seen⟩:c6) from⟨(az.prog (p:=bc) (d:=g) (S.arg aJ)),(az.acc (d:=g) (S.arg aJ)),(az.aw (d:=g) (S.arg aJ)),(az.written (p:=bc) (d:=g) (S.arg aJ)),(az.live (p:=bc) (d:=g) (S.arg aJ)),(az.aN (d:=g) (S.arg aJ)),(az.aB (d:=g) (S.arg aJ)),(az.exit (d:=g) (S.arg aJ)),(az.seen (p:=bc) (d:=g) (S.arg aJ))⟩))) fun ac w N ae br S up aD d4=>?_
 clear up d4
 refine S.bq 4 .nil [GT.val (a4 (⟨g.prog,g.acc,g.aw,g.written,g.live,g.aN,g.aB,g.exit,true,g.seen⟩:ax)) ae] fun ac w β S=>?_
 exact cx S (show jA g=(a4 (⟨g.prog,g.acc,g.aw,g.written,g.live,g.aN,g.aB,g.exit,true,g.seen⟩:ax)) by clear S;rfl) rfl aD
theorem Yz (w0:World) (xs:List aO) (cj:aC aO) (a7:Nat) (lW:a7<xs.length) (F:au) (hx:GT.own b7 F w0 xs cj) (eM:∀b,F b->b<w0.heap.size) (g:Int) (want:Int) (ft:0<=g/\g<(el xs a7).U.length) (gP:want=5\/want=7):Calls Tryz.prog 54 [bg cj.1.b (cj.1.off+a7*9),aa g,aa want].toArray w0 (GW F cj w0 (xs.set a7 (jr (el xs a7) g (el (el xs a7).U g.toNat) want))):=by
 refine Calls.run F Tryz.func54 ?_
 intro ac β S
 have ep:ad w0 F w0 (fc w0.heap.size) F xs ((cj.1,cj.2):aC aO):=⟨hx,eM,fun b hb=> .inr hb⟩
 have aoo:xs.length<=4194304:=g1.le hx
 have r5:g.toNat<(el xs a7).U.length:=by omega
 have AX:a_ (el xs a7).owned:=aU.owned (d:=(el xs a7)) (af.el ep.ak a7 lW)
 refine S.aI 23 (.cons (iO ep.ak (t:=71) (k:=a7) (j:=3) (v:=R (el xs a7).U.length (cj.2 a7).U.1) lW (by kernel_rfl) (by kernel_rfl)) (.cons (cp (aU.U (d:=(el xs a7)) (af.el ep.ak a7 lW)) g Tryz.underlying71) (.cons (dy (aU.U (d:=(el xs a7)) (af.el ep.ak a7 lW)) 70 g.toNat) (.cons (iO ep.ak (t:=3) (k:=a7) (j:=6) (v:=aa (el xs a7).aX) lW (by kernel_rfl) (by kernel_rfl)) (.cons (aE fun w hw=>Pq w want) (.cons (aE fun w hw=>Ym w (el xs a7).aX (el (el xs a7).U g.toNat).aN.aX (fN want)) .nil)))))) ((hQ (el xs a7).aX (el (el xs a7).U g.toNat).aN.aX (fN want))==1) (fun ac w β h1 a8 S=>?_) (fun ac w β h1 a8 S=>?_)
 ·clear h1
  refine S.go 2 .nil fun ac w β S=>?_
  refine dI ?_
  refine S.dP (f:=10) 9 (by kernel_rfl) (by kernel_rfl) fun w S=>?_
  refine S.a9 0 [0] [] [(27,.v (bg cj.1.b (cj.1.off+a7*9)))] .nil fun ac S=>?_
  refine S.a9 1 [1] [] [(28,.v (bg cj.1.b (cj.1.off+a7*9)))] .nil fun ac S=>?_
  refine S.a9 2 [2] [] [(29,.v (bg cj.1.b (cj.1.off+a7*9+3)))] .nil fun ac S=>?_
  refine S.a9 3 [3] [] [(30,.v (R (el xs a7).U.length (cj.2 a7).U.1))] (.cons (iO ep.ak (t:=71) (k:=a7) (j:=3) (v:=R (el xs a7).U.length (cj.2 a7).U.1) lW (by kernel_rfl) (by kernel_rfl)) .nil) fun ac S=>?_
  refine S.a9 4 [4] [] [(31,.v (aa g))] .nil fun ac S=>?_
  refine S.a9 5 [5] [] [(32,.v (GT.val (el (el xs a7).U g.toNat) ((cj.2 a7).U.2 g.toNat)))] .nil fun ac S=>?_
  refine S.a9 6 [6] [] [(33,.v (aa want))] .nil fun ac S=>?_
  refine ar.one (i:=7) (by kernel_rfl) ?_
  refine id (S.dz 34 (Pr w (el (el xs a7).U g.toNat) ((cj.2 a7).U.2 g.toNat) (S.rd (af.el (aU.U (d:=(el xs a7)) (af.el ep.ak a7 lW)) g.toNat r5)) want) fun ac w N ae ze S up Bt zO=>?_)
  refine ar.next S up (by kernel_rfl) ?_
  have sV:=J.w zO ep.sub
  replace ep:=ep.up up
  refine S.a9 8 [8] [] [(34,.v (GT.val (mh (el (el xs a7).U g.toNat) want) ae)),(35,.v (bg (cj.2 a7).U.1.b ((cj.2 a7).U.1.off+g.toNat*15)))] (.cons (cp (aU.U (d:=(el xs a7)) (af.el ep.ak a7 lW)) g Tryz.underlying71 (hi:=r5)) .nil) fun ac S=>?_
  refine ar.one (i:=9) (by kernel_rfl) ?_
  obtain⟨N4,tD,Ch,zB⟩:=o_ ep (k:=a7) lW
  have Bi:=tD.sub
  refine id (S.kO (α:=ax) tD (t:=70) (k:=g.toNat) (off:=(cj.2 a7).U.1.off+g.toNat*15) Bt (J.part sV Ch) (hk:=r5) fun w N N7 Vn S up BA Qb Cj Bj=>?_)
  refine ar.last (by kernel_rfl) ?_
  obtain⟨UY,BD,OU⟩:=zB _ _ _ _ _ ze up BA Cj sV (by show [R _ _]=[R _ _];rw [List.length_set]) (fun b h=>Bj b (Bi b h))
  replace S:=S.z (σ':=⟨[(34,.v (GT.val (mh (el (el xs a7).U g.toNat) want) ae))],[GT.cells (el (el xs a7).U g.toNat) ((cj.2 a7).U.2 g.toNat)]⟩)
  refine ar.done (by kernel_rfl) ?_ _
  refine S.ex fun S=>?_
  refine S.bq 2 .nil [] fun ac w β S=>?_
  exact M5 S (show(xs.set a7 (jr (el xs a7) g (el (el xs a7).U g.toNat) want))=(xs.set a7 ({el xs a7 with U:=(el xs a7).U.set g.toNat (mh (el (el xs a7).U g.toNat) want)})) from af1 gP a8) BD
 refine S.go 4 .nil fun ac w β S=>?_
 refine il S (fun ac w=>∃(gq:Int) (iF:Nat->fj) (cc:au) (u:_) (N:_) (β:_),gq=gn (el xs a7) (el (el xs a7).U g.toNat) want/\aj Tryz.prog Tryz.f54.ntmps w0 F u N β ⟨[(0,.v (bg cj.1.b (cj.1.off+a7*9))),(1,.v (aa g)),(2,.v (aa want)),(6,.p 0 0)],[GT.cells (el (el xs a7).U g.toNat) ((cj.2 a7).U.2 g.toNat)]⟩ ac w/\ad w0 F u N cc (xs.set a7 ({el xs a7 with owned:=gq}:aO)) ((cj.1,iF):aC aO)/\iF a7=cj.2 a7) ?_ ?_
 ·clear S;intro S
  refine S.aI 5 .nil ((hQ (el xs a7).aX (el (el xs a7).U g.toNat).aN.aX (fN want))==2) (fun ac w β aF b4 S=>?_) (fun ac w β aF b4 S=>?_)
  ·refine S.aI 8 (.cons (iO ep.ak (t:=3) (k:=a7) (j:=8) (v:=aa (el xs a7).owned) lW (by kernel_rfl) (by kernel_rfl)) .nil) (decide ((el xs a7).owned<1000000000)) (fun ac w β b2 cB S=>?_) (fun ac w β b2 cB S=>?_)
   ·refine S.go 9 (.cons (iO ep.ak (t:=3) (k:=a7) (j:=8) (v:=aa (el xs a7).owned) lW (by kernel_rfl) (by kernel_rfl)) (.cons (cg ((el xs a7).owned) 1 ⟨by have:=AX.lo;omega,by omega⟩) .nil)) fun ac w β S=>S.GX (α:=aO) (Fy:=ab) (t:=3) (k:=a7) (j:=8) (off:=cj.1.off+a7*9+8) (v:=aa ((el xs a7).owned+1)) (y:=({el xs a7 with owned:=(el xs a7).owned+1}:aO)) (q:=cj.2 a7) ep lW (show 8+1<=9 by decide) (fun G fk _=>⟨G,Mb fk (⟨by have:=AX.lo;omega,by omega⟩),fun _ h=> .inl h⟩) J.agZ.symm (fun _ h=>False.elim h) (fun _ h=>False.elim h) fun w N bW S up o d s n=>?_
    exact S.dF 30 .nil fun ac w β S=>⟨rfl,(el xs a7).owned+1,_,bW,_,_,_,(aid gP b4 cB).symm,S.z,o,if_pos rfl⟩
   exact S.dF 30 .nil fun ac w β S=>⟨rfl,(el xs a7).owned,cj.2,F,_,_,_,(L7 (.inr cB)).symm,S.z,by rw [VH lW];exact ep,rfl⟩
  exact S.dF 30 .nil fun ac w β S=>⟨rfl,(el xs a7).owned,cj.2,F,_,_,_,(L7 (.inl b4)).symm,S.z,by rw [VH lW];exact ep,rfl⟩
 clear S ep
 rintro ac w ⟨gq,iF,cc,u,N,β,SD,S,ep,aeJ⟩
 obtain⟨X,fP⟩:∃X,X=xs.set a7 ({el xs a7 with owned:=gq}:aO):=⟨_,rfl⟩
 rw [←fP] at ep
 have anZ:X.length=xs.length:=by rw [fP,List.length_set]
 have ps:a7<X.length:=by omega
 have he:el X a7=({el xs a7 with owned:=gq}:aO):=by rw [fP,dS lW]
 have D7:(el X a7).U=(el xs a7).U:=by rw [he]
 have vM:(iF a7).U=(cj.2 a7).U:=by rw [aeJ]
 have Sl:g.toNat<(el X a7).U.length:=by rw [D7];exact r5
 refine S.ex fun S=>?_
 refine S.aI 8 .nil (want==7) (fun ac w β bl dK S=>?_) (fun ac w β bl dK S=>?_)
 ·clear bl
  refine S.go 2 .nil fun ac w β S=>?_
  refine dI ?_
  refine S.dP (f:=9) 8 (by kernel_rfl) (by kernel_rfl) fun w S=>?_
  refine S.a9 0 [0] [] [(54,.v (bg cj.1.b (cj.1.off+a7*9)))] .nil fun ac S=>?_
  refine S.a9 1 [1] [] [(55,.v (bg cj.1.b (cj.1.off+a7*9)))] .nil fun ac S=>?_
  refine S.a9 2 [2] [] [(56,.v (bg cj.1.b (cj.1.off+a7*9+3)))] .nil fun ac S=>?_
  refine S.a9 3 [3] [] [(57,.v (R (el X a7).U.length (iF a7).U.1))] (.cons (iO ep.ak (t:=71) (k:=a7) (j:=3) (v:=R (el X a7).U.length (iF a7).U.1) ps (by kernel_rfl) (by kernel_rfl)) .nil) fun ac S=>?_
  refine S.a9 4 [4] [] [(58,.v (aa g))] .nil fun ac S=>?_
  refine S.a9 5 [5] [] [(59,.v (GT.val (el (el xs a7).U g.toNat) ((cj.2 a7).U.2 g.toNat)))] .nil fun ac S=>?_
  refine ar.one (i:=6) (by kernel_rfl) ?_
  refine id (S.dz 60 (O9 w (el (el xs a7).U g.toNat) ((cj.2 a7).U.2 g.toNat) (S.rd (kk ep D7 vM ps r5))) fun ac w N ae ze S up Bt zO=>?_)
  refine ar.next S up (by kernel_rfl) ?_
  have sV:=J.w zO ep.sub
  replace ep:=ep.up up
  refine S.a9 7 [7] [] [(60,.v (GT.val (jA (el (el xs a7).U g.toNat)) ae)),(61,.v (bg (iF a7).U.1.b ((iF a7).U.1.off+g.toNat*15)))] (.cons (cp (aU.U (d:=(el X a7)) (af.el ep.ak a7 ps)) g Tryz.underlying71 (hi:=Sl)) .nil) fun ac S=>?_
  refine ar.one (i:=8) (by kernel_rfl) ?_
  obtain⟨N4,tD,Ch,zB⟩:=o_ ep (k:=a7) ps
  have Bi:=tD.sub
  refine id (S.kO (α:=ax) tD (t:=70) (k:=g.toNat) (off:=(iF a7).U.1.off+g.toNat*15) Bt (J.part sV Ch) (hk:=Sl) fun w N N7 Vn S up BA Qb Cj Bj=>?_)
  refine ar.last (by kernel_rfl) ?_
  obtain⟨UY,BD,OU⟩:=zB _ _ _ _ _ ze up BA Cj sV (by show [R _ _]=[R _ _];rw [List.length_set]) (fun b h=>Bj b (Bi b h))
  replace S:=S.z (σ':=⟨[(60,.v (GT.val (jA (el (el xs a7).U g.toNat)) ae))],[GT.cells (el (el xs a7).U g.toNat) ((cj.2 a7).U.2 g.toNat)]⟩)
  refine ar.done (by kernel_rfl) ?_ _
  refine S.ex fun S=>?_
  refine S.bq 2 .nil [] fun ac w β S=>?_
  exact M5 S (show(xs.set a7 (jr (el xs a7) g (el (el xs a7).U g.toNat) want))=(X.set a7 ({el X a7 with U:=(el X a7).U.set g.toNat (jA (el (el xs a7).U g.toNat))})) from afZ fP he SD a8 dK) BD
 have ae1:want=5:=by omega
 have JJ:(el X a7).outs=(el xs a7).outs:=by rw [he]
 refine S.go 4 .nil fun ac w β S=>?_
 refine il S (fun ac w=>∃(os:List Int) (l6:Nat->fj) (br:au) (u:_) (N:_) (β:_),os=(if(el xs a7).outs.length<40 then(el xs a7).outs++[(bF (el (el xs a7).U g.toNat).prog (el (el xs a7).U g.toNat).aw).x] else(el xs a7).outs)/\aj Tryz.prog Tryz.f54.ntmps w0 F u N β ⟨[(0,.v (bg cj.1.b (cj.1.off+a7*9))),(1,.v (aa g)),(6,.p 0 0)],[GT.cells (el (el xs a7).U g.toNat) ((cj.2 a7).U.2 g.toNat)]⟩ ac w/\ad w0 F u N br (xs.set a7 ({el xs a7 with owned:=gq,outs:=os}:aO)) ((cj.1,l6):aC aO)/\(l6 a7).U=(cj.2 a7).U) ?_ ?_
 ·clear S;intro S
  have o1:(el X a7).outs.length<=4194304:=af.le (aU.outs (d:=(el X a7)) (af.el ep.ak a7 ps))
  refine S.aI 10 (.cons (iO ep.ak (t:=38) (k:=a7) (j:=4) (v:=R (el X a7).outs.length (iF a7).outs.1) ps (by kernel_rfl) (by kernel_rfl)) .nil) (decide (((el X a7).outs.length:Int)<40)) (fun ac w β cR c7 S=>?_) (fun ac w β cR c7 S=>?_)
  ·refine S.go 1 .nil fun ac w β S=>?_
   refine dI ?_
   let wO:b1:=⟨[(0,.v (bg cj.1.b (cj.1.off+a7*9))),(1,.v (aa g)),(6,.p 0 0),(67,.v (B true))],[GT.cells (el (el xs a7).U g.toNat) ((cj.2 a7).U.2 g.toNat)]⟩
   obtain⟨bA,bx,bS,S,ep⟩:∃bA bx bS,aj Tryz.prog Tryz.f54.ntmps w0 F bA bx bS wO ac w/\ad w0 F bA bx cc X ((cj.1,iF):aC aO):=⟨_,_,_,S.z,ep⟩
   refine mD (fun ac w=>∃(l6:Nat->fj) (CI:au) (u:_) (N:_) (β:_),aj Tryz.prog Tryz.f54.ntmps w0 F u N β ⟨[(0,.v (bg cj.1.b (cj.1.off+a7*9))),(1,.v (aa g)),(6,.p 0 0)],[GT.cells (el (el xs a7).U g.toNat) ((cj.2 a7).U.2 g.toNat)]⟩ ac w/\ad w0 F u N CI (X.set a7 (({el X a7 with outs:=((el X a7).outs++[(bF (el (el xs a7).U g.toNat).prog (el (el xs a7).U g.toNat).aw).x])}):aO)) ((cj.1,l6):aC aO)/\(l6 a7).U=(iF a7).U) ?_ ?_
   ·refine S.dP (f:=16) 12 (by kernel_rfl) (by kernel_rfl) fun w S=>?_
    refine S.a9 1 [4,3,2,1] [] [(69,.v (bg cj.1.b (cj.1.off+a7*9)))] .nil fun ac S=>?_
    refine S.a9 2 [4,3,2] [] [(70,.v (bg cj.1.b (cj.1.off+a7*9)))] .nil fun ac S=>?_
    refine S.a9 3 [4,3] [] [(71,.v (bg cj.1.b (cj.1.off+a7*9+4)))] .nil fun ac S=>?_
    refine S.a9 4 [4] [] [(72,.v (R (el X a7).outs.length (iF a7).outs.1))] (.cons (iO ep.ak (t:=38) (k:=a7) (j:=4) (v:=R (el X a7).outs.length (iF a7).outs.1) ps (by kernel_rfl) (by kernel_rfl)) .nil) fun ac S=>?_
    refine S.a9 5 [9,6,5] [] [(73,.p 0 0)] .nil fun ac S=>?_
    refine S.a9 6 [9,6] [] [(74,.v (R (el (el xs a7).U g.toNat).prog.length ((cj.2 a7).U.2 g.toNat).prog.1))] .nil fun ac S=>?_
    refine S.a9 7 [9,8,7] [] [(75,.p 0 2)] .nil fun ac S=>?_
    refine S.a9 8 [9,8] [] [(76,.v (aa (el (el xs a7).U g.toNat).aw))] .nil fun ac S=>?_
    refine ar.m8 fun W aH=>?_
    refine ar.mP (l':=cu 16 [1,2,3,4,5,6,7,8]) (by kernel_rfl) ?_
    have adl ac w (l6:Nat->fj) CI u N β (S:aj Tryz.prog Tryz.f54.ntmps w0 F u N β ⟨[(0,.v (bg cj.1.b (cj.1.off+a7*9))),(1,.v (aa g)),(6,.p 0 0)],[GT.cells (el (el xs a7).U g.toNat) ((cj.2 a7).U.2 g.toNat)]⟩ ac w) (sm:ad w0 F u N CI (X.set a7 (({el X a7 with outs:=((el X a7).outs++[(bF (el (el xs a7).U g.toNat).prog (el (el xs a7).U g.toNat).aw).x])}):aO)) ((cj.1,l6):aC aO)) (JQ:(l6 a7).U=(iF a7).U):W 0 (cu 16 [0,1,2,3,4,5,6,7,8,9,10,11,12,13,14,15]) ac w:=by
     exact nb aH ⟨rfl,l6,CI,_,_,_,S.z,sm,JQ⟩
    have adm ac w Mj zc u N β (S:aj Tryz.prog Tryz.f54.ntmps w0 F u N β (wO.dl [67] [(68,.v (bg cj.1.b (cj.1.off+a7*9))),(72,.v (R (el X a7).outs.length (iF a7).outs.1)),(79,.v (R 1 Mj.1))] 1 []) ac w) (ep:ad w0 F u N cc X ((cj.1,iF):aC aO)) (EW:ad w0 F u N zc ([(bF (el (el xs a7).U g.toNat).prog (el (el xs a7).U g.toNat).aw).x]) Mj) (d146:J cc zc) (al:d_ bx bA N u) (aP:cS wO.aM.length bS β):W 4 (cu 16 [0,1,2,3,4,5,6,7,8,9,10,11]) ac w:=by
     refine en aH 12 ?_
     have alT:(el X a7).outs.length<=4194304:=af.le (aU.outs (d:=(el X a7)) (af.el ep.ak a7 ps))
     refine id (S.G2 ep a7 EW.ak (by':=8) (d:=80) ps (show(el X a7).outs.length+([(bF (el (el xs a7).U g.toNat).prog (el (el xs a7).U g.toNat).aw).x]).length<=4194304 by simp only [List.length_cons,List.length_nil];omega) fun ac w N gZ Wg S up Lh apX akK NL ES akL=>?_)
     refine ar.c9 fun bk=>?_
     have d160:=NL _ EW.sub
     have d161:=NL _ ep.sub
     replace EW:=EW.bw (J.symm d146) up
     clear up NL ep
     refine S.cZ (σ':=⟨[(0,.v (bg cj.1.b (cj.1.off+a7*9))),(1,.v (aa g)),(6,.p 0 0),(80,.v (R ((el X a7).outs++[(bF (el (el xs a7).U g.toNat).prog (el (el xs a7).U g.toNat).aw).x]).length gZ.1)),(82,.v (bg cj.1.b (cj.1.off+a7*9+4)))],[GT.cells (el (el xs a7).U g.toNat) ((cj.2 a7).U.2 g.toNat)]⟩) (f:=1) (l2:=cu 16 [0,1,2,3,4,5,6,7,8,9,10,11,12,13,14]) aH [13,14] bk fun _ S=>?_
     refine en aH 15 ?_
     refine id (aj.qt S (hx:=Lh) (t:=38) (k:=a7) (j:=4) (off:=cj.1.off+a7*9+4) (v:=R ((el X a7).outs++[(bF (el (el xs a7).U g.toNat).prog (el (el xs a7).U g.toNat).aw).x]).length gZ.1) (y:=({el X a7 with outs:=((el X a7).outs++[(bF (el (el xs a7).U g.toNat).prog (el (el xs a7).U g.toNat).aw).x])}:aO)) (q:=({iF a7 with outs:=gZ}:fj)) (hop:=by kernel_rfl) (hoff:=by kernel_rfl) (hk:=ps) (hs:=by kernel_rfl) (hpl:=by kernel_rfl) (hjw:=show 4+1<=9 by decide) (hc:=by kernel_rfl) (hy:=akK) (hd:=d161) (hyN:=ES) (hyY:=akL) (K:=fun w N Wi S up iC d165 ap1 apA=>?_))
     refine ar.c9 fun bk=>?_
     replace S:=S.z (σ':=⟨[(0,.v (bg cj.1.b (cj.1.off+a7*9))),(1,.v (aa g)),(6,.p 0 0)],[GT.cells (el (el xs a7).U g.toNat) ((cj.2 a7).U.2 g.toNat)]⟩)
     exact S.cZ aH [] bk fun _ S=>adl _ _ _ Wi _ _ _ S iC (by simp)
    have adr ac w u N β (S:aj Tryz.prog Tryz.f54.ntmps w0 F u N β (wO.dl [67] [(68,.v (bg cj.1.b (cj.1.off+a7*9))),(72,.v (R (el X a7).outs.length (iF a7).outs.1)),(78,.v (aa (bF (el (el xs a7).U g.toNat).prog (el (el xs a7).U g.toNat).aw).x))] 1 []) ac w) (ep:ad w0 F u N cc X ((cj.1,iF):aC aO)) (al:d_ bx bA N u) (aP:cS wO.aM.length bS β):W 5 (cu 16 [0,1,2,3,4,5,6,7,8,9,10]) ac w:=by
     refine en aH 11 ?_
     refine id (S.pS (α:=Int) (x:=(bF (el (el xs a7).U g.toNat).prog (el (el xs a7).U g.toNat).aw).x) (p:=()) (F:=ab) (iY.x (d:=(bF (el (el xs a7).U g.toNat).prog (el (el xs a7).U g.toNat).aw)) (lV (az.prog (d:=(el (el xs a7).U g.toNat)) (kk ep D7 vM ps r5)) (el (el xs a7).U g.toNat).aw)) (fun b h=>False.elim h) (fun b h=>False.elim h) (d:=79) (by kernel_rfl) fun ac w N aiJ Wk S up ag8 d173=>?_)
     have R3:=fun b h=>(⟨(up b (al b h).1).1,(up b (al b h).1).2.trans (al b h).2⟩:_/\_)
     refine ar.dh S R3 aP fun bk=>?_
     have d175:=d173 _ (fun b _ h=>False.elim h) ep.sub
     replace ep:=ep.up up
     clear up d173
     exact S.cZ aH [] bk fun _ S=>adm _ _ aiJ Wk _ _ _ S ep ag8 d175 R3 aP
    have ads ac w u N β (S:aj Tryz.prog Tryz.f54.ntmps w0 F u N β (wO.dl [67] [(68,.v (bg cj.1.b (cj.1.off+a7*9))),(72,.v (R (el X a7).outs.length (iF a7).outs.1)),(74,.v (R (el (el xs a7).U g.toNat).prog.length ((cj.2 a7).U.2 g.toNat).prog.1)),(76,.v (aa (el (el xs a7).U g.toNat).aw))] 1 []) ac w) (ep:ad w0 F u N cc X ((cj.1,iF):aC aO)) (al:d_ bx bA N u) (aP:cS wO.aM.length bS β):W 7 (cu 16 [0,1,2,3,4,5,6,7,8]) ac w:=by
     exact en aH 9 (S.e0 aH al aP [10] (.cons (aE fun w hw=>uy w (el (el xs a7).U g.toNat).prog ((cj.2 a7).U.2 g.toNat).prog (bN (az.prog (d:=(el (el xs a7).U g.toNat)) (kk ep D7 vM ps r5)) hw) (el (el xs a7).U g.toNat).aw) .nil) fun _ _ _ S ca=>adr _ _ _ _ _ S ep al ca)
    rw [aH]
    exact S.cZ aH [0] (fun _=>S.tR) fun _ S=>ads _ _ _ _ _ S ep (fun _ h=>⟨h,rfl⟩) (fun _ _=>rfl)
   clear S ep
   rintro ac w ⟨l6,br,u,N,β,S,bK,JQ⟩
   refine S.ex fun S=>?_
   rw [JJ] at bK
   exact S.dF 30 .nil fun ac w β S=>⟨rfl,_,l6,br,_,_,_,(if_pos (by rw [←JJ];omega)).symm,S.z,by rw [he,fP,List.set_set] at bK;exact bK,JQ.trans vM⟩
  exact S.dF 30 .nil fun ac w β S=>⟨rfl,_,iF,cc,_,_,_,(if_neg (by rw [←JJ];omega)).symm,S.z,by rw [fP] at ep;exact ep,vM⟩
 clear S ep
 rintro ac w ⟨os,l6,br,u,N,β,JN,S,ep,aeK⟩
 obtain⟨mH,x9⟩:∃mH,mH=xs.set a7 ({el xs a7 with owned:=gq,outs:=os}:aO):=⟨_,rfl⟩
 rw [←x9] at ep
 have EF:a7<mH.length:=by rw [x9,List.length_set];exact lW
 have kC:el mH a7=({el xs a7 with owned:=gq,outs:=os}:aO):=by rw [x9,dS lW]
 have SA:(el mH a7).U=(el xs a7).U:=by rw [kC]
 have Sm:g.toNat<(el mH a7).U.length:=by rw [SA];exact r5
 refine S.ex fun S=>?_
 refine S.go 1 .nil fun ac w β S=>?_
 refine dI ?_
 refine S.dP (f:=9) 8 (by kernel_rfl) (by kernel_rfl) fun w S=>?_
 refine S.a9 0 [0] [] [(83,.v (bg cj.1.b (cj.1.off+a7*9)))] .nil fun ac S=>?_
 refine S.a9 1 [1] [] [(84,.v (bg cj.1.b (cj.1.off+a7*9)))] .nil fun ac S=>?_
 refine S.a9 2 [2] [] [(85,.v (bg cj.1.b (cj.1.off+a7*9+3)))] .nil fun ac S=>?_
 refine S.a9 3 [3] [] [(86,.v (R (el mH a7).U.length (l6 a7).U.1))] (.cons (iO ep.ak (t:=71) (k:=a7) (j:=3) (v:=R (el mH a7).U.length (l6 a7).U.1) EF (by kernel_rfl) (by kernel_rfl)) .nil) fun ac S=>?_
 refine S.a9 4 [4] [] [(87,.v (aa g))] .nil fun ac S=>?_
 refine S.a9 5 [5] [] [(88,.v (GT.val (el (el xs a7).U g.toNat) ((cj.2 a7).U.2 g.toNat)))] .nil fun ac S=>?_
 refine ar.one (i:=6) (by kernel_rfl) ?_
 refine id (S.dz 89 (xd w (el (el xs a7).U g.toNat) ((cj.2 a7).U.2 g.toNat) (S.rd (kk ep SA aeK EF r5))) fun ac w N ae ze S up Bt zO=>?_)
 refine ar.next S up (by kernel_rfl) ?_
 have sV:=J.w zO ep.sub
 replace ep:=ep.up up
 refine S.a9 7 [7] [] [(89,.v (GT.val (a4 (el (el xs a7).U g.toNat)) ae)),(90,.v (bg (l6 a7).U.1.b ((l6 a7).U.1.off+g.toNat*15)))] (.cons (cp (aU.U (d:=(el mH a7)) (af.el ep.ak a7 EF)) g Tryz.underlying71 (hi:=Sm)) .nil) fun ac S=>?_
 refine ar.one (i:=8) (by kernel_rfl) ?_
 obtain⟨N4,tD,Ch,zB⟩:=o_ ep (k:=a7) EF
 have Bi:=tD.sub
 refine id (S.kO (α:=ax) tD (t:=70) (k:=g.toNat) (off:=(l6 a7).U.1.off+g.toNat*15) Bt (J.part sV Ch) (hk:=Sm) fun w N N7 Vn S up BA Qb Cj Bj=>?_)
 refine ar.last (by kernel_rfl) ?_
 obtain⟨UY,BD,OU⟩:=zB _ _ _ _ _ ze up BA Cj sV (by show [R _ _]=[R _ _];rw [List.length_set]) (fun b h=>Bj b (Bi b h))
 replace S:=S.z (σ':=⟨[(89,.v (GT.val (a4 (el (el xs a7).U g.toNat)) ae))],[GT.cells (el (el xs a7).U g.toNat) ((cj.2 a7).U.2 g.toNat)]⟩)
 refine ar.done (by kernel_rfl) ?_ _
 refine S.ex fun S=>?_
 refine S.bq 0 .nil [] fun ac w β S=>?_
 exact M5 S (show(xs.set a7 (jr (el xs a7) g (el (el xs a7).U g.toNat) want))=(mH.set a7 ({el mH a7 with U:=(el mH a7).U.set g.toNat (a4 (el (el xs a7).U g.toNat))})) from af0 x9 kC SD a8 ae1 JN) BD
theorem Eu {p:Prop} (h:p:=by clear S;(unfold oh;(repeat' split)<;>first|rfl|(exfalso;omega)|(exfalso;simp_all;done)|(exfalso;simp_all;omega))):p:=h
theorem Yn (w0:World) (h:ah) (ai:cb) (a1:bT w0 h ai) (m:Int) (page:Int):Calls Tryz.prog 153 [GT.val h ai,aa m,aa page].toArray w0 (dw ab w0 (oh h m page:List Int)):=by
 refine Calls.run ab Tryz.func153 ?_
 intro ac β S
 have m1:h.mem.length<=4194304:=af.le (bz.mem (d:=h) a1)
 have m2:h.I.length<=4194304:=af.le (bz.I (d:=h) a1)
 have mZ:h.buf.length<=4194304:=af.le (bz.buf (d:=h) a1)
 have m0:h.ag.length<=4194304:=af.le (bz.ag (d:=h) a1)
 refine S.bb 16 (.cons (aE fun w hw=>jo w m (h.I.length:Int) (by omega)) .nil) (!(a3 m 0 ((h.I.length:Int)-1))) (fun ac w β h1 S=>?_) (fun ac w β h1 S=>?_)
 ·have an:=cn h1
  have b4:=dm an
  refine S.go 9 .nil fun ac w β S=>S.mG (α:=Int) (m:=4) (by':=8) (d:=20) (by omega) (show 4<=4194304 by omega) fun ac w N oL dO S up bJ d7=>?_
  clear up d7
  refine S.bq 4 .nil [R 4 oL.1] fun ac w β S=>?_
  exact cx S (show oh h m page=(List.replicate 4 (GT.eK:Int)) from Eu) (by rw [show 4=(List.replicate 4 (GT.eK:Int)).length from(by simp)];rfl) bJ
 have db:=b_ h1
 have fx:=cU db
 refine S.bb 6 (.cons (aE fun w hw=>jo w page 8 (by omega)) .nil) (!(a3 page 0 (8-1))) (fun ac w β c3 S=>?_) (fun ac w β c3 S=>?_)
 ·have eL:=cn c3
  have h8:=dm eL
  refine S.go 3 .nil fun ac w β S=>S.mG (α:=Int) (m:=4) (by':=8) (d:=20) (by omega) (show 4<=4194304 by omega) fun ac w N yM fL S up bh d16=>?_
  clear up d16
  refine S.bq 4 .nil [R 4 yM.1] fun ac w β S=>?_
  exact cx S (show oh h m page=(List.replicate 4 (GT.eK:Int)) from Eu) (by rw [show 4=(List.replicate 4 (GT.eK:Int)).length from(by simp)];rfl) bh
 have jE:=b_ c3
 have pc:=cU jE
 refine S.aI 32 (.cons (cp (bz.I (d:=h) (S.arg a1)) m Tryz.underlying28) (.cons (dy (bz.I (d:=h) (S.arg a1)) 74 m.toNat) (.cons (aE fun w hw=>G_ w (el h.I m.toNat).outer (ai.I.2 m.toNat).outer (bN (aU.outer (d:=(el h.I m.toNat)) (af.el (bz.I (d:=h) (S.arg a1)) m.toNat (by omega))) hw) page) .nil))) ((eO (el h.I m.toNat).outer page).page != (-1)) (fun ac w β iZ p5 S=>?_) (fun ac w β iZ p5 S=>?_)
 ·refine S.go 7 .nil fun ac w β S=>S.cN (r:=hg h.mem (eO (el h.I m.toNat).outer page).page) (d:=37) (G8 w h.mem ai.mem (S.rd (bz.mem (d:=h) (S.arg a1))) (eO (el h.I m.toNat).outer page).page) fun ac w N dd fD S up ba d24=>?_
  clear up d24
  refine S.bq 4 .nil [R (hg h.mem (eO (el h.I m.toNat).outer page).page).length dd.1] fun ac w β S=>?_
  exact cx S (show oh h m page=(hg h.mem (eO (el h.I m.toNat).outer page).page) from Eu) rfl ba
 refine S.go 8 .nil fun ac w β S=>S.cN (r:=hg (el h.I m.toNat).out page) (d:=41) (G8 w (el h.I m.toNat).out (ai.I.2 m.toNat).out (S.rd (aU.out (d:=(el h.I m.toNat)) (af.el (bz.I (d:=h) (S.arg a1)) m.toNat (by omega)))) page) fun ac w N kg kS S up dQ d28=>?_
 clear up d28
 refine S.bq 4 .nil [R (hg (el h.I m.toNat).out page).length kg.1] fun ac w β S=>?_
 exact cx S (show oh h m page=(hg (el h.I m.toNat).out page) from Eu) rfl dQ
theorem Tf {p:Prop} (h:p:=by clear S;(first|(unfold e9;rw [if_neg (TV (by assumption))];done)|(unfold e9;rw [if_pos (tw (by assumption)),vW (tw (by assumption)),bt,show i=8 by omega]))):p:=h
theorem Yr (w0:World) (h:ah) (ai:cb) (a1:bT w0 h ai) (m:Int):Calls Tryz.prog 56 [GT.val h ai,aa m].toArray w0 (dw ab w0 (e9 h m:cP)):=by
 refine Calls.run ab Tryz.func56 ?_
 intro ac β S
 have m1:h.mem.length<=4194304:=af.le (bz.mem (d:=h) a1)
 have m2:h.I.length<=4194304:=af.le (bz.I (d:=h) a1)
 have mZ:h.buf.length<=4194304:=af.le (bz.buf (d:=h) a1)
 have m0:h.ag.length<=4194304:=af.le (bz.ag (d:=h) a1)
 refine S.go 10 .nil fun ac w β S=>S.rA (r:=(aK h m).1) (r':=(aK h m).2) (d:=12) (G6 w h ai (S.rd (S.arg a1)) m) fun ac w N ae gy ec e4 S up bY bJ d7 d8 d9=>?_
 clear up d7
 clear d8
 have i25:a_ (aK h m).1.aB:=aU.aB (d:=(aK h m).1) bY.ak
 obtain⟨dT,gb,pL,ko,fD,uh,bo,c4,eo,fz,ba,fC,_,_,_,_,_,_,_,_,_,_,_,_,_,_,_,_,_,_,d43,_,_⟩:=ajW bY
 refine S.bb 15 .nil (!(aK h m).2) (fun ac w β om S=>?_) (fun ac w β om S=>?_)
 ·have rX:=cn om
  refine S.bq 8 (.cons (fT (s:=Instr.build 98 [].toArray) (v:= .agg [R ([]:List (List Int)).length (GT.cY (α:=List (List Int))).1,R ([]:List ax).length (GT.cY (α:=List ax)).1,R ([]:List Int).length (GT.cY (α:=List Int)).1,aa 0].toArray) (fun w=>by kernel_rfl)) .nil) [GT.val (⟨([]:List (List Int)),([]:List ax),([]:List Int),0⟩:cP) (⟨(GT.cY (α:=List (List Int))),(GT.cY (α:=List ax)),(GT.cY (α:=List Int))⟩:iX)] fun ac w β S=>?_
  have tE:=S.mw (α:=List Int)
  have hS:=S.mw (α:=ax)
  have BB:=S.mw (α:=Int)
  have g6:=wi (x:=(⟨([]:List (List Int)),([]:List ax),([]:List Int),0⟩:cP)) (p:=(⟨(GT.cY (α:=List (List Int))),(GT.cY (α:=List ax)),(GT.cY (α:=List Int))⟩:iX)) tE hS BB (fun b _ h=>False.elim h) (fun b _ h=>False.elim h) (fun b _ h=>False.elim h) (show a_ 0 from⟨by decide,by decide⟩)
  exact cx S (show e9 h m=(⟨([]:List (List Int)),([]:List ax),([]:List Int),0⟩:cP) from Tf) rfl g6
 have oo:=b_ om
 have anI:=vX oo
 refine S.go 23 (.cons (fT (s:=Instr.build 98 [(1,R (aK h m).1.U.length ae.U.1),(2,R (aK h m).1.outs.length ae.outs.1),(3,aa (aK h m).1.aB)].toArray) (v:= .agg [R ([]:List (List Int)).length (GT.cY (α:=List (List Int))).1,R (aK h m).1.U.length ae.U.1,R (aK h m).1.outs.length ae.outs.1,aa (aK h m).1.aB].toArray) (fun w=>by kernel_rfl)) .nil) fun ac w β S=>?_
 have m_:=S.mw (α:=List Int)
 refine dc (fun a5 ac w=>∃(i:Nat) (acc:List (List Int)) (gk:_) (qA:_) (u:_) (N:_) (β:_),a5=8-i/\(i<=8)/\(acc=(List.range i).map (fun(j:Nat)=>oh h m (j:Int)))/\aj Tryz.prog Tryz.f56.ntmps w0 ab u N β ⟨[(1,.v (aa m)),(2,.p 0 0),(4,.p 1 0),(7,.p 3 0),(8,.v (aa (i:Int)))],[GT.cells h ai,ck cP,[R (aK h m).1.outer.length ae.outer.1,R (aK h m).1.out.length ae.out.1,R (aK h m).1.aT.length ae.aT.1,R (aK h m).1.U.length ae.U.1,R (aK h m).1.outs.length ae.outs.1,aa (aK h m).1.aB,aa (aK h m).1.aX,R (aK h m).1.tables.length ae.tables.1,aa (aK h m).1.owned],[R acc.length gk.1,R (aK h m).1.U.length ae.U.1,R (aK h m).1.outs.length ae.outs.1,aa (aK h m).1.aB]]⟩ ac w/\ad w0 ab u N qA acc gk/\ad w0 ab u N dT (aK h m).1.outer ae.outer/\ad w0 ab u N gb (aK h m).1.out ae.out/\ad w0 ab u N pL (aK h m).1.aT ae.aT/\ad w0 ab u N ko (aK h m).1.U ae.U/\ad w0 ab u N fD (aK h m).1.outs ae.outs/\ad w0 ab u N uh (aK h m).1.tables ae.tables/\J qA dT/\J qA gb/\J qA pL/\J qA ko/\J qA fD/\J qA uh) _ ⟨0,([]:List (List Int)),(GT.cY (α:=List (List Int))),ab,_,_,_,rfl,cv,(by rfl),S.z,m_,bo,c4,eo,fz,ba,fC,(J.symm (fun b _ h=>False.elim h)),(J.symm (fun b _ h=>False.elim h)),(J.symm (fun b _ h=>False.elim h)),(J.symm (fun b _ h=>False.elim h)),(J.symm (fun b _ h=>False.elim h)),(J.symm (fun b _ h=>False.elim h))⟩ ?_
 clear S bo c4 eo fz ba fC m_ bJ
 rintro f64 a5 ad8 ac w ⟨i,acc,gk,qA,u,N,β,rfl,hi,bt,S,kI,bo,c4,eo,fz,ba,fC,d58,d59,d60,d61,d62,d63⟩
 refine S.rs fun S=>?_
 have gD:acc.length=i:=by rw [bt];simp
 refine S.aI 7 .nil (decide ((i:Int)<8)) (fun ac w β u1 xU S=>?_) (fun ac w β u1 xU S=>?_)
 ·refine S.go 5 .nil fun ac w β S=>?_
  refine dI ?_
  refine S.dP (f:=10) 7 (by kernel_rfl) (by kernel_rfl) fun w S=>?_
  refine S.a9 0 [1,0] [] [(29,.p 3 0)] .nil fun ac S=>?_
  refine S.a9 1 [1] [] [(30,.v (R acc.length gk.1))] .nil fun ac S=>?_
  refine S.a9 2 [5,2] [] [(31,.v (GT.val h ai))] .nil fun ac S=>?_
  refine S.a9 3 [5,3] [] [(32,.v (aa m))] .nil fun ac S=>?_
  refine S.a9 4 [5,4] [] [(33,.v (aa (i:Int)))] .nil fun ac S=>?_
  refine ar.one (i:=5) (by kernel_rfl) ?_
  refine id (S.dz 34 (Yn w h ai (S.rd (S.arg a1)) m (i:Int)) fun ac w N qo N9 S up ho d71=>?_)
  refine ar.next S up (by kernel_rfl) ?_
  have d72:=J.w d71 kI.sub
  have d73:=J.w d71 bo.sub
  have d74:=J.w d71 c4.sub
  have d75:=J.w d71 eo.sub
  have d76:=J.w d71 fz.sub
  have d77:=J.w d71 ba.sub
  have d78:=J.w d71 fC.sub
  replace kI:=kI.up up
  replace bo:=bo.up up
  replace c4:=c4.up up
  replace eo:=eo.up up
  replace fz:=fz.up up
  replace ba:=ba.up up
  replace fC:=fC.up up
  clear up d71
  refine ar.one (i:=6) (by kernel_rfl) ?_
  refine id (S.pS (α:=List Int) (x:=(oh h m (i:Int))) (p:=qo) ho.own ho.sub ho.dJ (d:=35) (by kernel_rfl) fun ac w N Vr zj S up nT d82=>?_)
  refine ar.next S up (by kernel_rfl) ?_
  have d83:=d82 _ d72 kI.sub
  have d84:=d82 _ d73 bo.sub
  have d85:=d82 _ d74 c4.sub
  have d86:=d82 _ d75 eo.sub
  have d87:=d82 _ d76 fz.sub
  have d88:=d82 _ d77 ba.sub
  have d89:=d82 _ d78 fC.sub
  replace kI:=kI.up up
  replace bo:=bo.up up
  replace c4:=c4.up up
  replace eo:=eo.up up
  replace fz:=fz.up up
  replace ba:=ba.up up
  replace fC:=fC.up up
  clear up d82
  refine ar.one (i:=7) (by kernel_rfl) ?_
  refine id (S.CU (α:=List Int) kI nT d83 (by':=24) (d:=36) (lx:=acc.length) (ly:=1) rfl rfl (by kernel_rfl) (show _<=4194304 by simp only [List.length_append,List.length_cons,List.length_nil];omega) fun ac w N B1 GQ S up E5 d93=>?_)
  refine ar.last (by kernel_rfl) ?_
  have d94:=d93 _ (J.symm d58) d84 bo.sub
  have d95:=d93 _ (J.symm d59) d85 c4.sub
  have d96:=d93 _ (J.symm d60) d86 eo.sub
  have d97:=d93 _ (J.symm d61) d87 fz.sub
  have d98:=d93 _ (J.symm d62) d88 ba.sub
  have d99:=d93 _ (J.symm d63) d89 fC.sub
  replace bo:=bo.bw (J.symm d58) up
  replace c4:=c4.bw (J.symm d59) up
  replace eo:=eo.bw (J.symm d60) up
  replace fz:=fz.bw (J.symm d61) up
  replace ba:=ba.bw (J.symm d62) up
  replace fC:=fC.bw (J.symm d63) up
  clear up d93
  refine S.c9 8 [] [(37,.p 3 0)] 4 [] .nil fun ac w β S=>?_
  refine S.c9 9 [] [] 4 [(3,[R (acc++[(oh h m (i:Int))]).length B1.1,R (aK h m).1.U.length ae.U.1,R (aK h m).1.outs.length ae.outs.1,aa (aK h m).1.aB])] .nil fun ac w β S=>?_
  refine ar.done (by kernel_rfl) ?_ _
  refine S.ex fun S=>?_
  refine S.ge 7 (.cons (cg (i:Int) 1) .nil) f64 fun ac w β S=>ad8.of (8-(i+1)) _ _ (by omega) ⟨i+1,(acc++[(oh h m (i:Int))]),B1,GQ,_,_,_,rfl,?_,?_,S.z,E5,bo,c4,eo,fz,ba,fC,(J.symm d94),(J.symm d95),(J.symm d96),(J.symm d97),(J.symm d98),(J.symm d99)⟩
  ·exact cO
  ·clear S;(rw [aiX,←bt])
 refine S.bq 13 .nil [GT.val (⟨acc,(aK h m).1.U,(aK h m).1.outs,(aK h m).1.aB⟩:cP) (⟨gk,ae.U,ae.outs⟩:iX)] fun ac w β S=>?_
 have Bn:=wi (x:=(⟨acc,(aK h m).1.U,(aK h m).1.outs,(aK h m).1.aB⟩:cP)) (p:=(⟨gk,ae.U,ae.outs⟩:iX)) kI fz ba d61 d62 d43 i25
 exact cx S (show e9 h m=(⟨acc,(aK h m).1.U,(aK h m).1.outs,(aK h m).1.aB⟩:cP) from Tf) rfl Bn
theorem Er {p:Prop} (h:p:=by clear S;(first|(unfold a2;rw [if_pos (by omega)];done)|(unfold a2;rw [if_pos (by omega)];first|rfl|(simp;done))|(unfold a2;rw [if_neg (by omega)];done)|(unfold a2;rw [if_neg (by omega)];first|rfl|(simp;done)))):p:=h
theorem Yh (w0:World) (b:cP) (bB:iX) (hb:bT w0 b bB) (g:Int):Calls Tryz.prog 143 [GT.val b bB,aa g].toArray w0 (rC ab w0 ((a2 b g).1:ax) ((a2 b g).2:Bool)):=by
 refine Calls.run ab Tryz.func143 ?_
 intro ac β S
 have yf:b.mem.length<=4194304:=af.le (fE.mem (d:=b) hb)
 have ye:b.U.length<=4194304:=af.le (fE.U (d:=b) hb)
 have yg:b.outs.length<=4194304:=af.le (fE.outs (d:=b) hb)
 refine S.bb 18 (.cons (aE fun w hw=>jo w g (b.U.length:Int) (by omega)) .nil) (!(a3 g 0 ((b.U.length:Int)-1))) (fun ac w β h1 S=>?_) (fun ac w β h1 S=>?_)
 ·have an:=cn h1
  have b4:=dm an
  refine S.bq 9 (.cons (fT (s:=Instr.build 70 [].toArray) (v:= .agg [R ([]:List c_).length (GT.cY (α:=List c_)).1,aa 0,aa 0,R ([]:List aQ).length (GT.cY (α:=List aQ)).1,R ([]:List aQ).length (GT.cY (α:=List aQ)).1,aa 0,aa 0,B false,aa 0,aa 0,aa 0,B false,aa 0,B false,R ([]:List Int).length (GT.cY (α:=List Int)).1].toArray) (fun w=>by kernel_rfl)) .nil) [GT.val (⟨([]:List c_),0,0,([]:List aQ),([]:List aQ),(⟨0,0,false⟩:fo),0,(⟨0,0,false,0⟩:df),false,([]:List Int)⟩:ax) (⟨(GT.cY (α:=List c_)),(GT.cY (α:=List aQ)),(GT.cY (α:=List aQ)),(GT.cY (α:=List Int))⟩:c6),B false] fun ac w β S=>?_
  have fW:=S.mw (α:=c_)
  have bY:=S.mw (α:=aQ)
  have bJ:=S.mw (α:=aQ)
  have ao:=S.mw (α:=Int)
  have bP:=hI (x:=(⟨([]:List c_),0,0,([]:List aQ),([]:List aQ),(⟨0,0,false⟩:fo),0,(⟨0,0,false,0⟩:df),false,([]:List Int)⟩:ax)) (p:=(⟨(GT.cY (α:=List c_)),(GT.cY (α:=List aQ)),(GT.cY (α:=List aQ)),(GT.cY (α:=List Int))⟩:c6)) fW bY bJ ao (fun b _ h=>False.elim h) (fun b _ h=>False.elim h) (fun b _ h=>False.elim h) (fun b _ h=>False.elim h) (fun b _ h=>False.elim h) (fun b _ h=>False.elim h) (show a_ 0 from⟨by decide,by decide⟩) (show a_ 0 from⟨by decide,by decide⟩) (show hr (⟨0,0,false⟩:fo) from⟨(show a_ 0 from⟨by decide,by decide⟩),(show a_ 0 from⟨by decide,by decide⟩)⟩) (show a_ 0 from⟨by decide,by decide⟩) (show fF (⟨0,0,false,0⟩:df) from⟨(show a_ 0 from⟨by decide,by decide⟩),(show a_ 0 from⟨by decide,by decide⟩),(show a_ 0 from⟨by decide,by decide⟩)⟩)
  exact f_ (p':=()) S (show(a2 b g).1=(⟨([]:List c_),0,0,([]:List aQ),([]:List aQ),(⟨0,0,false⟩:fo),0,(⟨0,0,false,0⟩:df),false,([]:List Int)⟩:ax) from Er) (show(a2 b g).2=false from Er) rfl rfl bP trivial
 have et:=b_ h1
 have iP:=cU et
 refine S.go 10 (.cons (cp (fE.U (d:=b) (S.arg hb)) g Tryz.underlying71) (.cons (dy (fE.U (d:=b) (S.arg hb)) 70 g.toNat) .nil)) fun ac w β S=>S.cN (r:=(el b.U g.toNat)) (d:=18) (sT w (el b.U g.toNat) (bB.U.2 g.toNat) (S.rd (af.el (fE.U (d:=b) (S.arg hb)) g.toNat (by omega)))) fun ac w N yK CG S up ju d14=>?_
 clear up d14
 refine S.bq 5 .nil [GT.val (el b.U g.toNat) yK,B true] fun ac w β S=>?_
 exact f_ (p':=()) S (show(a2 b g).1=(el b.U g.toNat) from Er) (show(a2 b g).2=true from Er) rfl rfl ju trivial
theorem EB {p:Prop} (h:p:=by clear S;(symm;rw [←Bool.not_eq_true];intro hc;simp only [jz,Bool.and_eq_true,decide_eq_true_eq,beq_iff_eq] at hc;first|omega|(simp_all;done)|(simp_all;omega)|(have hx:=sP (k:=k) hc.1.1.1.1 (by omega);simp_all;done))):p:=h
theorem X4 (w0:World) (b:cP) (bB:iX) (hb:bT w0 b bB):Calls Tryz.prog 144 [GT.val b bB].toArray w0 (fun e w'=>e= .returned (B (jz b))/\bu ab w0 w'):=by
 refine Calls.run ab Tryz.func144 ?_
 intro ac β S
 have yf:b.mem.length<=4194304:=af.le (fE.mem (d:=b) hb)
 have ye:b.U.length<=4194304:=af.le (fE.U (d:=b) hb)
 have yg:b.outs.length<=4194304:=af.le (fE.outs (d:=b) hb)
 refine S.go 16 .nil fun ac w β S=>?_
 refine dc (fun a5 ac w=>∃(k:Nat) (u:_) (N:_) (β:_),a5=b.U.length-k/\(k<=b.U.length)/\((b.U.take k).all kz=true)/\aj Tryz.prog Tryz.f144.ntmps w0 ab u N β ⟨[(1,.p 0 0),(6,.v (R b.U.length bB.U.1)),(7,.v (aa (b.U.length:Int))),(8,.v (aa (k:Int)))],[GT.cells b bB]⟩ ac w) _ ⟨0,_,_,_,rfl,cv,(by simp),S.z⟩ ?_
 clear S
 rintro f1 a5 fa ac w ⟨k,u,N,β,rfl,hk,he,S⟩
 refine S.rs fun S=>?_
 refine S.aI 6 .nil (decide ((k:Int)<(b.U.length:Int))) (fun ac w β aF cB S=>?_) (fun ac w β aF cB S=>?_)
 ·refine S.bb 20 (.cons (b6 (fE.U (d:=b) (S.arg hb)) k Tryz.underlying71) (.cons (dy (fE.U (d:=b) (S.arg hb)) 70 k) (.cons (aE fun w hw=>O8 w (el b.U k) (bB.U.2 k) (bN (af.el (fE.U (d:=b) (S.arg hb)) k (by omega)) hw)) .nil))) (!(kz (el b.U k))) (fun ac w β bl S=>?_) (fun ac w β bl S=>?_)
  ·have cR:=cn bl
   exact S.aq 7 .nil [B false] (a6 EB)
  have cD:=b_ bl
  refine S.ge 8 (.cons (cg (k:Int) 1) .nil) f1 fun ac w β S=>fa.of (b.U.length-(k+1)) _ _ (by omega) ⟨k+1,_,_,_,rfl,?_,?_,S.z⟩
  ·exact cO
  ·clear S;exact pP (by omega) he (by first|assumption|simp_all)
 refine S.bb 12 (.cons (aE fun w hw=>Pd w b.mem bB.mem (bN (fE.mem (d:=b) (S.arg hb)) hw) 8) .nil) (h6 b.mem 8) (fun ac w β db S=>?_) (fun ac w β db S=>?_)
 ·refine S.bb 6 (.cons (aE fun w hw=>ha w (b.U.length:Int) 1 2) .nil) (a3 (b.U.length:Int) 1 2) (fun ac w β et S=>?_) (fun ac w β et S=>?_)
  ·have iP:=cU et
   refine S.aI 6 .nil (decide ((b.outs.length:Int)<=40)) (fun ac w β eL h8 S=>?_) (fun ac w β eL h8 S=>?_)
   ·exact S.aq 8 (.cons (aE fun w hw=>C6 w b.aB) .nil) [B (a3 b.aB 0 255)] (a6 (by clear S;(first|rfl|(symm;rw [←Bool.not_eq_true];intro hc;simp only [jz,Bool.and_eq_true,decide_eq_true_eq,beq_iff_eq] at hc;first|omega|(simp_all;done)|(simp_all;omega)|(have hx:=sP (k:=k) hc.1.1.1.1 (by omega);simp_all;done))|(symm;simp only [jz,Bool.and_eq_true,decide_eq_true_eq,beq_iff_eq];(repeat' apply And.intro);all_goals first|assumption|omega|(simp_all;done)|(simp_all;omega)|(exact eR (by omega) he))|(rw [Bool.eq_iff_iff];simp only [jz,Bool.and_eq_true,decide_eq_true_eq,beq_iff_eq];refine⟨fun bn=>?_,fun hc=>?_⟩<;>((repeat' apply And.intro);all_goals first|assumption|omega|(simp_all;done)|(simp_all;omega)|(exact eR (by omega) he))))))
   exact S.aq 8 .nil [B false] (a6 EB)
  have hA:=dm et
  exact S.aq 14 .nil [B false] (a6 EB)
 exact S.aq 20 .nil [B false] (a6 EB)
theorem zI (w0:World) (b:cP) (bB:iX) (hb:bT w0 b bB):Calls Tryz.prog 145 [GT.val b bB].toArray w0 (dw ab w0 (b:cP)):=by
 refine Calls.run ab Tryz.func145 ?_
 intro ac β S
 have yf:b.mem.length<=4194304:=af.le (fE.mem (d:=b) hb)
 have ye:b.U.length<=4194304:=af.le (fE.U (d:=b) hb)
 have yg:b.outs.length<=4194304:=af.le (fE.outs (d:=b) hb)
 refine S.go 7 .nil fun ac w β S=>?_
 refine dI ?_
 refine S.dP (f:=13) 12 (by kernel_rfl) (by kernel_rfl) fun w S=>?_
 refine S.hm 5 [0,1,3,4,6,7,9,10] [] [(4,.v (R b.mem.length bB.mem.1)),(7,.v (R b.U.length bB.U.1)),(10,.v (R b.outs.length bB.outs.1)),(13,.v (aa b.aB))] .nil fun ac S=>?_
 refine ar.one (i:=2) (by kernel_rfl) ?_
 refine id (S.dz 5 (o4 w b.mem bB.mem (S.rd (fE.mem (d:=b) (S.arg hb)))) fun ac w N ae br S up aD d4=>?_)
 refine ar.next S up (by kernel_rfl) ?_
 clear up d4
 refine ar.one (i:=5) (by kernel_rfl) ?_
 refine id (S.dz 8 (Pn w b.U bB.U (S.rd (fE.U (d:=b) (S.arg hb)))) fun ac w N bL cW S up ao d8=>?_)
 refine ar.next S up (by kernel_rfl) ?_
 have d9:=J.w d8 aD.sub
 replace aD:=aD.up up
 clear up d8
 refine ar.one (i:=8) (by kernel_rfl) ?_
 refine id (S.dz 11 (xe w b.outs bB.outs (S.rd (fE.outs (d:=b) (S.arg hb)))) fun ac w N fY e3 S up bG d13=>?_)
 refine ar.next S up (by kernel_rfl) ?_
 have d14:=J.w d13 aD.sub
 have d15:=J.w d13 ao.sub
 replace aD:=aD.up up
 replace ao:=ao.up up
 clear up d13
 refine S.a9 11 [11] [] [(14,.v (GT.val (⟨b.mem,b.U,b.outs,b.aB⟩:cP) (⟨ae,bL,fY⟩:iX)))] (.cons (fT (s:=Instr.build 98 [(0,R b.mem.length ae.1),(1,R b.U.length bL.1),(2,R b.outs.length fY.1),(3,aa b.aB)].toArray) (v:= .agg [R b.mem.length ae.1,R b.U.length bL.1,R b.outs.length fY.1,aa b.aB].toArray) (fun w=>by kernel_rfl)) .nil) fun ac S=>?_
 refine S.c9 12 [] [] 2 [(1,[R b.mem.length ae.1,R b.U.length bL.1,R b.outs.length fY.1,aa b.aB])] .nil fun ac w β S=>?_
 refine ar.done (by kernel_rfl) ?_ _
 refine S.ex fun S=>?_
 refine S.bq 2 .nil [GT.val (⟨b.mem,b.U,b.outs,b.aB⟩:cP) (⟨ae,bL,fY⟩:iX)] fun ac w β S=>?_
 have gE:=wi (x:=(⟨b.mem,b.U,b.outs,b.aB⟩:cP)) (p:=(⟨ae,bL,fY⟩:iX)) aD ao bG d9 d14 d15 (fE.aB (d:=b) (S.arg hb))
 exact cx S (show b=(⟨b.mem,b.U,b.outs,b.aB⟩:cP) by clear S;(first|rfl|simp)) rfl gE
theorem yw {p:Prop} (h:p:=by clear S;(first|(unfold eE;rw [if_pos (by assumption)];done)|(unfold eE;rw [if_neg (by assumption)];done)|(unfold eE;rw [if_neg (by assumption)];exact F0 (by assumption))|(unfold eE;rw [if_neg (by assumption)];exact(F0 (by assumption)).symm))):p:=h
theorem Yu (w0:World) (p:Int) (bD:a_ p):Calls Tryz.prog 255 [aa p].toArray w0 (fun e w'=>e= .returned (.tuple #[aa (eE p).1,aa (eE p).2.1,B (eE p).2.2])/\bu ab w0 w'):=by
 refine Calls.run ab Tryz.func255 ?_
 intro ac β S
 have aex:=bD.lo;have aed:=bD.hi
 have hv:=Cw p
 refine S.aI 21 (.cons (aE fun w hw=>Pk w p) .nil) (decide ((gp p)<0)) (fun ac w β an b4 S=>?_) (fun ac w β an b4 S=>?_)
 ·exact S.aq 10 .nil [aa p,aa (-1),B false] (FD (h4 (show p=(eE p).1 from yw)) (h4 (show(-1)=(eE p).2.1 from yw)) (jy (show false=(eE p).2.2 from yw)))
 exact S.aq 16 (.cons (Of (yk:= .i64) (x:=1) (y:=(gp p)) (by omega)) (.cons (WV (x:=p) (y:=(oO 1 (gp p)))) .nil)) [aa (vT p (oO 1 (gp p))),aa (gp p),B true] (FD (h4 (show(vT p (oO 1 (gp p)))=(eE p).1 from yw)) (h4 (show(gp p)=(eE p).2.1 from yw)) (jy (show true=(eE p).2.2 from yw)))
theorem Ta {p:Prop} (h:p:=by clear S;(unfold jq;first|(rw [if_pos (by assumption)];done)|(rw [if_neg (by simp [*])];done))):p:=h
theorem Yj (w0:World) (g:ax) (bc:c6) (aJ:bT w0 g bc):Calls Tryz.prog 147 [GT.val g bc].toArray w0 (dw ab w0 (jq g:ax)):=by
 refine Calls.run ab Tryz.func147 ?_
 intro ac β S
 have iy:g.prog.length<=4194304:=af.le (az.prog (d:=g) aJ)
 have iA:g.written.length<=4194304:=af.le (az.written (d:=g) aJ)
 have ix:g.live.length<=4194304:=af.le (az.live (d:=g) aJ)
 have iz:g.seen.length<=4194304:=af.le (az.seen (d:=g) aJ)
 refine S.bb 14 (.cons (aE fun w hw=>Pj w g bc (bN (S.arg aJ) hw)) .nil) (!(nI g)) (fun ac w β h1 S=>?_) (fun ac w β h1 S=>?_)
 ·have an:=cn h1
  refine S.go 4 .nil fun ac w β S=>S.cN (r:=g) (d:=10) (sT w g bc (S.rd (S.arg aJ))) fun ac w N sz e4 S up bY d6=>?_
  clear up d6
  refine S.bq 4 .nil [GT.val g sz] fun ac w β S=>?_
  exact cx S (show jq g=g from Ta) rfl bY
 have cD:=b_ h1
 have XH:=VU g.aB
 refine S.go 29 (.cons (aE fun w hw=>Yu w g.aB (az.aB (d:=g) (S.arg aJ))) (.cons (cg 100 ((eE g.aB).2.1)) .nil)) fun ac w β S=>S.cN (r:=g4 (⟨g.prog,g.acc,g.aw,g.written,g.live,g.aN,(eE g.aB).1,g.exit,g.halted,g.seen⟩:ax) (100+(eE g.aB).2.1)) (d:=23) (Pg w (⟨g.prog,g.acc,g.aw,g.written,g.live,g.aN,(eE g.aB).1,g.exit,g.halted,g.seen⟩:ax) (⟨bc.prog,bc.written,bc.live,bc.seen⟩:c6) (S.rd (show GT.rd b7 _ _ (⟨g.prog,g.acc,g.aw,g.written,g.live,g.aN,(eE g.aB).1,g.exit,g.halted,g.seen⟩:ax) (⟨bc.prog,bc.written,bc.live,bc.seen⟩:c6) from⟨(az.prog (p:=bc) (d:=g) (S.arg aJ)),(az.acc (d:=g) (S.arg aJ)),(az.aw (d:=g) (S.arg aJ)),(az.written (p:=bc) (d:=g) (S.arg aJ)),(az.live (p:=bc) (d:=g) (S.arg aJ)),(az.aN (d:=g) (S.arg aJ)),(VV (az.aB (d:=g) (S.arg aJ))),(az.exit (d:=g) (S.arg aJ)),(az.seen (p:=bc) (d:=g) (S.arg aJ))⟩)) (100+(eE g.aB).2.1) ⟨by omega,by omega⟩) fun ac w N tQ dT S up bo d12=>?_
 clear up d12
 refine S.bq 4 .nil [GT.val (g4 (⟨g.prog,g.acc,g.aw,g.written,g.live,g.aN,(eE g.aB).1,g.exit,g.halted,g.seen⟩:ax) (100+(eE g.aB).2.1)) tQ] fun ac w β S=>?_
 exact cx S (show jq g=(g4 (⟨g.prog,g.acc,g.aw,g.written,g.live,g.aN,(eE g.aB).1,g.exit,g.halted,g.seen⟩:ax) (100+(eE g.aB).2.1)) from Ta) rfl bo
theorem Ti {p:Prop} (h:p:=by clear S;(unfold gB;first|(rw [if_pos (by omega)];done)|(rw [if_neg (by omega)];done))):p:=h
theorem rH (w0:World) (b:cP) (bB:iX) (hb:bT w0 b bB) (g:Int) (x:ax) (ih:c6) (hx:bT w0 x ih):Calls Tryz.prog 146 [GT.val b bB,aa g,GT.val x ih].toArray w0 (dw ab w0 (gB b g x:cP)):=by
 refine Calls.run ab Tryz.func146 ?_
 intro ac β S
 have yf:b.mem.length<=4194304:=af.le (fE.mem (d:=b) hb)
 have ye:b.U.length<=4194304:=af.le (fE.U (d:=b) hb)
 have yg:b.outs.length<=4194304:=af.le (fE.outs (d:=b) hb)
 have Sv:x.prog.length<=4194304:=af.le (az.prog (d:=x) hx)
 have Sx:x.written.length<=4194304:=af.le (az.written (d:=x) hx)
 have Su:x.live.length<=4194304:=af.le (az.live (d:=x) hx)
 have Sw:x.seen.length<=4194304:=af.le (az.seen (d:=x) hx)
 refine S.go 10 .nil fun ac w β S=>S.cN (r:=b) (d:=9) (zI w b bB (S.rd (S.arg hb))) fun ac w N ae br S up aD d4=>?_
 clear up d4
 have i14:a_ b.aB:=fE.aB (d:=b) aD.ak
 obtain⟨dO,eX,e3,bJ,bE,bG,_,_,_,d15,d16,d17⟩:=FT aD
 refine S.bb 14 (.cons (aE fun w hw=>jo w g (b.U.length:Int) (by omega)) .nil) (a3 g 0 ((b.U.length:Int)-1)) (fun ac w β nM S=>?_) (fun ac w β nM S=>?_)
 ·have xO:=cU nM
  refine S.go 1 .nil fun ac w β S=>?_
  refine dI ?_
  refine S.dP (f:=7) 6 (by kernel_rfl) (by kernel_rfl) fun w S=>?_
  refine S.hm 3 [0,1,2,3] [] [(16,.v (R b.U.length ae.U.1)),(17,.v (aa g)),(18,.v (GT.val x ih))] .nil fun ac S=>?_
  refine ar.one (i:=4) (by kernel_rfl) ?_
  refine id (S.dz 19 (sT w x ih (S.rd (S.arg hx))) fun ac w N c5 oR S up fh d23=>?_)
  refine ar.next S up (by kernel_rfl) ?_
  have d24:=J.w d23 bJ.sub
  have d25:=J.w d23 bE.sub
  have d26:=J.w d23 bG.sub
  replace bJ:=bJ.up up
  replace bE:=bE.up up
  replace bG:=bG.up up
  clear up d23
  refine S.a9 5 [5] [] [(20,.v (bg ae.U.1.b (ae.U.1.off+g.toNat*15)))] (.cons (cp bE.ak g Tryz.underlying71) .nil) fun ac S=>?_
  refine ar.one (i:=6) (by kernel_rfl) ?_
  refine id (S.kO (α:=ax) bE (t:=70) (k:=g.toNat) (off:=ae.U.1.off+g.toNat*15) fh d25 fun w N n1 tM S up dQ d30 Cf v3=>?_)
  refine ar.last (by kernel_rfl) ?_
  have d33:=d30 _ d15 d24 bJ.sub
  have d34:=d30 _ (J.symm d17) d26 bG.sub
  replace bJ:=bJ.bw d15 up
  replace bG:=bG.bw (J.symm d17) up
  clear up d30 bE v3
  have ao8:(b.U.set g.toNat x).length=b.U.length:=List.length_set
  replace S:=S.z (σ':=⟨[(6,.p 2 0),(7,.p 3 0),(19,.v (GT.val x c5)),(20,.v (bg ae.U.1.b (ae.U.1.off+g.toNat*15)))],[GT.cells b bB,GT.cells x ih,ck cP,[R b.mem.length ae.mem.1,R b.U.length ae.U.1,R b.outs.length ae.outs.1,aa b.aB]]⟩)
  replace S:=S.cast (σ':=⟨[(6,.p 2 0),(7,.p 3 0),(19,.v (GT.val x c5)),(20,.v (bg ae.U.1.b (ae.U.1.off+g.toNat*15)))],[GT.cells b bB,GT.cells x ih,ck cP,[R b.mem.length ae.mem.1,R (b.U.set g.toNat x).length ae.U.1,R b.outs.length ae.outs.1,aa b.aB]]⟩) (by rw [show(b.U.set g.toNat x).length=b.U.length by omega])
  refine ar.done (by kernel_rfl) ?_ _
  refine S.ex fun S=>?_
  refine S.bq 8 .nil [GT.val (⟨b.mem,(b.U.set g.toNat x),b.outs,b.aB⟩:cP) (⟨ae.mem,(ae.U.1,tM),ae.outs⟩:iX)] fun ac w β S=>?_
  have gY:=wi (x:=(⟨b.mem,(b.U.set g.toNat x),b.outs,b.aB⟩:cP)) (p:=(⟨ae.mem,(ae.U.1,tM),ae.outs⟩:iX)) bJ dQ bG d33 d16 (J.symm d34) i14
  exact cx S (show gB b g x=(⟨b.mem,(b.U.set g.toNat x),b.outs,b.aB⟩:cP) from Ti) rfl gY
 have xQ:=dm nM
 refine S.bq 10 .nil [GT.val b ae] fun ac w β S=>?_
 have lp:=wi (x:=b) (p:=ae) bJ bE bG d15 d16 d17 i14
 exact cx S (show gB b g x=b from Ti) rfl lp
theorem tn {p:Prop} (h:p:=by clear S;(unfold gu;first|(rw [if_neg (by assumption)];done)|(rw [if_pos (by assumption)];unfold Ia;(repeat' split)<;>first|rfl|(exfalso;omega)|(exfalso;simp_all;done)|(exfalso;simp_all;omega)|(simp_all;done)|(simp_all [a4];done)))):p:=h
theorem Yo (w0:World) (g:ax) (bc:c6) (aJ:bT w0 g bc):Calls Tryz.prog 148 [GT.val g bc].toArray w0 (dw ab w0 (gu g:ax)):=by
 refine Calls.run ab Tryz.func148 ?_
 intro ac β S
 have iy:g.prog.length<=4194304:=af.le (az.prog (d:=g) aJ)
 have iA:g.written.length<=4194304:=af.le (az.written (d:=g) aJ)
 have ix:g.live.length<=4194304:=af.le (az.live (d:=g) aJ)
 have iz:g.seen.length<=4194304:=af.le (az.seen (d:=g) aJ)
 have hv:=tZ g
 refine S.aI 14 (.cons (aE fun w hw=>zH w g bc (bN (S.arg aJ) hw)) .nil) ((bZ g) != 2) (fun ac w β an b4 S=>?_) (fun ac w β an b4 S=>?_)
 ·refine S.go 4 .nil fun ac w β S=>S.cN (r:=g) (d:=9) (sT w g bc (S.rd (S.arg aJ))) fun ac w N oL dO S up bJ d7=>?_
  clear up d7
  have i11:a_ g.acc:=az.acc (d:=g) bJ.ak
  have i12:a_ g.aw:=az.aw (d:=g) bJ.ak
  have i19:hr g.aN:=az.aN (d:=g) bJ.ak
  have i20:a_ g.aB:=az.aB (d:=g) bJ.ak
  have i21:fF g.exit:=az.exit (d:=g) bJ.ak
  obtain⟨eX,gb,pL,fD,bE,c4,eo,ba,_,_,_,_,d25,d26,d27,d28,d29,d30⟩:=mB bJ
  refine S.bq 4 .nil [GT.val g oL] fun ac w β S=>?_
  have lY:=hI (x:=g) (p:=oL) bE c4 eo ba d25 d26 d27 d28 d29 d30 i11 i12 i19 i20 i21
  exact cx S (show gu g=g from tn) rfl lY
 refine S.go 17 (.cons (aE fun w hw=>uy w g.prog bc.prog (bN (az.prog (d:=g) (S.arg aJ)) hw) g.aw) .nil) fun ac w β S=>S.cN (r:=a4 g) (d:=16) (xd w g bc (S.rd (S.arg aJ))) fun ac w N fZ qy S up ie d35=>?_
 clear up d35
 have i39:a_ (a4 g).acc:=az.acc (d:=(a4 g)) ie.ak
 have i40:a_ (a4 g).aw:=az.aw (d:=(a4 g)) ie.ak
 have i47:hr (a4 g).aN:=az.aN (d:=(a4 g)) ie.ak
 have i48:a_ (a4 g).aB:=az.aB (d:=(a4 g)) ie.ak
 have i49:fF (a4 g).exit:=az.exit (d:=(a4 g)) ie.ak
 obtain⟨CL,n3,lE,qz,iE,kd,ey,g6,_,_,_,_,d53,d54,d55,d56,d57,d58⟩:=mB ie
 refine S.bb 12 (.cons (aE fun w hw=>ha w g.acc 0 99) .nil) (!(a3 g.acc 0 99)) (fun ac w β uY S=>?_) (fun ac w β uY S=>?_)
 ·have Ai:=cn uY
  have xT:=dm Ai
  refine S.bq 15 .nil [GT.val (a4 g) fZ] fun ac w β S=>?_
  have BE:=hI (x:=(a4 g)) (p:=fZ) iE kd ey g6 d53 d54 d55 d56 d57 d58 i39 i40 i47 i48 i49
  exact cx S (show gu g=(a4 g) from tn) rfl BE
 have u0:=b_ uY
 have Iu:=cU u0
 refine S.bb 7 (.cons (aE fun w hw=>ha w (bF g.prog g.aw).x 0 99) .nil) (!(a3 (bF g.prog g.aw).x 0 99)) (fun ac w β x6 S=>?_) (fun ac w β x6 S=>?_)
 ·have u1:=cn x6
  have xU:=dm u1
  refine S.bq 8 .nil [GT.val (a4 g) fZ] fun ac w β S=>?_
  have q9:=hI (x:=(a4 g)) (p:=fZ) iE kd ey g6 d53 d54 d55 d56 d57 d58 i39 i40 i47 i48 i49
  exact cx S (show gu g=(a4 g) from tn) rfl q9
 have ac0:=b_ x6
 have anK:=cU ac0
 refine S.aI 13 .nil ((bF g.prog g.aw).eF==1) (fun ac w β Aj Aa S=>?_) (fun ac w β Aj Aa S=>?_)
 ·refine S.bq 16 .nil [GT.val (⟨(a4 g).prog,(bF g.prog g.aw).x,(a4 g).aw,(a4 g).written,(a4 g).live,(a4 g).aN,(a4 g).aB,(a4 g).exit,(a4 g).halted,(a4 g).seen⟩:ax) (⟨fZ.prog,fZ.written,fZ.live,fZ.seen⟩:c6)] fun ac w β S=>?_
  have hH:=hI (x:=(⟨(a4 g).prog,(bF g.prog g.aw).x,(a4 g).aw,(a4 g).written,(a4 g).live,(a4 g).aN,(a4 g).aB,(a4 g).exit,(a4 g).halted,(a4 g).seen⟩:ax)) (p:=(⟨fZ.prog,fZ.written,fZ.live,fZ.seen⟩:c6)) iE kd ey g6 d53 d54 d55 d56 d57 d58 (iY.x (d:=(bF g.prog g.aw)) (lV (az.prog (d:=g) (S.arg aJ)) g.aw)) i40 i47 i48 i49
  exact cx S (show gu g=(⟨(a4 g).prog,(bF g.prog g.aw).x,(a4 g).aw,(a4 g).written,(a4 g).live,(a4 g).aN,(a4 g).aB,(a4 g).exit,(a4 g).halted,(a4 g).seen⟩:ax) from tn) rfl hH
 refine S.aI 9 .nil ((bF g.prog g.aw).eF==2) (fun ac w β ac2 Rh S=>?_) (fun ac w β ac2 Rh S=>?_)
 ·refine S.bq 20 (.cons (cg g.acc ((bF g.prog g.aw).x)) (.cons (oU (x:=(g.acc+(bF g.prog g.aw).x)) (y:=100) (by decide)) .nil)) [GT.val (⟨(a4 g).prog,(Int.tmod (g.acc+(bF g.prog g.aw).x) 100),(a4 g).aw,(a4 g).written,(a4 g).live,(a4 g).aN,(a4 g).aB,(a4 g).exit,(a4 g).halted,(a4 g).seen⟩:ax) (⟨fZ.prog,fZ.written,fZ.live,fZ.seen⟩:c6)] fun ac w β S=>?_
  have wg:=hI (x:=(⟨(a4 g).prog,(Int.tmod (g.acc+(bF g.prog g.aw).x) 100),(a4 g).aw,(a4 g).written,(a4 g).live,(a4 g).aN,(a4 g).aB,(a4 g).exit,(a4 g).halted,(a4 g).seen⟩:ax)) (p:=(⟨fZ.prog,fZ.written,fZ.live,fZ.seen⟩:c6)) iE kd ey g6 d53 d54 d55 d56 d57 d58 (VX (by decide)) i40 i47 i48 i49
  exact cx S (show gu g=(⟨(a4 g).prog,(Int.tmod (g.acc+(bF g.prog g.aw).x) 100),(a4 g).aw,(a4 g).written,(a4 g).live,(a4 g).aN,(a4 g).aB,(a4 g).exit,(a4 g).halted,(a4 g).seen⟩:ax) from tn) rfl wg
 refine S.aI 7 .nil ((bF g.prog g.aw).eF==8) (fun ac w β DQ Iw S=>?_) (fun ac w β DQ Iw S=>?_)
 ·refine S.aI 7 .nil (g.acc==0) (fun ac w β ac4 acj S=>?_) (fun ac w β ac4 acj S=>?_)
  ·refine S.bq 16 .nil [GT.val (⟨(a4 g).prog,(a4 g).acc,(bF g.prog g.aw).x,(a4 g).written,(a4 g).live,(a4 g).aN,(a4 g).aB,(a4 g).exit,(a4 g).halted,(a4 g).seen⟩:ax) (⟨fZ.prog,fZ.written,fZ.live,fZ.seen⟩:c6)] fun ac w β S=>?_
   have nT:=hI (x:=(⟨(a4 g).prog,(a4 g).acc,(bF g.prog g.aw).x,(a4 g).written,(a4 g).live,(a4 g).aN,(a4 g).aB,(a4 g).exit,(a4 g).halted,(a4 g).seen⟩:ax)) (p:=(⟨fZ.prog,fZ.written,fZ.live,fZ.seen⟩:c6)) iE kd ey g6 d53 d54 d55 d56 d57 d58 i39 (iY.x (d:=(bF g.prog g.aw)) (lV (az.prog (d:=g) (S.arg aJ)) g.aw)) i47 i48 i49
   exact cx S (show gu g=(⟨(a4 g).prog,(a4 g).acc,(bF g.prog g.aw).x,(a4 g).written,(a4 g).live,(a4 g).aN,(a4 g).aB,(a4 g).exit,(a4 g).halted,(a4 g).seen⟩:ax) from tn) rfl nT
  refine S.bq 11 .nil [GT.val (a4 g) fZ] fun ac w β S=>?_
  have oG:=hI (x:=(a4 g)) (p:=fZ) iE kd ey g6 d53 d54 d55 d56 d57 d58 i39 i40 i47 i48 i49
  exact cx S (show gu g=(a4 g) from tn) rfl oG
 refine S.bq 18 .nil [GT.val (a4 g) fZ] fun ac w β S=>?_
 have oH:=hI (x:=(a4 g)) (p:=fZ) iE kd ey g6 d53 d54 d55 d56 d57 d58 i39 i40 i47 i48 i49
 exact cx S (show gu g=(a4 g) from tn) rfl oH
theorem X7 (w0:World) (n:Int) (cX:a_ n):Calls Tryz.prog 150 [aa n].toArray w0 (fun e w'=>e= .returned (GT.val (ma n) ())/\bu ab w0 w'):=by
 refine Calls.run ab Tryz.func150 ?_
 intro ac β S
 have yj:=cX.lo;have yb:=cX.hi
 exact S.aq 13 (.cons (fT (s:=Instr.build 68 [(0,aa 2),(3,aa n)].toArray) (v:= .agg [aa 2,aa 0,B false,aa n].toArray) (fun w=>by kernel_rfl)) .nil) [GT.val (⟨2,0,false,n⟩:df) ()] (hU (p:=()) (by clear S;rfl))
theorem Td {p:Prop} (h:p:=by clear S;(first|(unfold lh;rw [if_pos (by omega)];done)|(unfold lh;rw [if_pos (by omega)];first|rfl|(simp;done))|(unfold lh;rw [if_neg (by omega)];done)|(unfold lh;rw [if_neg (by omega)];first|rfl|(simp;done)))):p:=h
theorem Yq (w0:World) (b:cP) (bB:iX) (hb:bT w0 b bB) (n:Int) (cX:a_ n):Calls Tryz.prog 152 [GT.val b bB,aa n].toArray w0 (dw ab w0 (lh b n:cP)):=by
 refine Calls.run ab Tryz.func152 ?_
 intro ac β S
 have yf:b.mem.length<=4194304:=af.le (fE.mem (d:=b) hb)
 have ye:b.U.length<=4194304:=af.le (fE.U (d:=b) hb)
 have yg:b.outs.length<=4194304:=af.le (fE.outs (d:=b) hb)
 have yj:=cX.lo;have yb:=cX.hi
 refine S.go 9 .nil fun ac w β S=>S.cN (r:=b) (d:=7) (zI w b bB (S.rd (S.arg hb))) fun ac w N ae br S up aD d4=>?_
 clear up d4
 have i14:a_ b.aB:=fE.aB (d:=b) aD.ak
 obtain⟨dO,eX,e3,bJ,bE,bG,_,_,_,d15,d16,d17⟩:=FT aD
 refine S.aI 13 .nil (decide ((b.outs.length:Int)<40)) (fun ac w β nM xO S=>?_) (fun ac w β nM xO S=>?_)
 ·refine S.go 5 .nil fun ac w β S=>S.iL (α:=Int) (x:=n) (p:=()) (F:=ab) cX (fun b h=>False.elim h) (fun b h=>False.elim h) (d:=15) fun ac w N c5 oR S up fh d23=>?_
  replace bJ:=bJ.up up
  replace bE:=bE.up up
  replace bG:=bG.up up
  clear up d23
  refine S.k7 (α:=Int) bG fh.ak (fun _ _ h=>h) (by':=8) (d:=16) (lx:=b.outs.length) (ly:=1) rfl rfl (show _<=4194304 by simp only [List.length_append,List.length_cons,List.length_nil];omega) fun ac w N eZ n1 S up kb d30=>?_
  have d31:=d30 _ d16 bJ.sub
  have d32:=d30 _ d17 bE.sub
  replace bJ:=bJ.bw d16 up
  replace bE:=bE.bw d17 up
  clear up d30
  refine S.bq 11 .nil [GT.val (⟨b.mem,b.U,(b.outs++[n]),b.aB⟩:cP) (⟨ae.mem,ae.U,eZ⟩:iX)] fun ac w β S=>?_
  have ie:=wi (x:=(⟨b.mem,b.U,(b.outs++[n]),b.aB⟩:cP)) (p:=(⟨ae.mem,ae.U,eZ⟩:iX)) bJ bE kb d15 d31 d32 i14
  exact cx S (show lh b n=(⟨b.mem,b.U,(b.outs++[n]),b.aB⟩:cP) from Td) rfl ie
 refine S.bq 10 .nil [GT.val b ae] fun ac w β S=>?_
 have By:=wi (x:=b) (p:=ae) bJ bE bG d15 d16 d17 i14
 exact cx S (show lh b n=b from Td) rfl By
theorem po {p:Prop} (h:p:=by clear S;(first|(rw [xa (.inl (by assumption))];done)|(rw [xa (.inr (.inl (by assumption)))];done)|(rw [xa (.inr (.inr (by omega)))];done)|(rw [OJ (by assumption) (by assumption) (by omega)];first|(rw [CZ (by omega),sI (by assumption)];first|done|rfl)|(rw [CZ (by omega),lz (by assumption) rfl];first|done|rfl)|(rw [CZ (by omega),lz (by assumption) (sw _ _)];first|done|rfl)|(rw [C0 (by omega),sI (by assumption)];first|done|rfl)|(rw [C0 (by omega),lz (by assumption) rfl];first|done|rfl)|(rw [C0 (by omega),lz (by assumption) (sw _ _)];first|done|rfl)|(rw [KZ (by omega) (by assumption),sI (by assumption)];first|done|rfl)|(rw [KZ (by omega) (by assumption),lz (by assumption) rfl];first|done|rfl)|(rw [KZ (by omega) (by assumption),lz (by assumption) (sw _ _)];first|done|rfl)|(rw [K0 (by omega) (by assumption),sI (by assumption)];first|done|rfl)|(rw [K0 (by omega) (by assumption),lz (by assumption) rfl];first|done|rfl)|(rw [K0 (by omega) (by assumption),lz (by assumption) (sw _ _)];first|done|rfl)|(rw [KY (by omega) (by assumption),sI (by assumption)];first|done|rfl)|(rw [KY (by omega) (by assumption),lz (by assumption) rfl];first|done|rfl)|(rw [KY (by omega) (by assumption),lz (by assumption) (sw _ _)];first|done|rfl)|(rw [E8 (by omega),sI (by assumption)];first|done|rfl)|(rw [E8 (by omega),lz (by assumption) rfl];first|done|rfl)|(rw [E8 (by omega),lz (by assumption) (sw _ _)];first|done|rfl)|(rw [L1 (by omega) (by assumption),sI (by assumption)];first|done|rfl)|(rw [L1 (by omega) (by assumption),lz (by assumption) rfl];first|done|rfl)|(rw [L1 (by omega) (by assumption),lz (by assumption) (sw _ _)];first|done|rfl)|(rw [L0 (by omega) (by assumption),sI (by assumption)];first|done|rfl)|(rw [L0 (by omega) (by assumption),lz (by assumption) rfl];first|done|rfl)|(rw [L0 (by omega) (by assumption),lz (by assumption) (sw _ _)];first|done|rfl)|(rw [LY (by omega) (by assumption),sI (by assumption)];first|done|rfl)|(rw [LY (by omega) (by assumption),lz (by assumption) rfl];first|done|rfl)|(rw [LY (by omega) (by assumption),lz (by assumption) (sw _ _)];first|done|rfl)))):p:=h
theorem pq {p:Prop} (h:p:=by clear S;(first|(rw [xa (.inl (by assumption))];done)|(rw [xa (.inr (.inl (by assumption)))];done)|(rw [xa (.inr (.inr (by omega)))];done)|(rw [OJ (by assumption) (by assumption) (by omega)];done))):p:=h
theorem X5 (w0:World) (b:cP) (bB:iX) (hb:bT w0 b bB) (g:Int):Calls Tryz.prog 55 [GT.val b bB,aa g].toArray w0 (rC ab w0 ((eS b g).1:cP) ((eS b g).2:Bool)):=by
 refine Calls.run ab Tryz.func55 ?_
 intro ac β S
 have yf:b.mem.length<=4194304:=af.le (fE.mem (d:=b) hb)
 have ye:b.U.length<=4194304:=af.le (fE.U (d:=b) hb)
 have yg:b.outs.length<=4194304:=af.le (fE.outs (d:=b) hb)
 refine S.go 11 .nil fun ac w β S=>S.rA (r:=(a2 b g).1) (r':=(a2 b g).2) (d:=17) (Yh w b bB (S.rd (S.arg hb)) g) fun ac w N ae gy ec e4 S up bY bJ d7 d8 d9=>?_
 clear up d7
 clear d8
 have CX:=tZ (a2 b g).1
 refine S.bb 22 (.cons (aE fun w hw=>zH w (a2 b g).1 ae (bN bY.ak hw)) (.cons (aE fun w hw=>X4 w b bB (bN (S.arg hb) hw)) .nil)) (!(jz b)) (fun ac w β eL S=>?_) (fun ac w β eL S=>?_)
 ·have dZ:=cn eL
  refine S.go 13 .nil fun ac w β S=>S.cN (r:=b) (d:=34) (zI w b bB (S.rd (S.arg hb))) fun ac w N yM fL S up bh d16=>?_
  clear up d16
  refine S.bq 5 .nil [GT.val b yM,B false] fun ac w β S=>?_
  exact f_ (p':=()) S (show(eS b g).1=b from po) (show(eS b g).2=false from pq) rfl rfl bh trivial
 have jE:=b_ eL
 have pc:=XL jE
 refine S.bb 4 .nil (!(a2 b g).2) (fun ac w β iZ S=>?_) (fun ac w β iZ S=>?_)
 ·have hj:=cn iZ
  have Im:=acw hj
  refine S.go 9 .nil fun ac w β S=>S.cN (r:=b) (d:=34) (zI w b bB (S.rd (S.arg hb))) fun ac w N wq wV S up jX d25=>?_
  clear up d25
  refine S.bq 5 .nil [GT.val b wq,B false] fun ac w β S=>?_
  exact f_ (p':=()) S (show(eS b g).1=b from po) (show(eS b g).2=false from pq) rfl rfl jX trivial
 have gN:=b_ iZ
 have td:=acx gN
 refine S.aI 5 .nil ((bZ (a2 b g).1)==0) (fun ac w β hB lN S=>?_) (fun ac w β hB lN S=>?_)
 ·refine S.go 4 .nil fun ac w β S=>S.cN (r:=b) (d:=34) (zI w b bB (S.rd (S.arg hb))) fun ac w N mA qx S up fV d33=>?_
  clear up d33
  refine S.bq 5 .nil [GT.val b mA,B false] fun ac w β S=>?_
  exact f_ (p':=()) S (show(eS b g).1=b from po) (show(eS b g).2=false from pq) rfl rfl fV trivial
 refine S.aI 34 (.cons (aE fun w hw=>OZ w (a2 b g).1 ae (bN bY.ak hw)) (.cons (aE fun w hw=>uy w (a2 b g).1.prog ae.prog (bN (az.prog (d:=(a2 b g).1) bY.ak) hw) (a2 b g).1.aw) .nil)) ((bZ (a2 b g).1)==1) (fun ac w β uX Io S=>?_) (fun ac w β uX Io S=>?_)
 ·refine S.go 2 .nil fun ac w β S=>?_
  refine dI ?_
  refine S.dP (f:=7) 5 (by kernel_rfl) (by kernel_rfl) fun w S=>?_
  refine S.hm 4 [0,1,2] [] [(45,.v (GT.val b bB)),(46,.v (aa g)),(47,.v (GT.val (a2 b g).1 ae))] .nil fun ac S=>?_
  refine ar.one (i:=3) (by kernel_rfl) ?_
  refine id (S.dz 48 (Yj w (a2 b g).1 ae (S.rd bY.ak)) fun ac w N BQ CM S up lp d39=>?_)
  refine ar.next S up (by kernel_rfl) ?_
  replace bY:=bY.up up
  clear up d39
  refine ar.one (i:=4) (by kernel_rfl) ?_
  refine id (S.dz 49 (rH w b bB (S.rd (S.arg hb)) g (jq (a2 b g).1) BQ (S.rd lp.ak)) fun ac w N BT zg S up k2 d44=>?_)
  refine ar.next S up (by kernel_rfl) ?_
  replace bY:=bY.up up
  clear up d44
  refine S.c9 5 [] [] 4 [(1,GT.cells (gB b g (jq (a2 b g).1)) BT)] .nil fun ac w β S=>?_
  refine S.c9 6 [] [(5,.v (B true))] 4 [] .nil fun ac w β S=>?_
  refine ar.done (by kernel_rfl) ?_ _
  refine S.ex fun S=>?_
  refine S.bq 2 .nil [GT.val (gB b g (jq (a2 b g).1)) BT,B true] fun ac w β S=>?_
  exact f_ (p':=()) S (show(eS b g).1=(gB b g (jq (a2 b g).1)) from po) (show(eS b g).2=true from pq) rfl rfl k2 trivial
 refine S.aI 7 .nil ((bZ (a2 b g).1)==2) (fun ac w β rX DK S=>?_) (fun ac w β rX DK S=>?_)
 ·refine S.go 2 .nil fun ac w β S=>?_
  refine dI ?_
  refine S.dP (f:=7) 5 (by kernel_rfl) (by kernel_rfl) fun w S=>?_
  refine S.hm 4 [0,1,2] [] [(52,.v (GT.val b bB)),(53,.v (aa g)),(54,.v (GT.val (a2 b g).1 ae))] .nil fun ac S=>?_
  refine ar.one (i:=3) (by kernel_rfl) ?_
  refine id (S.dz 55 (Yo w (a2 b g).1 ae (S.rd bY.ak)) fun ac w N BV qz S up g6 d52=>?_)
  refine ar.next S up (by kernel_rfl) ?_
  replace bY:=bY.up up
  clear up d52
  refine ar.one (i:=4) (by kernel_rfl) ?_
  refine id (S.dz 56 (rH w b bB (S.rd (S.arg hb)) g (gu (a2 b g).1) BV (S.rd g6.ak)) fun ac w N gk qA S up kI d57=>?_)
  refine ar.next S up (by kernel_rfl) ?_
  replace bY:=bY.up up
  clear up d57
  refine S.c9 5 [] [] 4 [(1,GT.cells (gB b g (gu (a2 b g).1)) gk)] .nil fun ac w β S=>?_
  refine S.c9 6 [] [(5,.v (B true))] 4 [] .nil fun ac w β S=>?_
  refine ar.done (by kernel_rfl) ?_ _
  refine S.ex fun S=>?_
  refine S.bq 2 .nil [GT.val (gB b g (gu (a2 b g).1)) gk,B true] fun ac w β S=>?_
  exact f_ (p':=()) S (show(eS b g).1=(gB b g (gu (a2 b g).1)) from po) (show(eS b g).2=true from pq) rfl rfl kI trivial
 refine S.go 8 .nil fun ac w β S=>?_
 refine S.pV ⟨[(1,.v (aa g)),(2,.p 0 0),(4,.p 1 0),(6,.p 2 0),(8,.v (aa (bZ (a2 b g).1))),(9,.v (aa (bm (a2 b g).1))),(10,.p 3 0),(42,.v (aa (bZ (a2 b g).1))),(57,.v (B (((bZ (a2 b g).1)==3)||((bZ (a2 b g).1)==4))))],[GT.cells b bB,ck cP,GT.cells (a2 b g).1 ae,GT.cells (bF (a2 b g).1.prog (a2 b g).1.aw) ()]⟩ ?_ ?_
 ·clear S;intro S
  refine S.aI 0 .nil ((bZ (a2 b g).1)==3) (fun ac w β Ai xT S=>?_) (fun ac w β Ai xT S=>?_)
  ·exact S.dF 2 .nil fun ac w β S=>⟨rfl,_,by rw [Ai];exact S.z⟩
  exact S.dF 5 .nil fun ac w β S=>⟨rfl,_,by rw [Ai];exact S.z⟩
 clear S;intro ac w β S
 refine S.bb 1 .nil (((bZ (a2 b g).1)==3)||((bZ (a2 b g).1)==4)) (fun ac w β uZ S=>?_) (fun ac w β uZ S=>?_)
 ·have DM:=Dx uZ
  refine S.bb 20 (.cons (aE fun w hw=>zF w (bm (a2 b g).1) (jU bY.ak)) (.cons (aE fun w hw=>G7 w ((bZ (a2 b g).1)==4)) (.cons (aE fun w hw=>Pl w (a2 b g).1.live ae.live (bN (az.live (d:=(a2 b g).1) bY.ak) hw) (cr (bm (a2 b g).1)) (dB ((bZ (a2 b g).1)==4))) .nil))) (!(cV (a2 b g).1.live (cr (bm (a2 b g).1)) (dB ((bZ (a2 b g).1)==4))).2) (fun ac w β IP S=>?_) (fun ac w β IP S=>?_)
  ·have x6:=cn IP
   refine S.go 2 .nil fun ac w β S=>?_
   refine dI ?_
   refine S.dP (f:=11) 9 (by kernel_rfl) (by kernel_rfl) fun w S=>?_
   refine S.hm 6 [0,1,2,3,5] [] [(75,.v (GT.val b bB)),(76,.v (aa g)),(77,.v (GT.val (a2 b g).1 ae)),(78,.v (aa (bm (a2 b g).1))),(80,.v (B ((bZ (a2 b g).1)==4)))] .nil fun ac S=>?_
   refine S.iI 4 [] [(79,.v (aa (cr (bm (a2 b g).1))))] 4 [] (.cons (aE fun w hw=>zF w (bm (a2 b g).1) (jU bY.ak)) .nil) fun ac w β S=>?_
   refine S.iI 6 [] [(81,.v (GT.val (gU (cr (bm (a2 b g).1)) ((bZ (a2 b g).1)==4)) ()))] 4 [] (.cons (aE fun w hw=>O4 w (cr (bm (a2 b g).1)) (rF (jU bY.ak)) ((bZ (a2 b g).1)==4)) .nil) fun ac w β S=>?_
   refine ar.one (i:=7) (by kernel_rfl) ?_
   refine id (S.dz 82 (zG w (a2 b g).1 ae (S.rd bY.ak) (gU (cr (bm (a2 b g).1)) ((bZ (a2 b g).1)==4)) (Ic (rF (jU bY.ak)) ((bZ (a2 b g).1)==4))) fun ac w N yQ wY S up q9 d69=>?_)
   refine ar.next S up (by kernel_rfl) ?_
   replace bY:=bY.up up
   clear up d69
   refine ar.one (i:=8) (by kernel_rfl) ?_
   refine id (S.dz 83 (rH w b bB (S.rd (S.arg hb)) g ({(a2 b g).1 with exit:=(gU (cr (bm (a2 b g).1)) ((bZ (a2 b g).1)==4))}:ax) yQ (S.rd q9.ak)) fun ac w N k5 oT S up hH d74=>?_)
   refine ar.next S up (by kernel_rfl) ?_
   replace bY:=bY.up up
   clear up d74
   refine S.c9 9 [] [] 4 [(1,GT.cells (gB b g ({(a2 b g).1 with exit:=(gU (cr (bm (a2 b g).1)) ((bZ (a2 b g).1)==4))}:ax)) k5)] .nil fun ac w β S=>?_
   refine S.c9 10 [] [(5,.v (B true))] 4 [] .nil fun ac w β S=>?_
   refine ar.done (by kernel_rfl) ?_ _
   refine S.ex fun S=>?_
   refine S.bq 2 .nil [GT.val (gB b g ({(a2 b g).1 with exit:=(gU (cr (bm (a2 b g).1)) ((bZ (a2 b g).1)==4))}:ax)) k5,B true] fun ac w β S=>?_
   exact f_ (p':=()) S (show(eS b g).1=(gB b g ({(a2 b g).1 with exit:=(gU (cr (bm (a2 b g).1)) ((bZ (a2 b g).1)==4))}:ax)) from po) (show(eS b g).2=true from pq) rfl rfl hH trivial
  have DQ:=b_ IP
  refine S.aI 7 .nil ((bZ (a2 b g).1)==4) (fun ac w β DR Ix S=>?_) (fun ac w β DR Ix S=>?_)
  ·refine S.go 2 .nil fun ac w β S=>?_
   refine dI ?_
   refine S.dP (f:=10) 9 (by kernel_rfl) (by kernel_rfl) fun w S=>?_
   refine S.hm 4 [0,1,2,3,5,6] [] [(87,.v (R b.mem.length bB.mem.1)),(88,.v (aa (cV (a2 b g).1.live (cr (bm (a2 b g).1)) (dB ((bZ (a2 b g).1)==4))).1)),(89,.v (aa (bm (a2 b g).1))),(92,.v (aa (a2 b g).1.acc))] .nil fun ac S=>?_
   refine S.iI 4 [] [(90,.v (aa (dr (bm (a2 b g).1))))] 4 [] (.cons (aE fun w hw=>C5 w (bm (a2 b g).1) (jU bY.ak)) .nil) fun ac w β S=>?_
   refine ar.one (i:=7) (by kernel_rfl) ?_
   refine id (S.dz 93 (Pm w b.mem bB.mem (S.rd (fE.mem (d:=b) (S.arg hb))) (cV (a2 b g).1.live (cr (bm (a2 b g).1)) (dB ((bZ (a2 b g).1)==4))).1 (dr (bm (a2 b g).1)) (a2 b g).1.acc (az.acc (d:=(a2 b g).1) bY.ak)) fun ac w N rk zk S up oG d83=>?_)
   refine ar.next S up (by kernel_rfl) ?_
   replace bY:=bY.up up
   clear up d83
   refine S.a9 8 [8] [] [(94,.p 0 0)] .nil fun ac S=>?_
   refine S.c9 9 [] [] 4 [(0,[R (gf b.mem (cV (a2 b g).1.live (cr (bm (a2 b g).1)) (dB ((bZ (a2 b g).1)==4))).1 (dr (bm (a2 b g).1)) (a2 b g).1.acc).length rk.1,R b.U.length bB.U.1,R b.outs.length bB.outs.1,aa b.aB])] .nil fun ac w β S=>?_
   refine ar.done (by kernel_rfl) ?_ _
   refine S.ex fun S=>?_
   refine S.go 2 .nil fun ac w β S=>?_
   refine dI ?_
   refine S.dP (f:=7) 5 (by kernel_rfl) (by kernel_rfl) fun w S=>?_
   refine S.hm 4 [0,1,2] [] [(95,.v (GT.val (⟨(gf b.mem (cV (a2 b g).1.live (cr (bm (a2 b g).1)) (dB ((bZ (a2 b g).1)==4))).1 (dr (bm (a2 b g).1)) (a2 b g).1.acc),b.U,b.outs,b.aB⟩:cP) (⟨rk,bB.U,bB.outs⟩:iX))),(96,.v (aa g)),(97,.v (GT.val (a2 b g).1 ae))] .nil fun ac S=>?_
   refine ar.one (i:=3) (by kernel_rfl) ?_
   refine id (S.dz 98 (Ph w (a2 b g).1 ae (S.rd bY.ak)) fun ac w N dL dU S up hT d88=>?_)
   refine ar.next S up (by kernel_rfl) ?_
   replace bY:=bY.up up
   replace oG:=oG.up up
   clear up d88
   refine ar.one (i:=4) (by kernel_rfl) ?_
   refine id (S.dz 99 (rH w (⟨(gf b.mem (cV (a2 b g).1.live (cr (bm (a2 b g).1)) (dB ((bZ (a2 b g).1)==4))).1 (dr (bm (a2 b g).1)) (a2 b g).1.acc),b.U,b.outs,b.aB⟩:cP) (⟨rk,bB.U,bB.outs⟩:iX) (S.rd (show GT.rd b7 _ _ (⟨(gf b.mem (cV (a2 b g).1.live (cr (bm (a2 b g).1)) (dB ((bZ (a2 b g).1)==4))).1 (dr (bm (a2 b g).1)) (a2 b g).1.acc),b.U,b.outs,b.aB⟩:cP) (⟨rk,bB.U,bB.outs⟩:iX) from⟨oG.ak,(fE.U (p:=bB) (d:=b) (S.arg hb)),(fE.outs (p:=bB) (d:=b) (S.arg hb)),(fE.aB (d:=b) (S.arg hb))⟩)) g (a4 (a2 b g).1) dL (S.rd hT.ak)) fun ac w N eW n4 S up gi d94=>?_)
   refine ar.next S up (by kernel_rfl) ?_
   replace bY:=bY.up up
   clear up d94
   refine S.c9 5 [] [] 4 [(1,GT.cells (gB (⟨(gf b.mem (cV (a2 b g).1.live (cr (bm (a2 b g).1)) (dB ((bZ (a2 b g).1)==4))).1 (dr (bm (a2 b g).1)) (a2 b g).1.acc),b.U,b.outs,b.aB⟩:cP) g (a4 (a2 b g).1)) eW)] .nil fun ac w β S=>?_
   refine S.c9 6 [] [(5,.v (B true))] 4 [] .nil fun ac w β S=>?_
   refine ar.done (by kernel_rfl) ?_ _
   refine S.ex fun S=>?_
   refine S.bq 2 .nil [GT.val (gB (⟨(gf b.mem (cV (a2 b g).1.live (cr (bm (a2 b g).1)) (dB ((bZ (a2 b g).1)==4))).1 (dr (bm (a2 b g).1)) (a2 b g).1.acc),b.U,b.outs,b.aB⟩:cP) g (a4 (a2 b g).1)) eW,B true] fun ac w β S=>?_
   exact f_ (p':=()) S (show(eS b g).1=(gB (⟨(gf b.mem (cV (a2 b g).1.live (cr (bm (a2 b g).1)) (dB ((bZ (a2 b g).1)==4))).1 (dr (bm (a2 b g).1)) (a2 b g).1.acc),b.U,b.outs,b.aB⟩:cP) g (a4 (a2 b g).1)) from po) (show(eS b g).2=true from pq) rfl rfl gi trivial
  refine S.go 5 .nil fun ac w β S=>?_
  refine dI ?_
  refine S.dP (f:=13) 11 (by kernel_rfl) (by kernel_rfl) fun w S=>?_
  refine S.hm 6 [0,1,2,3,4,5,6] [] [(100,.v (GT.val b bB)),(101,.v (aa g)),(102,.v (GT.val (a2 b g).1 ae)),(104,.v (R b.mem.length bB.mem.1)),(105,.v (aa (cV (a2 b g).1.live (cr (bm (a2 b g).1)) (dB ((bZ (a2 b g).1)==4))).1)),(106,.v (aa (bm (a2 b g).1)))] .nil fun ac S=>?_
  refine S.iI 7 [] [(107,.v (aa (dr (bm (a2 b g).1))))] 4 [] (.cons (aE fun w hw=>C5 w (bm (a2 b g).1) (jU bY.ak)) .nil) fun ac w β S=>?_
  refine S.iI 8 [] [(108,.v (aa (fB b.mem (cV (a2 b g).1.live (cr (bm (a2 b g).1)) (dB ((bZ (a2 b g).1)==4))).1 (dr (bm (a2 b g).1)))))] 4 [] (.cons (aE fun w hw=>O3 w b.mem bB.mem (bN (fE.mem (d:=b) (S.arg hb)) hw) (cV (a2 b g).1.live (cr (bm (a2 b g).1)) (dB ((bZ (a2 b g).1)==4))).1 (dr (bm (a2 b g).1))) .nil) fun ac w β S=>?_
  refine ar.one (i:=9) (by kernel_rfl) ?_
  refine id (S.dz 109 (Pb w (a2 b g).1 ae (S.rd bY.ak) (fB b.mem (cV (a2 b g).1.live (cr (bm (a2 b g).1)) (dB ((bZ (a2 b g).1)==4))).1 (dr (bm (a2 b g).1))) (Hn (fE.mem (d:=b) (S.arg hb)) (cV (a2 b g).1.live (cr (bm (a2 b g).1)) (dB ((bZ (a2 b g).1)==4))).1 (dr (bm (a2 b g).1)))) fun ac w N MY Oa S up Bn d101=>?_)
  refine ar.next S up (by kernel_rfl) ?_
  replace bY:=bY.up up
  clear up d101
  refine ar.one (i:=10) (by kernel_rfl) ?_
  refine id (S.dz 110 (rH w b bB (S.rd (S.arg hb)) g (h5 (a2 b g).1 (fB b.mem (cV (a2 b g).1.live (cr (bm (a2 b g).1)) (dB ((bZ (a2 b g).1)==4))).1 (dr (bm (a2 b g).1)))) MY (S.rd Bn.ak)) fun ac w N re iM S up nP d106=>?_)
  refine ar.next S up (by kernel_rfl) ?_
  replace bY:=bY.up up
  clear up d106
  refine S.c9 11 [] [] 4 [(1,GT.cells (gB b g (h5 (a2 b g).1 (fB b.mem (cV (a2 b g).1.live (cr (bm (a2 b g).1)) (dB ((bZ (a2 b g).1)==4))).1 (dr (bm (a2 b g).1))))) re)] .nil fun ac w β S=>?_
  refine S.c9 12 [] [(5,.v (B true))] 4 [] .nil fun ac w β S=>?_
  refine ar.done (by kernel_rfl) ?_ _
  refine S.ex fun S=>?_
  refine S.bq 2 .nil [GT.val (gB b g (h5 (a2 b g).1 (fB b.mem (cV (a2 b g).1.live (cr (bm (a2 b g).1)) (dB ((bZ (a2 b g).1)==4))).1 (dr (bm (a2 b g).1))))) re,B true] fun ac w β S=>?_
  exact f_ (p':=()) S (show(eS b g).1=(gB b g (h5 (a2 b g).1 (fB b.mem (cV (a2 b g).1.live (cr (bm (a2 b g).1)) (dB ((bZ (a2 b g).1)==4))).1 (dr (bm (a2 b g).1))))) from po) (show(eS b g).2=true from pq) rfl rfl nP trivial
 obtain⟨Ac,acB⟩:=nU uZ
 have anp:¬((bZ (a2 b g).1)=3):=ne_of_beq_false Ac
 have anq:¬((bZ (a2 b g).1)=4):=ne_of_beq_false acB
 refine S.aI 7 .nil ((bZ (a2 b g).1)==6) (fun ac w β acC abS S=>?_) (fun ac w β acC abS S=>?_)
 ·refine S.go 2 .nil fun ac w β S=>?_
  refine dI ?_
  refine S.dP (f:=10) 8 (by kernel_rfl) (by kernel_rfl) fun w S=>?_
  refine S.hm 5 [0,1,2,3,4] [] [(113,.v (GT.val b bB)),(114,.v (aa g)),(115,.v (GT.val (a2 b g).1 ae)),(117,.v (aa (bF (a2 b g).1.prog (a2 b g).1.aw).x))] .nil fun ac S=>?_
  refine S.iI 5 [] [(118,.v (GT.val (ma (bF (a2 b g).1.prog (a2 b g).1.aw).x) ()))] 4 [] (.cons (aE fun w hw=>X7 w (bF (a2 b g).1.prog (a2 b g).1.aw).x (iY.x (d:=(bF (a2 b g).1.prog (a2 b g).1.aw)) (lV (az.prog (d:=(a2 b g).1) bY.ak) (a2 b g).1.aw))) .nil) fun ac w β S=>?_
  refine ar.one (i:=6) (by kernel_rfl) ?_
  refine id (S.dz 119 (zG w (a2 b g).1 ae (S.rd bY.ak) (ma (bF (a2 b g).1.prog (a2 b g).1.aw).x) (P3 (iY.x (d:=(bF (a2 b g).1.prog (a2 b g).1.aw)) (lV (az.prog (d:=(a2 b g).1) bY.ak) (a2 b g).1.aw)))) fun ac w N yL NO S up Bp d118=>?_)
  refine ar.next S up (by kernel_rfl) ?_
  replace bY:=bY.up up
  clear up d118
  refine ar.one (i:=7) (by kernel_rfl) ?_
  refine id (S.dz 120 (rH w b bB (S.rd (S.arg hb)) g ({(a2 b g).1 with exit:=(ma (bF (a2 b g).1.prog (a2 b g).1.aw).x)}:ax) yL (S.rd Bp.ak)) fun ac w N Vb ak5 S up Lf d123=>?_)
  refine ar.next S up (by kernel_rfl) ?_
  replace bY:=bY.up up
  clear up d123
  refine S.c9 8 [] [] 4 [(1,GT.cells (gB b g ({(a2 b g).1 with exit:=(ma (bF (a2 b g).1.prog (a2 b g).1.aw).x)}:ax)) Vb)] .nil fun ac w β S=>?_
  refine S.c9 9 [] [(5,.v (B true))] 4 [] .nil fun ac w β S=>?_
  refine ar.done (by kernel_rfl) ?_ _
  refine S.ex fun S=>?_
  refine S.bq 2 .nil [GT.val (gB b g ({(a2 b g).1 with exit:=(ma (bF (a2 b g).1.prog (a2 b g).1.aw).x)}:ax)) Vb,B true] fun ac w β S=>?_
  exact f_ (p':=()) S (show(eS b g).1=(gB b g ({(a2 b g).1 with exit:=(ma (bF (a2 b g).1.prog (a2 b g).1.aw).x)}:ax)) from po) (show(eS b g).2=true from pq) rfl rfl Lf trivial
 refine S.bb 9 (.cons (aE fun w hw=>Pq w (bZ (a2 b g).1)) (.cons (aE fun w hw=>G5 w (a2 b g).1.aN.aX (fN (bZ (a2 b g).1))) .nil)) (hO (a2 b g).1.aN.aX (fN (bZ (a2 b g).1))) (fun ac w β acF S=>?_) (fun ac w β acF S=>?_)
 ·refine S.go 2 .nil fun ac w β S=>?_
  refine dI ?_
  refine S.dP (f:=8) 6 (by kernel_rfl) (by kernel_rfl) fun w S=>?_
  refine S.hm 4 [0,1,2,3] [] [(128,.v (GT.val b bB)),(129,.v (aa g)),(130,.v (GT.val (a2 b g).1 ae)),(131,.v (aa (bZ (a2 b g).1)))] .nil fun ac S=>?_
  refine ar.one (i:=4) (by kernel_rfl) ?_
  refine id (S.dz 132 (Pr w (a2 b g).1 ae (S.rd bY.ak) (bZ (a2 b g).1)) fun ac w N aiE ry S up ic d130=>?_)
  refine ar.next S up (by kernel_rfl) ?_
  replace bY:=bY.up up
  clear up d130
  refine ar.one (i:=5) (by kernel_rfl) ?_
  refine id (S.dz 133 (rH w b bB (S.rd (S.arg hb)) g (mh (a2 b g).1 (bZ (a2 b g).1)) aiE (S.rd ic.ak)) fun ac w N Mk NS S up ag2 d135=>?_)
  refine ar.next S up (by kernel_rfl) ?_
  replace bY:=bY.up up
  clear up d135
  refine S.c9 6 [] [] 4 [(1,GT.cells (gB b g (mh (a2 b g).1 (bZ (a2 b g).1))) Mk)] .nil fun ac w β S=>?_
  refine S.c9 7 [] [(5,.v (B true))] 4 [] .nil fun ac w β S=>?_
  refine ar.done (by kernel_rfl) ?_ _
  refine S.ex fun S=>?_
  refine S.bq 2 .nil [GT.val (gB b g (mh (a2 b g).1 (bZ (a2 b g).1))) Mk,B true] fun ac w β S=>?_
  exact f_ (p':=()) S (show(eS b g).1=(gB b g (mh (a2 b g).1 (bZ (a2 b g).1))) from po) (show(eS b g).2=true from pq) rfl rfl ag2 trivial
 refine S.aI 8 .nil ((bZ (a2 b g).1)==5) (fun ac w β acG abZ S=>?_) (fun ac w β acG abZ S=>?_)
 ·refine S.go 2 .nil fun ac w β S=>?_
  refine dI ?_
  refine S.dP (f:=10) 8 (by kernel_rfl) (by kernel_rfl) fun w S=>?_
  refine S.hm 5 [0,1,2,4,5] [] [(137,.v (GT.val b bB)),(139,.v (aa (bF (a2 b g).1.prog (a2 b g).1.aw).x)),(141,.v (aa g)),(142,.v (GT.val (a2 b g).1 ae))] .nil fun ac S=>?_
  refine ar.one (i:=3) (by kernel_rfl) ?_
  refine id (S.dz 140 (Yq w b bB (S.rd (S.arg hb)) (bF (a2 b g).1.prog (a2 b g).1.aw).x (iY.x (d:=(bF (a2 b g).1.prog (a2 b g).1.aw)) (lV (az.prog (d:=(a2 b g).1) bY.ak) (a2 b g).1.aw))) fun ac w N kf jO S up hG d143=>?_)
  refine ar.next S up (by kernel_rfl) ?_
  replace bY:=bY.up up
  clear up d143
  refine ar.one (i:=6) (by kernel_rfl) ?_
  refine id (S.dz 143 (xd w (a2 b g).1 ae (S.rd bY.ak)) fun ac w N aiG CJ S up q7 d148=>?_)
  refine ar.next S up (by kernel_rfl) ?_
  replace bY:=bY.up up
  replace hG:=hG.up up
  clear up d148
  refine ar.one (i:=7) (by kernel_rfl) ?_
  refine id (S.dz 144 (rH w (lh b (bF (a2 b g).1.prog (a2 b g).1.aw).x) kf (S.rd hG.ak) g (a4 (a2 b g).1) aiG (S.rd q7.ak)) fun ac w N gZ Wg S up Lh d154=>?_)
  refine ar.next S up (by kernel_rfl) ?_
  replace bY:=bY.up up
  clear up d154
  refine S.c9 8 [] [] 4 [(1,GT.cells (gB (lh b (bF (a2 b g).1.prog (a2 b g).1.aw).x) g (a4 (a2 b g).1)) gZ)] .nil fun ac w β S=>?_
  refine S.c9 9 [] [(5,.v (B true))] 4 [] .nil fun ac w β S=>?_
  refine ar.done (by kernel_rfl) ?_ _
  refine S.ex fun S=>?_
  refine S.bq 2 .nil [GT.val (gB (lh b (bF (a2 b g).1.prog (a2 b g).1.aw).x) g (a4 (a2 b g).1)) gZ,B true] fun ac w β S=>?_
  exact f_ (p':=()) S (show(eS b g).1=(gB (lh b (bF (a2 b g).1.prog (a2 b g).1.aw).x) g (a4 (a2 b g).1)) from po) (show(eS b g).2=true from pq) rfl rfl Lh trivial
 refine S.go 5 .nil fun ac w β S=>?_
 refine dI ?_
 refine S.dP (f:=7) 5 (by kernel_rfl) (by kernel_rfl) fun w S=>?_
 refine S.hm 4 [0,1,2] [] [(145,.v (GT.val b bB)),(146,.v (aa g)),(147,.v (GT.val (a2 b g).1 ae))] .nil fun ac S=>?_
 refine ar.one (i:=3) (by kernel_rfl) ?_
 refine id (S.dz 148 (O9 w (a2 b g).1 ae (S.rd bY.ak)) fun ac w N pC lD S up ag5 d161=>?_)
 refine ar.next S up (by kernel_rfl) ?_
 clear up d161
 refine ar.one (i:=4) (by kernel_rfl) ?_
 refine id (S.dz 149 (rH w b bB (S.rd (S.arg hb)) g (jA (a2 b g).1) pC (S.rd ag5.ak)) fun ac w N Vi NW S up v8 d166=>?_)
 refine ar.next S up (by kernel_rfl) ?_
 clear up d166
 refine S.c9 5 [] [] 4 [(1,GT.cells (gB b g (jA (a2 b g).1)) Vi)] .nil fun ac w β S=>?_
 refine S.c9 6 [] [(5,.v (B true))] 4 [] .nil fun ac w β S=>?_
 refine ar.done (by kernel_rfl) ?_ _
 refine S.ex fun S=>?_
 refine S.bq 2 .nil [GT.val (gB b g (jA (a2 b g).1)) Vi,B true] fun ac w β S=>?_
 exact f_ (p':=()) S (show(eS b g).1=(gB b g (jA (a2 b g).1)) from po) (show(eS b g).2=true from pq) rfl rfl v8 trivial
end Go.Proofs.YtjlocpdfcanlhaaGreat
