/- The walks: what each function that the laws reach computes (part 4). -/
import Derived.Test.YtjlocpdfcanlhaaGreatA7
import Derived.Test.YtjlocpdfcanlhaaGreatProg
import Derived.KernelRfl
namespace Go.Proofs.YtjlocpdfcanlhaaGreat
open Go
set_option linter.unusedVariables false
set_option linter.unusedSimpArgs false
set_option maxRecDepth 100000
set_option maxHeartbeats 2000000
theorem Y8 (w0:World) (b:List aH) (bD:aD aH) (hb:bQ w0 b bD) (tag:Int) (rG:aD Int) (q8:bQ w0 [tag] rG) (page:Int) (rF:aD Int) (hG:bQ w0 [page] rF):Calls Tryz.prog 284 [R b.length bD.1,.func (.func 285) #[] #[bh rG.1.b (rG.1.off+0*1),bh rF.1.b (rF.1.off+0*1)]].toArray w0 (dw ab w0 (jE b (fun e=>ic e tag page):List aH)):=by
 refine Calls.run ab Tryz.func284 ?_
 intro ac β S
 have kG:b.length<=4194304:=ae.le hb
 refine S.go 7 .nil fun ac w β S=>S.gE (α:=aH) (d:=8) fun ac w N af br S up aA d4=>?_
 clear up d4
 refine S.go 12 .nil fun ac w β S=>?_
 refine c8 (fun a4 ac w=>∃(k:Nat) (acc:List aH) (bM:_) (cT:_) (u:_) (N:_) (β:_),a4=b.length-k/\(k<=b.length)/\(acc=jE (b.take k) (fun e=>ic e tag page))/\aj Tryz.prog Tryz.f284.ntmps w0 ab u N β ⟨[(1,.v (.func (.func 285) #[] #[bh rG.1.b (rG.1.off+0*1),bh rF.1.b (rF.1.off+0*1)])),(5,.v (R acc.length bM.1)),(9,.v (R b.length bD.1)),(10,.v (aa (b.length:Int))),(11,.v (aa (k:Int)))],[]⟩ ac w/\ad w0 ab u N cT acc bM) _ ⟨0,([]:List aH),af,br,_,_,_,rfl,cw,(by rfl),S.z,aA⟩ ?_
 clear S aA
 rintro f8 a4 e0 ac w ⟨k,acc,bM,cT,u,N,β,rfl,hk,bz,S,ao⟩
 refine S.rs fun S=>?_
 have gI:acc.length<=k:=by rw [bz];exact Nat.le_trans (w5 _ _) (List.length_take_le _ _)
 refine S.aI 6 .nil (decide ((k:Int)<(b.length:Int))) (fun ac w β c2 eb S=>?_) (fun ac w β c2 eb S=>?_)
 ·refine S.bd 21 (.cons (b5 (S.arg hb) k Tryz.underlying29) (.cons (dz (S.arg hb) 138 k) (.cons (aE fun w hw=>YG w (el b k) tag rG (bJ (S.arg q8) hw) page rF (bJ (S.arg hG) hw)) .nil))) (!(ic (el b k) tag page)) (fun ac w β ec S=>?_) (fun ac w β ec S=>?_)
  ·have jG:=cm ec
   refine S.go 4 .nil fun ac w β S=>S.h3 (α:=aH) (x:=(el b k)) (p:=()) (F:=ab) (ae.el (S.arg hb) k (by omega)) (fun b h=>False.elim h) (fun b h=>False.elim h) (d:=21) fun ac w N n6 pT S up gK d17=>?_
   replace ao:=ao.up up
   clear up d17
   refine S.kq (α:=aH) ao gK.ak (fun _ _ h=>h) (by':=32) (d:=22) (lx:=acc.length) (ly:=1) rfl rfl (show _<=4194304 by simp only [List.length_append,List.length_cons,List.length_nil];omega) fun ac w N dy h4 S up il d22=>?_
   clear up d22
   refine S.ge 8 (.cons (cc (k:Int) 1) .nil) f8 fun ac w β S=>e0.of (b.length-(k+1)) _ _ (by omega) ⟨k+1,(acc++[(el b k)]),dy,h4,_,_,_,rfl,?_,?_,S.z,il⟩
   ·exact cK
   ·clear S;(first|(rw [s0 (by omega) (by assumption),bz];done)|(rw [pS (by omega) (by assumption),bz];done))
  have gR:=b9 ec
  refine S.ge 8 (.cons (cc (k:Int) 1) .nil) f8 fun ac w β S=>e0.of (b.length-(k+1)) _ _ (by omega) ⟨k+1,acc,bM,cT,_,_,_,rfl,?_,?_,S.z,ao⟩
  ·exact cK
  ·clear S;(first|(rw [s0 (by omega) (by assumption),bz];done)|(rw [pS (by omega) (by assumption),bz];done))
 refine S.bo 13 .nil [R acc.length bM.1] fun ac w β S=>?_
 exact cy S (show jE b (fun e=>ic e tag page)=acc by clear S;(rw [bz,ff (by omega)])) rfl ao
theorem Pr (w0:World) (b:List aH) (bD:aD aH) (hb:bQ w0 b bD) (host:Int) (q3:a_ host):Calls Tryz.prog 298 [R b.length bD.1,aa host].toArray w0 (dw ab w0 (g6 b host:List aH)):=by
 refine Calls.run ab Tryz.func298 ?_
 intro ac β S
 have kG:b.length<=4194304:=ae.le hb
 have ae7:=q3.lo;have aeM:=q3.hi
 refine S.go 7 .nil fun ac w β S=>?_
 refine S.Hn 0 host () q3 fun β N hP br S up aA d4=>?_
 clear up d4
 refine S.go 3 .nil fun ac w β S=>S.cJ (r:=jE b (fun e=>nR e host)) (d:=7) (Y7 w b bD (S.rd (S.arg hb)) host (dC hP ():aD Int) (S.rd aA.ak)) fun ac w N bM cT S up ao d8=>?_
 clear up d8
 refine S.bo 4 .nil [R (jE b (fun e=>nR e host)).length bM.1] fun ac w β S=>?_
 exact cy S (show g6 b host=(jE b (fun e=>nR e host)) by clear S;rfl) rfl ao
theorem TI {p:Prop} (h:p:=by clear S;((have JS:k=(el h.I m.toNat).U.length:=(by omega));subst JS;subst fT;unfold m7;first|(rw [Ec (by assumption),Ec (by assumption)];done)|(rw [Eb (by assumption),Eb (by assumption)];done))):p:=h
theorem HI (w0:World) (h:ah) (cQ:aD ah) (F:au) (aX:GT.own b6 F w0 [h] cQ) (eT:∀b,F b->b<w0.heap.size) (m:Int) (page:Int) (s:aR) (hs:ed s) (fC:(0<=m/\m<h.I.length)/\(el h.I m.toNat).tables.length=(el h.I m.toNat).U.length):Calls Tryz.prog 211 [bh cQ.1.b (cQ.1.off+0*4),aa m,aa page,GT.val s ()].toArray w0 (s7 oE F cQ w0 (packed []) (m7 h m page s)):=by
 refine Calls.run F Tryz.func211 ?_
 intro ac β S
 have eg:ad w0 F w0 (fc w0.heap.size) F [h] cQ:=⟨aX,eT,fun b hb=> .inr hb⟩
 have hP:(el h.I m.toNat).U.length<=4194304:=ae.le (aU.U (d:=(el h.I m.toNat)) (ae.el (fB eg.ak) m.toNat (by omega)))
 refine S.go 28 (.cons (iS eg.ak (t:=28) (k:=0) (j:=1) (v:=R h.I.length (cQ.2 0).I.1) (Nat.succ_pos 0) (by kernel_rfl) (by kernel_rfl)) (.cons (cq (fB eg.ak) m Tryz.underlying28) (.cons (cA (fB eg.ak) 71 m.toNat 3 (R (el h.I m.toNat).U.length ((cQ.2 0).I.2 m.toNat).U.1)) .nil))) fun ac w β S=>?_
 refine c8 (fun a4 ac w=>∃(k:Nat) (X:List aO) (gB:Nat->b_) (ei:_) (u:_) (N:_) (β:_),a4=(el h.I m.toNat).U.length-k/\(k<=(el h.I m.toNat).U.length)/\(X=h.I.set m.toNat {el h.I m.toNat with tables:=qd (el h.I m.toNat).tables (el h.I m.toNat).U page k})/\aj Tryz.prog Tryz.f211.ntmps w0 F u N β ⟨[(0,.v (bh cQ.1.b (cQ.1.off+0*4))),(2,.v (aa page)),(7,.p 0 0),(8,.v (bh (cQ.2 0).I.1.b ((cQ.2 0).I.1.off+m.toNat*9))),(20,.v (aa ((el h.I m.toNat).U.length:Int))),(21,.v (aa (k:Int)))],[GT.cells s ()]⟩ ac w/\ad w0 F u N ei ([(⟨h.mem,X,h.buf,h.ag⟩:ah)]) ((cQ.1,gB):aD ah)/\(gB 0).I.1=(cQ.2 0).I.1) _ ⟨0,h.I,cQ.2,F,_,_,_,rfl,cw,(by exact zk.symm),S.z,eg,rfl⟩ ?_
 clear S eg
 rintro f6 a4 Ey ac w ⟨k,X,gB,ei,u,N,β,rfl,hk,fT,S,f_,l3⟩
 refine S.rs fun S=>?_
 obtain⟨hl,he⟩:=zl fT (show m.toNat<h.I.length by omega) (Gw _ _ _ _)
 refine S.aI 6 .nil (decide ((k:Int)<((el h.I m.toNat).U.length:Int))) (fun ac w β dc fF S=>?_) (fun ac w β dc fF S=>?_)
 ·refine S.go 11 .nil fun ac w β S=>?_
  refine dI ?_
  refine S.dR (f:=24) 23 (by kernel_rfl) (by kernel_rfl) fun w S=>?_
  refine S.hm 3 [0,1,2,3,4,5,6,7,8,9,10,11,12,13,14,15,16,17,18,19,20] [] [(27,.v (R (el X m.toNat).tables.length (((gB 0).I.2) m.toNat).tables.1)),(28,.v (aa (k:Int))),(35,.v (GT.val (el (el X m.toNat).tables k) ((((gB 0).I.2) m.toNat).tables.2 k))),(43,.v (R (el (el X m.toNat).U k).live.length ((((gB 0).I.2) m.toNat).U.2 k).live.1)),(44,.v (aa page))] (.cons (cA (hv l3 (hj f_.ak)) 72 m.toNat 7 (R (el X m.toNat).tables.length (((gB 0).I.2) m.toNat).tables.1)) (.cons (cA (hv l3 (hj f_.ak)) 72 m.toNat 7 (R (el X m.toNat).tables.length (((gB 0).I.2) m.toNat).tables.1)) (.cons (b5 (aU.tables (d:=(el X m.toNat)) (ae.el (hv l3 (hj f_.ak)) m.toNat (by omega))) k Tryz.underlying72) (.cons (dz (aU.tables (d:=(el X m.toNat)) (ae.el (hv l3 (hj f_.ak)) m.toNat (by omega))) 165 k) (.cons (cA (hv l3 (hj f_.ak)) 71 m.toNat 3 (R (el X m.toNat).U.length (((gB 0).I.2) m.toNat).U.1)) (.cons (b5 (aU.U (d:=(el X m.toNat)) (ae.el (hv l3 (hj f_.ak)) m.toNat (by omega))) k Tryz.underlying71) (.cons (cA (aU.U (d:=(el X m.toNat)) (ae.el (hv l3 (hj f_.ak)) m.toNat (by omega))) 64 k 4 (R (el (el X m.toNat).U k).live.length ((((gB 0).I.2) m.toNat).U.2 k).live.1)) .nil))))))) fun ac S=>?_
  refine ar.one (i:=21) (by kernel_rfl) ?_
  refine id (S.dB 45 (YI w (el (el X m.toNat).tables k) ((((gB 0).I.2) m.toNat).tables.2 k) (S.rd (ae.el (aU.tables (d:=(el X m.toNat)) (ae.el (hv l3 (hj f_.ak)) m.toNat (by omega))) k (by omega))) (el (el X m.toNat).U k).live ((((gB 0).I.2) m.toNat).U.2 k).live (S.rd (az.live (d:=(el (el X m.toNat).U k)) (ae.el (aU.U (d:=(el X m.toNat)) (ae.el (hv l3 (hj f_.ak)) m.toNat (by omega))) k (by omega)))) page) fun ac w N eM eh S up bA d13=>?_)
  refine ar.next S up (by kernel_rfl) ?_
  have d14:=J.w d13 f_.sub
  replace f_:=f_.up up
  clear up d13
  refine S.a9 22 [22] [] [(46,.v (bh (((gB 0).I.2) m.toNat).tables.1.b ((((gB 0).I.2) m.toNat).tables.1.off+k*2)))] (.cons (b5 (aU.tables (d:=(el X m.toNat)) (ae.el (hv l3 (hj f_.ak)) m.toNat (by omega))) k Tryz.underlying72) .nil) fun ac S=>?_
  refine ar.one (i:=23) (by kernel_rfl) ?_
  obtain⟨pT,gK,Cv,OX⟩:=r7 f_ (fun _ o=>Rk o (k:=m.toNat) (show m.toNat<X.length by omega))
  change ad w0 F _ _ pT (el X m.toNat).tables (((gB 0).I.2) m.toNat).tables at gK
  have Fc:=ae.le gK.ak
  have Ly:=gK.sub
  refine id (S.kU (α:=bS) gK (t:=165) (k:=k) (off:=(((gB 0).I.2) m.toNat).tables.1.off+k*2) bA (J.symm (J.symm (J.part d14 Cv))) fun w N fJ fe S up il d24 aj7 LA=>?_)
  refine ar.last (by kernel_rfl) ?_
  clear d24 gK
  obtain⟨MD,g9,S8⟩:=OX _ _ _ _ _ eh up il aj7 d14 List.length_set LA
  obtain⟨OL,R6⟩:∃z,z=X.set m.toNat {el X m.toNat with tables:=((el X m.toNat).tables.set k (nO (el (el X m.toNat).tables k) (el (el X m.toNat).U k).live page))}:=⟨_,rfl⟩
  have l7:ad w0 F w N (Or ei fJ) [(⟨h.mem,OL,h.buf,h.ag⟩:ah)] ((cQ.1,MD):aD ah):=by rw [R6];exact g9
  obtain⟨ago,anl⟩:=zl R6 (show m.toNat<X.length by omega) List.length_set
  change (MD 0).I.1=(gB 0).I.1 at S8
  clear up il LA g9
  refine ar.done (by kernel_rfl) ?_ _
  refine S.ex fun S=>?_
  refine S.ge 6 (.cons (cc (k:Int) 1) .nil) f6 fun ac w β S=>Ey.of ((el h.I m.toNat).U.length-(k+1)) _ _ (by omega) ⟨k+1,OL,MD,(Or ei fJ),_,_,_,rfl,?_,?_,S.z,l7,(S8.trans l3)⟩
  ·exact cK
  ·clear S;(subst_vars;rw [List.set_set];simp only [dW (show m.toNat<h.I.length by omega),qd,Wh _ _ _ (Nat.le_refl _)])
 refine S.aI 13 .nil (s.page != (-1)) (fun ac w β yp yb S=>?_) (fun ac w β yp yb S=>?_)
 ·refine S.go 2 .nil fun ac w β S=>?_
  refine dI ?_
  refine S.dR (f:=11) 10 (by kernel_rfl) (by kernel_rfl) fun w S=>?_
  refine S.hm 4 [0,1,2,3,4,5,6] [] [(51,.v (bh cQ.1.b (cQ.1.off+0*4))),(55,.v (R h.buf.length (gB 0).buf.1)),(57,.v (aa s.page))] (.cons (iS f_.ak (t:=29) (k:=0) (j:=2) (v:=R h.buf.length (gB 0).buf.1) (Nat.succ_pos 0) (by kernel_rfl) (by kernel_rfl)) .nil) fun ac S=>?_
  refine ar.one (i:=7) (by kernel_rfl) ?_
  refine id (S.dB 58 (Pr w h.buf (gB 0).buf (S.rd (Qn f_.ak)) s.page (ed.page (d:=s) hs)) fun ac w N lB xh S up kj d41=>?_)
  refine ar.next S up (by kernel_rfl) ?_
  have d42:=J.w d41 f_.sub
  replace f_:=f_.up up
  clear up d41
  refine S.a9 8 [9,8] [] [(59,.v (bh cQ.1.b (cQ.1.off+0*4)))] .nil fun ac S=>?_
  refine S.a9 9 [9] [] [(60,.v (bh cQ.1.b (cQ.1.off+0*4+2)))] .nil fun ac S=>?_
  refine ar.one (i:=10) (by kernel_rfl) ?_
  refine id (S.qD (α:=ah) f_ (t:=29) (v:=R (g6 h.buf s.page).length lB.1) (k:=0) (j:=2) (off:=cQ.1.off+0*4+2) (y:=(⟨h.mem,X,(g6 h.buf s.page),h.ag⟩:ah)) (q:=({(gB 0) with buf:=lB}:b_)) (Fy:=xh) (by kernel_rfl) (by kernel_rfl) (Nat.succ_pos 0) (by kernel_rfl) (by kernel_rfl) (Nat.le_of_ble_eq_true (by kernel_rfl)) (by kernel_rfl) (fun G fv qf=>⟨_,Mr fv kj.own (fun b h an=>d42 b (qf b h) an),fun _ h=>h⟩) d42 kj.sub kj.dM fun w N kY S up k7 d46 NJ ahr=>?_)
  refine ar.last (by kernel_rfl) ?_
  obtain⟨ui,ht,afn⟩:∃ui:Nat->b_,ad w0 F _ _ kY [(⟨h.mem,X,(g6 h.buf s.page),h.ag⟩:ah)] ((cQ.1,ui):aD ah)/\(ui 0).I.1=(gB 0).I.1:=⟨_,k7,rfl⟩
  clear up d46 f_ k7 NJ ahr
  refine ar.done (by kernel_rfl) ?_ _
  refine S.ex fun S=>?_
  refine S.go 1 .nil fun ac w β S=>?_
  refine dI ?_
  refine S.dR (f:=11) 10 (by kernel_rfl) (by kernel_rfl) fun w S=>?_
  refine S.hm 4 [0,1,2,3,4,5,6] [] [(61,.v (bh cQ.1.b (cQ.1.off+0*4))),(65,.v (R h.ag.length (ui 0).ag.1)),(67,.v (aa s.page))] (.cons (iS ht.ak (t:=29) (k:=0) (j:=3) (v:=R h.ag.length (ui 0).ag.1) (Nat.succ_pos 0) (by kernel_rfl) (by kernel_rfl)) .nil) fun ac S=>?_
  refine ar.one (i:=7) (by kernel_rfl) ?_
  refine id (S.dB 68 (Pr w h.ag (ui 0).ag (S.rd (aaA ht.ak)) s.page (ed.page (d:=s) hs)) fun ac w N VK s5 S up rm d54=>?_)
  refine ar.next S up (by kernel_rfl) ?_
  have d55:=J.w d54 ht.sub
  replace ht:=ht.up up
  clear up d54
  refine S.a9 8 [9,8] [] [(69,.v (bh cQ.1.b (cQ.1.off+0*4)))] .nil fun ac S=>?_
  refine S.a9 9 [9] [] [(70,.v (bh cQ.1.b (cQ.1.off+0*4+3)))] .nil fun ac S=>?_
  refine ar.one (i:=10) (by kernel_rfl) ?_
  refine id (S.qD (α:=ah) ht (t:=29) (v:=R (g6 h.ag s.page).length VK.1) (k:=0) (j:=3) (off:=cQ.1.off+0*4+3) (y:=(⟨h.mem,X,(g6 h.buf s.page),(g6 h.ag s.page)⟩:ah)) (q:=({(ui 0) with ag:=VK}:b_)) (Fy:=s5) (by kernel_rfl) (by kernel_rfl) (Nat.succ_pos 0) (by kernel_rfl) (by kernel_rfl) (Nat.le_of_ble_eq_true (by kernel_rfl)) (by kernel_rfl) (fun G fv qf=>⟨_,aiK fv rm.own (fun b h an=>d55 b (qf b h) an),fun _ h=>h⟩) d55 rm.sub rm.dM fun w N xi S up kM d59 NL aht=>?_)
  refine ar.last (by kernel_rfl) ?_
  obtain⟨Nk,B4,afo⟩:∃Nk:Nat->b_,ad w0 F _ _ xi [(⟨h.mem,X,(g6 h.buf s.page),(g6 h.ag s.page)⟩:ah)] ((cQ.1,Nk):aD ah)/\(Nk 0).I.1=(ui 0).I.1:=⟨_,kM,rfl⟩
  clear up d59 ht kM NL aht
  refine ar.done (by kernel_rfl) ?_ _
  refine S.ex fun S=>?_
  refine S.bo 0 .nil [] fun ac w β S=>?_
  exact uo S (show m7 h m page s=(⟨h.mem,X,(g6 h.buf s.page),(g6 h.ag s.page)⟩:ah) from TI) (show oE _ _ from(afo.trans (afn.trans l3))) B4
 refine S.bo 2 .nil [] fun ac w β S=>?_
 exact uo S (show m7 h m page s=(⟨h.mem,X,h.buf,h.ag⟩:ah) from TI) (show oE _ _ from l3) f_
theorem Y5 (w0:World) (h:ah) (cQ:aD ah) (F:au) (aX:GT.own b6 F w0 [h] cQ) (eT:∀b,F b->b<w0.heap.size) (m:Int) (page:Int) (fC:(0<=m/\m<h.I.length)/\(el h.I m.toNat).tables.length=(el h.I m.toNat).U.length/\(0<=page/\page<=7)/\(el h.I m.toNat).outer.length=8/\(el h.I m.toNat).out.length=8):Calls Tryz.prog 209 [bh cQ.1.b (cQ.1.off+0*4),aa m,aa page].toArray w0 (s7 oE F cQ w0 (packed []) (iA h m page)):=by
 refine Calls.run F Tryz.func209 ?_
 intro ac β S
 have eg:ad w0 F w0 (fc w0.heap.size) F [h] cQ:=⟨aX,eT,fun b hb=> .inr hb⟩
 refine S.go 25 (.cons (iS eg.ak (t:=28) (k:=0) (j:=1) (v:=R h.I.length (cQ.2 0).I.1) (Nat.succ_pos 0) (by kernel_rfl) (by kernel_rfl)) (.cons (cq (fB eg.ak) m Tryz.underlying28) (.cons (cA (fB eg.ak) 64 m.toNat 0 (R (el h.I m.toNat).outer.length ((cQ.2 0).I.2 m.toNat).outer.1)) (.cons (cq (aU.outer (d:=(el h.I m.toNat)) (ae.el (fB eg.ak) m.toNat (by omega))) page Tryz.underlying64) (.cons (dz (aU.outer (d:=(el h.I m.toNat)) (ae.el (fB eg.ak) m.toNat (by omega))) 111 page.toNat) .nil))))) fun ac w β S=>?_
 refine dI ?_
 refine S.dR (f:=14) 13 (by kernel_rfl) (by kernel_rfl) fun w S=>?_
 refine S.hm 3 [0,1,2,3,4,5,6,7,8,9,10] [] [(24,.v (R (el h.I m.toNat).out.length ((cQ.2 0).I.2 m.toNat).out.1)),(25,.v (aa page)),(29,.v (R h.mem.length (cQ.2 0).mem.1)),(31,.v (aa (el (el h.I m.toNat).outer page.toNat).page))] (.cons (cA (fB eg.ak) 22 m.toNat 1 (R (el h.I m.toNat).out.length ((cQ.2 0).I.2 m.toNat).out.1)) (.cons (iS eg.ak (t:=22) (k:=0) (j:=0) (v:=R h.mem.length (cQ.2 0).mem.1) (Nat.succ_pos 0) (by kernel_rfl) (by kernel_rfl)) .nil)) fun ac S=>?_
 refine ar.one (i:=11) (by kernel_rfl) ?_
 refine id (S.dB 32 (HD w h.mem (cQ.2 0).mem (S.rd (Qo eg.ak)) (el (el h.I m.toNat).outer page.toNat).page) fun ac w N af br S up aA d4=>?_)
 refine ar.next S up (by kernel_rfl) ?_
 have d5:=J.w d4 eg.sub
 replace eg:=eg.up up
 clear up d4
 refine S.a9 12 [12] [] [(33,.v (bh ((cQ.2 0).I.2 m.toNat).out.1.b (((cQ.2 0).I.2 m.toNat).out.1.off+page.toNat*1)))] (.cons (cq (aU.out (d:=(el h.I m.toNat)) (ae.el (fB eg.ak) m.toNat (by omega))) page Tryz.underlying22) .nil) fun ac S=>?_
 refine ar.one (i:=13) (by kernel_rfl) ?_
 obtain⟨cT,ao,akk,uR⟩:=r7 eg (fun _ o=>Rj o (k:=m.toNat) (show m.toNat<h.I.length by omega))
 change ad w0 F _ _ cT (el h.I m.toNat).out ((cQ.2 0).I.2 m.toNat).out at ao
 have aph:=ae.le ao.ak
 have aqg:=ao.sub
 refine id (S.kU (α:=List Int) ao (t:=38) (k:=page.toNat) (off:=((cQ.2 0).I.2 m.toNat).out.1.off+page.toNat*1) aA (J.symm (J.symm (J.part d5 akk))) fun w N gf n6 S up bA d15 NB tR=>?_)
 refine ar.last (by kernel_rfl) ?_
 clear d15 ao
 obtain⟨sN,eA,EJ⟩:=uR _ _ _ _ _ br up bA NB d5 List.length_set tR
 obtain⟨pX,R3⟩:∃z,z=h.I.set m.toNat {el h.I m.toNat with out:=((el h.I m.toNat).out.set page.toNat (hn h.mem (el (el h.I m.toNat).outer page.toNat).page))}:=⟨_,rfl⟩
 have fr:ad w0 F w N (Or F gf) [(⟨h.mem,pX,h.buf,h.ag⟩:ah)] ((cQ.1,sN):aD ah):=by rw [R3];exact eA
 obtain⟨Ld,ti⟩:=Gp R3 (show m.toNat<h.I.length by omega) List.length_set
 change (sN 0).I.1=(cQ.2 0).I.1 at EJ
 clear up bA tR eA
 refine ar.done (by kernel_rfl) ?_ _
 refine S.ex fun S=>?_
 refine S.go 2 .nil fun ac w β S=>?_
 refine dI ?_
 refine S.dR (f:=8) 7 (by kernel_rfl) (by kernel_rfl) fun w S=>?_
 refine S.hm 3 [0,1,2,3,4] [] [(37,.v (R (el pX m.toNat).outer.length (((sN 0).I.2) m.toNat).outer.1)),(38,.v (aa page))] (.cons (cA (hv EJ (hj fr.ak)) 64 m.toNat 0 (R (el pX m.toNat).outer.length (((sN 0).I.2) m.toNat).outer.1)) .nil) fun ac S=>?_
 refine S.iN 5 [] [(39,.v (GT.val (⟨-1,0⟩:aR) ()))] 1 [] (.cons (aE fun w hw=>nJ w) .nil) fun ac w β S=>?_
 refine S.a9 6 [6] [] [(40,.v (bh (((sN 0).I.2) m.toNat).outer.1.b ((((sN 0).I.2) m.toNat).outer.1.off+page.toNat*2)))] (.cons (cq (aU.outer (d:=(el pX m.toNat)) (ae.el (hv EJ (hj fr.ak)) m.toNat (by omega))) page Tryz.underlying64) .nil) fun ac S=>?_
 refine ar.one (i:=7) (by kernel_rfl) ?_
 obtain⟨xf,g9,_,OZ⟩:=r7 fr (fun _ o=>IM o (k:=m.toNat) (show m.toNat<pX.length by omega))
 change ad w0 F _ _ xf (el pX m.toNat).outer (((sN 0).I.2) m.toNat).outer at g9
 have apP:=ae.le g9.ak
 have wz:=g9.sub
 have ank:ed (el (el pX m.toNat).outer page.toNat):=(ae.el g9.ak page.toNat (by omega))
 refine id (S.zi (α:=aR) g9 (t:=111) (k:=page.toNat) (j:=0) (off:=(((sN 0).I.2) m.toNat).outer.1.off+page.toNat*2) (v:=GT.val (⟨-1,0⟩:aR) ()) (y:=(⟨-1,0⟩:aR)) (q:=()) (fun _ _ _=>⟨ab,(show ed ⟨-1,0⟩ from⟨⟨by decide,by decide⟩,⟨by decide,by decide⟩⟩),fun _ h=>False.elim h⟩) fun w N mg Cg S up im d37 CF BF=>?_)
 refine ar.last (by kernel_rfl) ?_
 clear d37 g9
 obtain⟨FZ,qv,S_⟩:=OZ _ _ _ _ _ ab up im CF (fun b _ h=>False.elim h) List.length_set BF
 obtain⟨Ht,R8⟩:∃z,z=pX.set m.toNat {el pX m.toNat with outer:=((el pX m.toNat).outer.set page.toNat (⟨-1,0⟩:aR))}:=⟨_,rfl⟩
 have qw:ad w0 F w N (Or (Or F gf) mg) [(⟨h.mem,Ht,h.buf,h.ag⟩:ah)] ((cQ.1,FZ):aD ah):=by rw [R8];exact qv
 obtain⟨T9,ann⟩:=CM R8 (show m.toNat<pX.length by omega) List.length_set
 change (FZ 0).I.1=(sN 0).I.1 at S_
 clear up im BF qv
 refine ar.done (by kernel_rfl) ?_ _
 refine S.ex fun S=>?_
 refine S.go 6 .nil fun ac w β S=>S.uM (d:=45) qw (HI w (⟨h.mem,Ht,h.buf,h.ag⟩:ah) ((cQ.1,FZ):aD ah) (Or (Or F gf) mg) (S.fP qw) (fun b hb=>(S.sep b (qw.sub b hb)).1) m page (el (el h.I m.toNat).outer page.toNat) (ae.el (aU.outer (d:=(el h.I m.toNat)) (ae.el (fB eg.ak) m.toNat (by omega))) page.toNat (by omega)) (by(first|omega|(dsimp only;omega)))) fun ac w N Vj qK S up g_ d53 Ta=>?_
 change (Vj 0).I.1=(FZ 0).I.1 at Ta
 clear up d53 qw
 obtain⟨OP,Sh⟩:∃z,z=(m7 (⟨h.mem,Ht,h.buf,h.ag⟩:ah) m page (el (el h.I m.toNat).outer page.toNat)):=⟨_,rfl⟩
 have kM:ad w0 F w N qK [OP] ((cQ.1,Vj):aD ah):=by rw [Sh];exact g_
 clear g_
 have agt:=Kt Sh (by first|omega|(dsimp only;omega))
 try dsimp only at agt
 refine S.bo 1 .nil [] fun ac w β S=>?_
 exact uo S (show iA h m page=OP by clear S;(first|(subst_vars;rfl)|(subst_vars;simp [iA,kh,gP,m7,dW, *];done))) (show oE _ _ from(Ta.trans (S_.trans EJ))) kM
theorem Y6 (w0:World) (h:ah) (cQ:aD ah) (F:au) (aX:GT.own b6 F w0 [h] cQ) (eT:∀b,F b->b<w0.heap.size) (fC:eJ h=true) (gU:¬0<(en h).length):Calls Tryz.prog 295 [bh cQ.1.b (cQ.1.off+0*4)].toArray w0 (s7 oE F cQ w0 (packed []) (x5 h)):=by
 refine Calls.run F Tryz.func295 ?_
 intro ac β S
 have eg:ad w0 F w0 (fc w0.heap.size) F [h] cQ:=⟨aX,eT,fun b hb=> .inr hb⟩
 have wg:=NO (h:=h) (by assumption) (by assumption)
 refine S.go 17 (.cons (rP eg.ak (t:=31) (k:=0) (Nat.succ_pos 0) rfl (by kernel_rfl) (by kernel_rfl)) (.cons (aE fun w hw=>PB w h (cQ.2 0) (bJ (show GT.rd b6 _ _ h (cQ.2 0) from ae.el eg.ak 0 (Nat.succ_pos 0)) hw) 0) .nil)) fun ac w β S=>S.uM (d:=14) eg (Y5 w h cQ F (S.fP eg) (fun b hb=>(S.sep b (eg.sub b hb)).1) (ea h 0).1 (ea h 0).2 (by(first|omega|(dsimp only;omega)))) fun ac w N lz br S up aA d5 S9=>?_
 change (lz 0).I.1=(cQ.2 0).I.1 at S9
 clear up d5 eg
 obtain⟨OQ,aeo⟩:∃z,z=(iA h (ea h 0).1 (ea h 0).2):=⟨_,rfl⟩
 have bO:ad w0 F w N br [OQ] ((cQ.1,lz):aD ah):=by rw [aeo];exact aA
 clear aA
 refine S.bo 1 .nil [] fun ac w β S=>?_
 exact uo S (show x5 h=OQ by clear S;(subst_vars;rfl)) (show oE _ _ from S9) bO
theorem KC {p:Prop} (h:p:=by clear S;(unfold jv;(repeat' split)<;>first|rfl|(simp;done)|(exfalso;omega)|(exfalso;simp_all;done)|(exfalso;simp_all;omega))):p:=h
theorem YZ (w0:World) (m:List (List Int)) (pm:aD (List Int)) (hm:bQ w0 m pm) (page:Int) (cells:List Int) (mb:aD Int) (my:bQ w0 cells mb):Calls Tryz.prog 296 [R m.length pm.1,aa page,R cells.length mb.1].toArray w0 (dw ab w0 (jv m page cells:List (List Int))):=by
 refine Calls.run ab Tryz.func296 ?_
 intro ac β S
 have q6:m.length<=4194304:=ae.le hm
 have JX:cells.length<=4194304:=ae.le my
 refine S.go 8 .nil fun ac w β S=>S.cJ (r:=m) (d:=9) (pd w m pm (S.rd (S.arg hm))) fun ac w N af br S up aA d4=>?_
 clear up d4
 refine S.bd 11 (.cons (aE fun w hw=>js w page (m.length:Int) (by omega)) .nil) (a3 page 0 ((m.length:Int)-1)) (fun ac w β bm S=>?_) (fun ac w β bm S=>?_)
 ·have c6:=cV bm
  refine S.bd 5 (.cons (aE fun w hw=>HE w cells mb (bJ (S.arg my) hw)) .nil) (ho cells) (fun ac w β cE S=>?_) (fun ac w β cE S=>?_)
  ·refine S.go 5 .nil fun ac w β S=>S.cJ (r:=cells) (d:=21) (xB w cells mb (S.rd (S.arg my))) fun ac w N b0 bV S up nj d11=>?_
   have d12:=J.w d11 aA.sub
   replace aA:=aA.up up
   clear up d11
   refine S.go 1 (.cons (cq aA.ak page Tryz.underlying22) .nil) fun ac w β S=>S.eQ (α:=List Int) aA (t:=38) (k:=page.toNat) (off:=af.1.off+page.toNat*1) nj d12 fun w N e6 jj S up jM d16 Cv wy=>?_
   clear up d16 aA wy
   have Fc:(m.set page.toNat cells).length=m.length:=List.length_set
   refine S.bo 9 .nil [R m.length af.1] fun ac w β S=>?_
   exact cy S (show jv m page cells=(m.set page.toNat cells) from KC) (by rw [show m.length=(m.set page.toNat cells).length from(by rw [List.length_set])];rfl) jM
  refine S.bo 10 .nil [R m.length af.1] fun ac w β S=>?_
  exact cy S (show jv m page cells=m from KC) rfl aA
 have m9:=dn bm
 refine S.bo 15 .nil [R m.length af.1] fun ac w β S=>?_
 exact cy S (show jv m page cells=m from KC) rfl aA
theorem Y1 (w0:World) (h:ah) (cQ:aD ah) (F:au) (aX:GT.own b6 F w0 [h] cQ) (eT:∀b,F b->b<w0.heap.size) (m:Int) (page:Int) (fC:fN h m page=true):Calls Tryz.prog 210 [bh cQ.1.b (cQ.1.off+0*4),aa m,aa page].toArray w0 (s7 oE F cQ w0 (packed []) (lj h m page)):=by
 refine Calls.run F Tryz.func210 ?_
 intro ac β S
 have eg:ad w0 F w0 (fc w0.heap.size) F [h] cQ:=⟨aX,eT,fun b hb=> .inr hb⟩
 have bC:=px (h:=h) (m:=m) (page:=page) (by assumption)
 refine S.go 6 (.cons (rP eg.ak (t:=31) (k:=0) (Nat.succ_pos 0) rfl (by kernel_rfl) (by kernel_rfl)) .nil) fun ac w β S=>S.cJ (r:=en h) (d:=12) (Pt w h (cQ.2 0) (S.rd (show GT.rd b6 _ _ h (cQ.2 0) from ae.el eg.ak 0 (Nat.succ_pos 0)))) fun ac w N af br S up aA d4=>?_
 replace eg:=eg.up up
 clear up d4
 refine S.go 4 .nil fun ac w β S=>?_
 refine iw S (fun ac w=>∃(bs:ah) (jQ:Nat->b_) (fa:au) (u:_) (N:_) (β:_),(bs=kg h)/\(jQ 0).I.1=(cQ.2 0).I.1/\aj Tryz.prog Tryz.f210.ntmps w0 F u N β ⟨[(0,.v (bh cQ.1.b (cQ.1.off+0*4))),(1,.v (aa m)),(2,.v (aa page))],[]⟩ ac w/\ad w0 F u N fa ([bs]) ((cQ.1,jQ):aD ah)) ?_ ?_
 ·clear S;intro S
  refine S.aI 0 .nil (((en h).length:Int)==0) (fun ac w β c2 eb S=>?_) (fun ac w β c2 eb S=>?_)
  ·refine S.go 3 .nil fun ac w β S=>S.uM (d:=16) eg (Y6 w h cQ F (S.fP eg) (fun b hb=>(S.sep b (eg.sub b hb)).1) (by(first|assumption|exact sg (by assumption)|omega|(dsimp only;omega))) (by(first|assumption|exact sg (by assumption)|omega|(dsimp only;omega)))) fun ac w N MC gf S up c3 d16 S7=>?_
   change (MC 0).I.1=(cQ.2 0).I.1 at S7
   clear up d16 eg
   obtain⟨OO,Sg⟩:∃z,z=(x5 h):=⟨_,rfl⟩
   have eA:ad w0 F w N gf [OO] ((cQ.1,MC):aD ah):=by rw [Sg];exact c3
   clear c3
   have agf:=V1 Sg (sg (by assumption)) (by omega) m.toNat
   try dsimp only at agf
   exact S.dG 1 .nil fun ac w β S=>⟨rfl,OO,MC,gf,_,_,_,(by clear S;first|exact Gf (by assumption) (by omega)|exact Ge (by omega)),S7,S.z,eA⟩
  exact S.dG 2 .nil fun ac w β S=>⟨rfl,h,cQ.2,F,_,_,_,(by clear S;first|exact Gf (by assumption) (by omega)|exact Ge (by omega)),rfl,S.z,eg⟩
 clear S eg aA
 rintro ac w ⟨bs,jQ,fa,u,N,β,kE,afp,S,bO⟩
 have bp:=VV kE (by assumption)
 refine S.ex fun S=>?_
 refine S.go 17 (.cons (iS bO.ak (t:=28) (k:=0) (j:=1) (v:=R bs.I.length (jQ 0).I.1) (Nat.succ_pos 0) (by kernel_rfl) (by kernel_rfl)) (.cons (cq (fB bO.ak) m Tryz.underlying28) (.cons (rP bO.ak (t:=31) (k:=0) (Nat.succ_pos 0) rfl (by kernel_rfl) (by kernel_rfl)) .nil))) fun ac w β S=>S.cJ (r:=en bs) (d:=26) (Pt w bs (jQ 0) (S.rd (show GT.rd b6 _ _ bs (jQ 0) from ae.el bO.ak 0 (Nat.succ_pos 0)))) fun ac w N c9 fJ S up bb d24=>?_
 replace bO:=bO.up up
 clear up d24
 have i26:a_ (el (en bs) 0):=(ae.el bb.ak 0 (by omega))
 refine S.go 6 (.cons (b5 bb.ak 0 Tryz.underlying38) (.cons (cj bb.ak 3 0) .nil)) fun ac w β S=>?_
 refine dI ?_
 refine S.dR (f:=17) 16 (by kernel_rfl) (by kernel_rfl) fun w S=>?_
 refine S.hm 4 [0,1,2,3,4,5,6,7,8,9,10,11,12] [] [(29,.v (bh cQ.1.b (cQ.1.off+0*4))),(33,.v (R bs.mem.length (jQ 0).mem.1)),(34,.v (aa (el (en bs) 0))),(41,.v (R (el (el bs.I m.toNat).out page.toNat).length (((jQ 0).I.2 m.toNat).out.2 page.toNat).1))] (.cons (iS bO.ak (t:=22) (k:=0) (j:=0) (v:=R bs.mem.length (jQ 0).mem.1) (Nat.succ_pos 0) (by kernel_rfl) (by kernel_rfl)) (.cons (cA (fB bO.ak) 22 m.toNat 1 (R (el bs.I m.toNat).out.length ((jQ 0).I.2 m.toNat).out.1)) (.cons (cq (aU.out (d:=(el bs.I m.toNat)) (ae.el (fB bO.ak) m.toNat (by omega))) page Tryz.underlying22) (.cons (cj (aU.out (d:=(el bs.I m.toNat)) (ae.el (fB bO.ak) m.toNat (by omega))) 38 page.toNat) .nil)))) fun ac S=>?_
 refine ar.one (i:=13) (by kernel_rfl) ?_
 refine id (S.dB 42 (YZ w bs.mem (jQ 0).mem (S.rd (Qo bO.ak)) (el (en bs) 0) (el (el bs.I m.toNat).out page.toNat) (((jQ 0).I.2 m.toNat).out.2 page.toNat) (S.rd (ae.el (aU.out (d:=(el bs.I m.toNat)) (ae.el (fB bO.ak) m.toNat (by omega))) page.toNat (by omega)))) fun ac w N e9 ob S up kL d30=>?_)
 refine ar.next S up (by kernel_rfl) ?_
 have d31:=J.w d30 bO.sub
 replace bO:=bO.up up
 clear up d30
 refine S.a9 14 [15,14] [] [(43,.v (bh cQ.1.b (cQ.1.off+0*4)))] .nil fun ac S=>?_
 refine S.a9 15 [15] [] [(44,.v (bh cQ.1.b (cQ.1.off+0*4)))] .nil fun ac S=>?_
 refine ar.one (i:=16) (by kernel_rfl) ?_
 refine id (S.qD (α:=ah) bO (t:=22) (v:=R (jv bs.mem (el (en bs) 0) (el (el bs.I m.toNat).out page.toNat)).length e9.1) (k:=0) (j:=0) (off:=cQ.1.off+0*4) (y:=(⟨(jv bs.mem (el (en bs) 0) (el (el bs.I m.toNat).out page.toNat)),bs.I,bs.buf,bs.ag⟩:ah)) (q:=({(jQ 0) with mem:=e9}:b_)) (Fy:=ob) (by kernel_rfl) (by kernel_rfl) (Nat.succ_pos 0) (by kernel_rfl) (by kernel_rfl) (Nat.le_of_ble_eq_true (by kernel_rfl)) (by kernel_rfl) (fun G fv qf=>⟨_,aiL fv kL.own (fun b h an=>d31 b (qf b h) an),fun _ h=>h⟩) d31 kL.sub kL.dM fun w N qJ S up fZ d35 NH LB=>?_)
 refine ar.last (by kernel_rfl) ?_
 obtain⟨jx,lv,ss⟩:∃jx:Nat->b_,ad w0 F _ _ qJ [(⟨(jv bs.mem (el (en bs) 0) (el (el bs.I m.toNat).out page.toNat)),bs.I,bs.buf,bs.ag⟩:ah)] ((cQ.1,jx):aD ah)/\(jx 0).I.1=(jQ 0).I.1:=⟨_,fZ,rfl⟩
 clear up d35 bO fZ NH LB
 refine ar.done (by kernel_rfl) ?_ _
 refine S.ex fun S=>?_
 refine S.go 8 (.cons (cA (hv ss (hj lv.ak)) 22 m.toNat 1 (R (el bs.I m.toNat).out.length (((jx 0).I.2) m.toNat).out.1)) .nil) fun ac w β S=>S.gE (α:=Int) (d:=50) fun ac w N y6 mS S up jO d43=>?_
 have d44:=J.w d43 lv.sub
 replace lv:=lv.up up
 clear up d43
 obtain⟨W0,hr,NJ,X1⟩:=r7 lv (fun _ o=>Rj o (k:=m.toNat) (show m.toNat<bs.I.length by omega))
 change ad w0 F _ _ W0 (el bs.I m.toNat).out (((jx 0).I.2) m.toNat).out at hr
 have ap0:=ae.le hr.ak
 have Uu:=hr.sub
 refine S.go 1 (.cons (cq (aU.out (d:=(el bs.I m.toNat)) (ae.el (hv ss (hj lv.ak)) m.toNat (by omega))) page Tryz.underlying22) .nil) fun ac w β S=>S.eQ (α:=List Int) hr (t:=38) (k:=page.toNat) (off:=(((jx 0).I.2) m.toNat).out.1.off+page.toNat*1) jO (J.symm (J.symm (J.part d44 NJ))) fun w N s5 n8 S up g_ d54 NK BI=>?_
 clear d54 hr
 obtain⟨nu,eB,ql⟩:=X1 _ _ _ _ _ mS up g_ NK d44 List.length_set BI
 obtain⟨kx,AY⟩:∃z,z=bs.I.set m.toNat {el bs.I m.toNat with out:=((el bs.I m.toNat).out.set page.toNat ([]:List Int))}:=⟨_,rfl⟩
 have eF:ad w0 F w N (Or qJ s5) [(⟨(jv bs.mem (el (en bs) 0) (el (el bs.I m.toNat).out page.toNat)),kx,bs.buf,bs.ag⟩:ah)] ((cQ.1,nu):aD ah):=by rw [AY];exact eB
 obtain⟨agu,DZ⟩:=Gp AY (show m.toNat<bs.I.length by omega) List.length_set
 change (nu 0).I.1=(jx 0).I.1 at ql
 clear up g_ BI eB
 obtain⟨W4,sH,_,X4⟩:=r7 eF (fun _ o=>IM o (k:=m.toNat) (show m.toNat<kx.length by omega))
 change ad w0 F _ _ W4 (el kx m.toNat).outer (((nu 0).I.2) m.toNat).outer at sH
 have ap8:=ae.le sH.ak
 have aql:=sH.sub
 have anq:ed (el (el kx m.toNat).outer page.toNat):=(ae.el sH.ak page.toNat (by omega))
 refine S.go 25 (.cons (cA (hv (ql.trans ss) (hj eF.ak)) 64 m.toNat 0 (R (el kx m.toNat).outer.length (((nu 0).I.2) m.toNat).outer.1)) (.cons (cq (aU.outer (d:=(el kx m.toNat)) (ae.el (hv (ql.trans ss) (hj eF.ak)) m.toNat (by omega))) page Tryz.underlying64) (.cons (dz (aU.outer (d:=(el kx m.toNat)) (ae.el (hv (ql.trans ss) (hj eF.ak)) m.toNat (by omega))) 111 page.toNat) (.cons (cA (hv (ql.trans ss) (hj eF.ak)) 64 m.toNat 0 (R (el kx m.toNat).outer.length (((nu 0).I.2) m.toNat).outer.1)) (.cons (fY (s:=Instr.build 111 [(0,aa (el (en bs) 0)),(1,aa 3)].toArray) (v:= .agg [aa (el (en bs) 0),aa 3].toArray) (fun w=>by kernel_rfl)) (.cons (cq (aU.outer (d:=(el kx m.toNat)) (ae.el (hv (ql.trans ss) (hj eF.ak)) m.toNat (by omega))) page Tryz.underlying64) .nil)))))) fun ac w β S=>S.fQ (α:=aR) sH (t:=111) (k:=page.toNat) (j:=0) (off:=(((nu 0).I.2) m.toNat).outer.1.off+page.toNat*2) (v:=GT.val (⟨(el (en bs) 0),3⟩:aR) ()) (y:=(⟨(el (en bs) 0),3⟩:aR)) (q:=()) (fun _ _ _=>⟨ab,(show ed (⟨(el (en bs) 0),3⟩:aR) from⟨i26,(show a_ 3 from⟨by decide,by decide⟩)⟩),fun _ h=>False.elim h⟩) fun w N Df Cm S up hJ d76 akj Uz=>?_
 clear d76 sH
 obtain⟨y1,rq,Td⟩:=X4 _ _ _ _ _ ab up hJ akj (fun b _ h=>False.elim h) List.length_set Uz
 obtain⟨Hu,Sb⟩:∃z,z=kx.set m.toNat {el kx m.toNat with outer:=((el kx m.toNat).outer.set page.toNat (⟨(el (en bs) 0),3⟩:aR))}:=⟨_,rfl⟩
 have nm:ad w0 F w N (Or (Or qJ s5) Df) [(⟨(jv bs.mem (el (en bs) 0) (el (el bs.I m.toNat).out page.toNat)),Hu,bs.buf,bs.ag⟩:ah)] ((cQ.1,y1):aD ah):=by rw [Sb];exact rq
 obtain⟨aqa,Ix⟩:=CM Sb (show m.toNat<kx.length by omega) List.length_set
 change (y1 0).I.1=(nu 0).I.1 at Td
 clear up hJ Uz rq
 refine S.go 7 .nil fun ac w β S=>S.uM (d:=71) nm (HI w (⟨(jv bs.mem (el (en bs) 0) (el (el bs.I m.toNat).out page.toNat)),Hu,bs.buf,bs.ag⟩:ah) ((cQ.1,y1):aD ah) (Or (Or qJ s5) Df) (S.fP nm) (fun b hb=>(S.sep b (nm.sub b hb)).1) m page (el (el kx m.toNat).outer page.toNat) (ae.el (aU.outer (d:=(el kx m.toNat)) (ae.el (hv (ql.trans ss) (hj eF.ak)) m.toNat (by omega))) page.toNat (by omega)) (by(first|omega|(dsimp only;omega)))) fun ac w N Vq oc S up fM d92 Te=>?_
 change (Vq 0).I.1=(y1 0).I.1 at Te
 clear up d92 nm
 obtain⟨OS,Sj⟩:∃z,z=(m7 (⟨(jv bs.mem (el (en bs) 0) (el (el bs.I m.toNat).out page.toNat)),Hu,bs.buf,bs.ag⟩:ah) m page (el (el kx m.toNat).outer page.toNat)):=⟨_,rfl⟩
 have B6:ad w0 F w N oc [OS] ((cQ.1,Vq):aD ah):=by rw [Sj];exact fM
 clear fM
 have agz:=Kt Sj (by first|omega|(dsimp only;omega))
 try dsimp only at agz
 refine S.bo 1 .nil [] fun ac w β S=>?_
 exact uo S (show lj h m page=OS by clear S;(unfold lj;first|(subst_vars;rfl)|(subst_vars;simp [pj,kh,gP,m7,dW, *];done))) (show oE _ _ from(Te.trans (Td.trans (ql.trans (ss.trans afp))))) B6
theorem KD {p:Prop} (h:p:=by clear S;(first|(rw [Lr (by assumption) kE.symm (by assumption)];done)|(rw [Lt (by assumption) kE.symm (by assumption) (by assumption) (by assumption)];done)|(exact agR (by assumption) kE.symm (by assumption) (by assumption) (by assumption) (by assumption) rfl (by assumption)))):p:=h
theorem Y4 (w0:World) (h:ah) (cQ:aD ah) (F:au) (aX:GT.own b6 F w0 [h] cQ) (eT:∀b,F b->b<w0.heap.size) (m:Int) (page:Int) (need:Int) (fC:fN h m page=true):Calls Tryz.prog 202 [bh cQ.1.b (cQ.1.off+0*4),aa m,aa page,aa need].toArray w0 (s7 oE F cQ w0 (packed []) (gp h m page need)):=by
 refine Calls.run F Tryz.func202 ?_
 intro ac β S
 have eg:ad w0 F w0 (fc w0.heap.size) F [h] cQ:=⟨aX,eT,fun b hb=> .inr hb⟩
 have bC:=px (h:=h) (m:=m) (page:=page) (by assumption)
 refine S.go 18 (.cons (iS eg.ak (t:=28) (k:=0) (j:=1) (v:=R h.I.length (cQ.2 0).I.1) (Nat.succ_pos 0) (by kernel_rfl) (by kernel_rfl)) (.cons (cq (fB eg.ak) m Tryz.underlying28) (.cons (cA (fB eg.ak) 64 m.toNat 0 (R (el h.I m.toNat).outer.length ((cQ.2 0).I.2 m.toNat).outer.1)) (.cons (cq (aU.outer (d:=(el h.I m.toNat)) (ae.el (fB eg.ak) m.toNat (by omega))) page Tryz.underlying64) (.cons (cA (aU.outer (d:=(el h.I m.toNat)) (ae.el (fB eg.ak) m.toNat (by omega))) 3 page.toNat 0 (aa (el (el h.I m.toNat).outer page.toNat).page)) .nil))))) fun ac w β S=>?_
 refine iw S (fun ac w=>∃(bs:ah) (gB:Nat->b_) (ei:au) (u:_) (N:_) (β:_),(bs=hB h m page)/\(gB 0).I.1=(cQ.2 0).I.1/\aj Tryz.prog Tryz.f202.ntmps w0 F u N β ⟨[(0,.v (bh cQ.1.b (cQ.1.off+0*4))),(1,.v (aa m)),(2,.v (aa page)),(3,.v (aa need))],[]⟩ ac w/\ad w0 F u N ei ([bs]) ((cQ.1,gB):aD ah)) ?_ ?_
 ·clear S;intro S
  refine S.aI 0 .nil ((el (el h.I m.toNat).outer page.toNat).page==(-1)) (fun ac w β cS gH S=>?_) (fun ac w β cS gH S=>?_)
  ·refine S.go 5 .nil fun ac w β S=>S.uM (d:=26) eg (Y1 w h cQ F (S.fP eg) (fun b hb=>(S.sep b (eg.sub b hb)).1) m page (by(first|assumption|exact sg (by assumption)|omega|(dsimp only;omega)))) fun ac w N Cb bV S up nj d12 S6=>?_
   change (Cb 0).I.1=(cQ.2 0).I.1 at S6
   clear up d12 eg
   obtain⟨ON,Sf⟩:∃z,z=(lj h m page):=⟨_,rfl⟩
   have ba:ad w0 F w N bV [ON] ((cQ.1,Cb):aD ah):=by rw [Sf];exact nj
   clear nj
   have Bz:=IL Sf (by assumption)
   try dsimp only at Bz
   exact S.dG 1 .nil fun ac w β S=>⟨rfl,ON,Cb,bV,_,_,_,(by clear S;first|exact(Fi (by assumption) (by assumption)).symm|exact(Fg (by assumption)).symm|exact tP (by assumption) (of_decide_eq_true (by assumption))|exact(tO (by assumption) (of_decide_eq_false (by assumption))).symm|exact tP (by assumption) (by assumption)|exact(tO (by assumption) (by assumption)).symm),S6,S.z,ba⟩
  exact S.dG 2 .nil fun ac w β S=>⟨rfl,h,cQ.2,F,_,_,_,(by clear S;first|exact(Fi (by assumption) (by assumption)).symm|exact(Fg (by assumption)).symm|exact tP (by assumption) (of_decide_eq_true (by assumption))|exact(tO (by assumption) (of_decide_eq_false (by assumption))).symm|exact tP (by assumption) (by assumption)|exact(tO (by assumption) (by assumption)).symm),rfl,S.z,eg⟩
 clear S eg
 rintro ac w ⟨bs,gB,ei,u,N,β,kE,l3,S,f_⟩
 have bp:=BD kE (by assumption)
 refine S.ex fun S=>?_
 refine S.bd 9 (.cons (aE fun w hw=>xz w need 2) .nil) (!(fj need 2)) (fun ac w β jH S=>?_) (fun ac w β jH S=>?_)
 ·have nX:=cm jH
  refine S.bo 2 .nil [] fun ac w β S=>?_
  exact uo S (show gp h m page need=bs from KD) (show oE _ _ from l3) f_
 have hU:=b9 jH
 have m9:=qU hU
 obtain⟨o0,fr,_,XL⟩:=r7 f_ (fun _ o=>Ri o (k:=m.toNat) (show m.toNat<bs.I.length by omega))
 change ad w0 F _ _ o0 (el bs.I m.toNat).aT ((gB 0).I.2 m.toNat).aT at fr
 have Ld:=ae.le fr.ak
 have LA:=fr.sub
 refine S.go 22 (.cons (iS f_.ak (t:=28) (k:=0) (j:=1) (v:=R bs.I.length (gB 0).I.1) (Nat.succ_pos 0) (by kernel_rfl) (by kernel_rfl)) (.cons (cq (fB f_.ak) m Tryz.underlying28) (.cons (cA (fB f_.ak) 39 m.toNat 2 (R (el bs.I m.toNat).aT.length ((gB 0).I.2 m.toNat).aT.1)) (.cons (cq (aU.aT (d:=(el bs.I m.toNat)) (ae.el (fB f_.ak) m.toNat (by omega))) page Tryz.underlying39) .nil)))) fun ac w β S=>S.fQ (α:=Bool) fr (t:=4) (k:=page.toNat) (j:=0) (off:=((gB 0).I.2 m.toNat).aT.1.off+page.toNat*1) (v:=B true) (y:=true) (q:=()) (fun _ _ _=>⟨ab,trivial,fun _ h=>False.elim h⟩) fun w N ob ug S up dT d30 CE wz=>?_
 clear d30 fr
 obtain⟨wK,im,sr⟩:=XL _ _ _ _ _ ab up dT CE (fun b _ h=>False.elim h) List.length_set wz
 obtain⟨jA,R7⟩:∃z,z=bs.I.set m.toNat {el bs.I m.toNat with aT:=((el bs.I m.toNat).aT.set page.toNat true)}:=⟨_,rfl⟩
 have iJ:ad w0 F w N (Or ei ob) [(⟨bs.mem,jA,bs.buf,bs.ag⟩:ah)] ((cQ.1,wK):aD ah):=by rw [R7];exact im
 obtain⟨agq,anm⟩:=Gm R7 (show m.toNat<bs.I.length by omega) List.length_set
 change (wK 0).I.1=(gB 0).I.1 at sr
 clear up dT wz im
 refine S.bd 23 (.cons (cA (hv sr (hj iJ.ak)) 64 m.toNat 0 (R (el jA m.toNat).outer.length (((wK 0).I.2) m.toNat).outer.1)) (.cons (cq (aU.outer (d:=(el jA m.toNat)) (ae.el (hv sr (hj iJ.ak)) m.toNat (by omega))) page Tryz.underlying64) (.cons (dz (aU.outer (d:=(el jA m.toNat)) (ae.el (hv sr (hj iJ.ak)) m.toNat (by omega))) 111 page.toNat) (.cons (aE fun w hw=>xz w (el (el jA m.toNat).outer page.toNat).bg 2) .nil)))) (!(fj (el (el jA m.toNat).outer page.toNat).bg 2)) (fun ac w β na S=>?_) (fun ac w β na S=>?_)
 ·have yq:=cm na
  obtain⟨kY,dO,_,xw⟩:=r7 iJ (fun _ o=>IM o (k:=m.toNat) (show m.toNat<jA.length by omega))
  change ad w0 F _ _ kY (el jA m.toNat).outer (((wK 0).I.2) m.toNat).outer at dO
  have T_:=ae.le dO.ak
  have aqj:=dO.sub
  have abh:ed (el (el jA m.toNat).outer page.toNat):=(ae.el dO.ak page.toNat (by omega))
  refine S.go 10 (.cons (cA (hv sr (hj iJ.ak)) 64 m.toNat 0 (R (el jA m.toNat).outer.length (((wK 0).I.2) m.toNat).outer.1)) (.cons (cq (aU.outer (d:=(el jA m.toNat)) (ae.el (hv sr (hj iJ.ak)) m.toNat (by omega))) page Tryz.underlying64) .nil)) fun ac w β S=>S.fQ (α:=aR) dO (t:=3) (k:=page.toNat) (j:=1) (off:=(((wK 0).I.2) m.toNat).outer.1.off+page.toNat*2+1) (v:=aa 3) (y:=(⟨(el (el jA m.toNat).outer page.toNat).page,3⟩:aR)) (q:=()) (fun _ _ _=>⟨ab,(show ed (⟨(el (el jA m.toNat).outer page.toNat).page,3⟩:aR) from⟨(ed.page (d:=(el (el jA m.toNat).outer page.toNat)) abh),(show a_ 3 from⟨by decide,by decide⟩)⟩),fun _ h=>False.elim h⟩) fun w N s5 n8 S up g_ d54 NK BI=>?_
  clear d54 dO
  obtain⟨nu,eB,ql⟩:=xw _ _ _ _ _ ab up g_ NK (fun b _ h=>False.elim h) List.length_set BI
  obtain⟨kx,AY⟩:∃z,z=jA.set m.toNat {el jA m.toNat with outer:=((el jA m.toNat).outer.set page.toNat (⟨(el (el jA m.toNat).outer page.toNat).page,3⟩:aR))}:=⟨_,rfl⟩
  have eF:ad w0 F w N (Or (Or ei ob) s5) [(⟨bs.mem,kx,bs.buf,bs.ag⟩:ah)] ((cQ.1,nu):aD ah):=by rw [AY];exact eB
  obtain⟨agu,DZ⟩:=CM AY (show m.toNat<jA.length by omega) List.length_set
  change (nu 0).I.1=(wK 0).I.1 at ql
  clear up g_ BI eB
  refine S.go 7 .nil fun ac w β S=>S.uM (d:=64) eF (HI w (⟨bs.mem,kx,bs.buf,bs.ag⟩:ah) ((cQ.1,nu):aD ah) (Or (Or ei ob) s5) (S.fP eF) (fun b hb=>(S.sep b (eF.sub b hb)).1) m page (el (el jA m.toNat).outer page.toNat) (ae.el (aU.outer (d:=(el jA m.toNat)) (ae.el (hv sr (hj iJ.ak)) m.toNat (by omega))) page.toNat (by omega)) (by(first|omega|(dsimp only;omega)))) fun ac w N Vl xj S up rp d70 Tb=>?_
  change (Vl 0).I.1=(nu 0).I.1 at Tb
  clear up d70 eF
  obtain⟨OR,Si⟩:∃z,z=(m7 (⟨bs.mem,kx,bs.buf,bs.ag⟩:ah) m page (el (el jA m.toNat).outer page.toNat)):=⟨_,rfl⟩
  have hJ:ad w0 F w N xj [OR] ((cQ.1,Vl):aD ah):=by rw [Si];exact rp
  clear rp
  have agv:=Kt Si (by first|omega|(dsimp only;omega))
  try dsimp only at agv
  refine S.bo 1 .nil [] fun ac w β S=>?_
  exact uo S (show gp h m page need=OR from KD) (show oE _ _ from(Tb.trans (ql.trans (sr.trans l3)))) hJ
 have adB:=b9 na
 have aot:=qU adB
 refine S.bo 2 .nil [] fun ac w β S=>?_
 exact uo S (show gp h m page need=(⟨bs.mem,jA,bs.buf,bs.ag⟩:ah) from KD) (show oE _ _ from(sr.trans l3)) iJ
theorem Kw {p:Prop} (h:p:=by clear S;(unfold lh;(repeat' split)<;>first|rfl|(exfalso;omega)|(exfalso;simp_all;done)|(exfalso;simp_all;omega)|(simp_all;done))):p:=h
theorem Yx (w0:World) (a:Int) (b:Int):Calls Tryz.prog 342 [aa a,aa b].toArray w0 (fun e w'=>e= .returned (aa (lh a b))/\bB ab w0 w'):=by
 refine Calls.run ab Tryz.func342 ?_
 intro ac β S
 refine S.bd 12 (.cons (aE fun w hw=>Dz w a) .nil) (!(a3 a 0 3)) (fun ac w β h1 S=>?_) (fun ac w β h1 S=>?_)
 ·have an:=cm h1
  have b7:=dn an
  exact S.aq 13 .nil [aa 0] (b4 Kw)
 have b1:=b9 h1
 have dJ:=cV b1
 refine S.bd 6 (.cons (aE fun w hw=>Dz w b) .nil) (!(a3 b 0 3)) (fun ac w β cS S=>?_) (fun ac w β cS S=>?_)
 ·have cE:=cm cS
  have fl:=dn cE
  exact S.aq 7 .nil [aa 0] (b4 Kw)
 have ez:=b9 cS
 have iU:=cV ez
 exact S.aq 12 (.cons (qO (x:=a) (y:=b)) .nil) [aa (jK a b)] (b4 Kw)
theorem EV {p:Prop} (h:p:=by clear S;(unfold hQ;(repeat' split)<;>first|rfl|(exfalso;omega)|(exfalso;simp_all;done)|(exfalso;simp_all;omega)|(simp_all;done))):p:=h
theorem Yz (w0:World) (inner:aR) (outer:List aR) (kk:aD aR) (oG:bQ w0 outer kk):Calls Tryz.prog 314 [GT.val inner (),R outer.length kk.1].toArray w0 (fun e w'=>e= .returned (GT.val (hQ inner outer) ())/\bB ab w0 w'):=by
 refine Calls.run ab Tryz.func314 ?_
 intro ac β S
 have J4:outer.length<=4194304:=ae.le oG
 refine S.aI 33 (.cons (aE fun w hw=>HF w outer kk (bJ (S.arg oG) hw) inner.page) (.cons (aE fun w hw=>Yx w inner.bg (eV outer inner.page).bg) .nil)) (inner.page==(-1)) (fun ac w β h1 a8 S=>?_) (fun ac w β h1 a8 S=>?_)
 ·exact S.aq 18 (.cons (aE fun w hw=>nJ w) .nil) [GT.val (⟨-1,0⟩:aR) ()] (hX (p:=()) EV)
 refine S.aI 5 .nil ((eV outer inner.page).page==(-1)) (fun ac w β aF cC S=>?_) (fun ac w β aF cC S=>?_)
 ·exact S.aq 13 (.cons (aE fun w hw=>nJ w) .nil) [GT.val (⟨-1,0⟩:aR) ()] (hX (p:=()) EV)
 refine S.aI 5 .nil ((lh inner.bg (eV outer inner.page).bg)==0) (fun ac w β bm c6 S=>?_) (fun ac w β bm c6 S=>?_)
 ·exact S.aq 8 (.cons (aE fun w hw=>nJ w) .nil) [GT.val (⟨-1,0⟩:aR) ()] (hX (p:=()) EV)
 exact S.aq 13 (.cons (fY (s:=Instr.build 111 [(0,aa (eV outer inner.page).page),(1,aa (lh inner.bg (eV outer inner.page).bg))].toArray) (v:= .agg [aa (eV outer inner.page).page,aa (lh inner.bg (eV outer inner.page).bg)].toArray) (fun w=>by kernel_rfl)) .nil) [GT.val (⟨(eV outer inner.page).page,(lh inner.bg (eV outer inner.page).bg)⟩:aR) ()] (hX (p:=()) EV)
theorem EW {p:Prop} (h:p:=by clear S;(unfold lk;(repeat' split)<;>first|rfl|(exfalso;omega)|(exfalso;simp_all;done)|(exfalso;simp_all;omega)|(simp_all;done))):p:=h
theorem YD (w0:World) (k:bS) (et:fx) (hk:bQ w0 k et) (inner:List aR) (jh:aD aR) (k5:bQ w0 inner jh) (outer:List aR) (kk:aD aR) (oG:bQ w0 outer kk) (page:Int):Calls Tryz.prog 251 [GT.val k et,R inner.length jh.1,R outer.length kk.1,aa page].toArray w0 (dw ab w0 (lk k inner outer page:bS)):=by
 refine Calls.run ab Tryz.func251 ?_
 intro ac β S
 have q4:k.known.length<=4194304:=ae.le (ey.known (d:=k) hk)
 have q5:k.aZ.length<=4194304:=ae.le (ey.aZ (d:=k) hk)
 have Bg:inner.length<=4194304:=ae.le k5
 have J4:outer.length<=4194304:=ae.le oG
 refine S.go 9 .nil fun ac w β S=>S.cJ (r:=k) (d:=11) (DA w k et (S.rd (S.arg hk))) fun ac w N af br S up aA d4=>?_
 clear up d4
 obtain⟨dU,e7,bL,bF,_,_,d11⟩:=uu aA
 refine S.bd 13 (.cons (aE fun w hw=>js w page (k.known.length:Int) (by omega)) .nil) (a3 page 0 ((k.known.length:Int)-1)) (fun ac w β ec S=>?_) (fun ac w β ec S=>?_)
 ·have hC:=cV ec
  refine S.bd 7 (.cons (aE fun w hw=>js w page (k.aZ.length:Int) (by omega)) .nil) (a3 page 0 ((k.aZ.length:Int)-1)) (fun ac w β ig S=>?_) (fun ac w β ig S=>?_)
  ·have lP:=cV ig
   refine S.bd 7 (.cons (aE fun w hw=>js w page (inner.length:Int) (by omega)) .nil) (a3 page 0 ((inner.length:Int)-1)) (fun ac w β lR S=>?_) (fun ac w β lR S=>?_)
   ·have IU:=cV lR
    refine S.go 7 (.cons (cq bL.ak page Tryz.underlying39) .nil) fun ac w β S=>S.fQ (α:=Bool) bL (t:=4) (k:=page.toNat) (j:=0) (off:=af.known.1.off+page.toNat*1) (v:=B true) (y:=true) (q:=()) (fun _ _ _=>⟨ab,trivial,fun _ h=>False.elim h⟩) fun w N kr c4 S up e1 d21 VZ Fq=>?_
    have d24:=d21 _ (J.symm d11) (fun b _ h=>False.elim h) bF.sub
    replace bF:=bF.bk (J.symm d11) up
    clear up d21 bL Fq
    have Ld:(k.known.set page.toNat true).length=k.known.length:=List.length_set
    replace S:=S.z (σ':=⟨[(1,.v (R inner.length jh.1)),(2,.v (R outer.length kk.1)),(3,.v (aa page)),(8,.p 1 0),(9,.p 2 0),(33,.v (bh af.known.1.b (af.known.1.off+page.toNat*1)))],[GT.cells k et,cg bS,[R k.known.length af.known.1,R k.aZ.length af.aZ.1]]⟩)
    replace S:=S.cast (σ':=⟨[(1,.v (R inner.length jh.1)),(2,.v (R outer.length kk.1)),(3,.v (aa page)),(8,.p 1 0),(9,.p 2 0),(33,.v (bh af.known.1.b (af.known.1.off+page.toNat*1)))],[GT.cells k et,cg bS,[R (k.known.set page.toNat true).length af.known.1,R k.aZ.length af.aZ.1]]⟩) (by rw [show(k.known.set page.toNat true).length=k.known.length by omega])
    refine S.is fun S=>?_
    refine S.go 2 .nil fun ac w β S=>?_
    refine dI ?_
    refine S.dR (f:=11) 10 (by kernel_rfl) (by kernel_rfl) fun w S=>?_
    refine S.hm 3 [0,1,2,3,4,5,6,7] [] [(35,.v (R k.aZ.length af.aZ.1)),(36,.v (aa page)),(40,.v (GT.val (el inner page.toNat) ())),(41,.v (R outer.length kk.1))] (.cons (cq (S.arg k5) page Tryz.underlying64) (.cons (dz (S.arg k5) 111 page.toNat) .nil)) fun ac S=>?_
    refine S.iN 8 [] [(42,.v (GT.val (hQ (el inner page.toNat) outer) ()))] 3 [] (.cons (aE fun w hw=>Yz w (el inner page.toNat) outer kk (bJ (S.arg oG) hw)) .nil) fun ac w β S=>?_
    refine S.a9 9 [9] [] [(43,.v (bh af.aZ.1.b (af.aZ.1.off+page.toNat*2)))] (.cons (cq bF.ak page Tryz.underlying64) .nil) fun ac S=>?_
    refine ar.one (i:=10) (by kernel_rfl) ?_
    have ti:ed (el k.aZ page.toNat):=(ae.el bF.ak page.toNat (by omega))
    refine id (S.zi (α:=aR) bF (t:=111) (k:=page.toNat) (j:=0) (off:=af.aZ.1.off+page.toNat*2) (v:=GT.val (hQ (el inner page.toNat) outer) ()) (y:=(hQ (el inner page.toNat) outer)) (q:=()) (fun _ _ _=>⟨ab,(Qs (S.arg oG) (el inner page.toNat)),fun _ h=>False.elim h⟩) fun w N ob ug S up dT d30 CE wz=>?_)
    refine ar.last (by kernel_rfl) ?_
    have d33:=d30 _ (J.symm d24) (fun b _ h=>False.elim h) e1.sub
    replace e1:=e1.bk (J.symm d24) up
    clear up d30 bF wz
    have ago:(k.aZ.set page.toNat (hQ (el inner page.toNat) outer)).length=k.aZ.length:=List.length_set
    replace S:=S.z (σ':=⟨[(8,.p 1 0),(9,.p 2 0),(42,.v (GT.val (hQ (el inner page.toNat) outer) ())),(43,.v (bh af.aZ.1.b (af.aZ.1.off+page.toNat*2)))],[GT.cells k et,cg bS,[R (k.known.set page.toNat true).length af.known.1,R k.aZ.length af.aZ.1]]⟩)
    replace S:=S.cast (σ':=⟨[(8,.p 1 0),(9,.p 2 0),(42,.v (GT.val (hQ (el inner page.toNat) outer) ())),(43,.v (bh af.aZ.1.b (af.aZ.1.off+page.toNat*2)))],[GT.cells k et,cg bS,[R (k.known.set page.toNat true).length af.known.1,R (k.aZ.set page.toNat (hQ (el inner page.toNat) outer)).length af.aZ.1]]⟩) (by rw [show(k.aZ.set page.toNat (hQ (el inner page.toNat) outer)).length=k.aZ.length by omega])
    refine ar.done (by kernel_rfl) ?_ _
    refine S.ex fun S=>?_
    refine S.bo 8 .nil [GT.val (⟨(k.known.set page.toNat true),(k.aZ.set page.toNat (hQ (el inner page.toNat) outer))⟩:bS) (⟨(af.known.1,c4),(af.aZ.1,ug)⟩:fx)] fun ac w β S=>?_
    have BX:=ma (x:=(⟨(k.known.set page.toNat true),(k.aZ.set page.toNat (hQ (el inner page.toNat) outer))⟩:bS)) (p:=(⟨(af.known.1,c4),(af.aZ.1,ug)⟩:fx)) e1 dT d33
    exact cy S (show lk k inner outer page=(⟨(k.known.set page.toNat true),(k.aZ.set page.toNat (hQ (el inner page.toNat) outer))⟩:bS) from EW) rfl BX
   have pq:=dn lR
   refine S.bo 10 .nil [GT.val k af] fun ac w β S=>?_
   have iJ:=ma (x:=k) (p:=af) bL bF d11
   exact cy S (show lk k inner outer page=k from EW) rfl iJ
  have Rw:=dn ig
  refine S.bo 17 .nil [GT.val k af] fun ac w β S=>?_
  have wF:=ma (x:=k) (p:=af) bL bF d11
  exact cy S (show lk k inner outer page=k from EW) rfl wF
 have Ed:=dn ec
 refine S.bo 24 .nil [GT.val k af] fun ac w β S=>?_
 have qv:=ma (x:=k) (p:=af) bL bF d11
 exact cy S (show lk k inner outer page=k from EW) rfl qv
theorem Ps (w0:World) (b:List aH) (bD:aD aH) (hb:bQ w0 b bD) (tag:Int) (q8:a_ tag) (page:Int) (hG:a_ page):Calls Tryz.prog 190 [R b.length bD.1,aa tag,aa page].toArray w0 (dw ab w0 (cM b tag page:List aH)):=by
 refine Calls.run ab Tryz.func190 ?_
 intro ac β S
 have kG:b.length<=4194304:=ae.le hb
 have ae9:=q8.lo;have aeO:=q8.hi
 have yE:=hG.lo;have yw:=hG.hi
 refine S.go 8 .nil fun ac w β S=>?_
 refine S.Hn 0 tag () q8 fun β N hP br S up aA d4=>?_
 clear up d4
 refine S.Hn 0 page () hG fun β N dQ cT S up ao d8=>?_
 replace aA:=aA.up up
 clear up d8
 refine S.go 3 .nil fun ac w β S=>S.cJ (r:=jE b (fun e=>ic e tag page)) (d:=9) (Y8 w b bD (S.rd (S.arg hb)) tag (dC hP ():aD Int) (S.rd aA.ak) page (dC dQ ():aD Int) (S.rd ao.ak)) fun ac w N eM eh S up bA d13=>?_
 clear up d13
 refine S.bo 4 .nil [R (jE b (fun e=>ic e tag page)).length eM.1] fun ac w β S=>?_
 exact cy S (show cM b tag page=(jE b (fun e=>ic e tag page)) by clear S;rfl) rfl bA
theorem PC (w0:World) (b:List aH) (bD:aD aH) (hb:bQ w0 b bD) (e:aH) (he:fi e) (fC:b.length<=6):Calls Tryz.prog 252 [R b.length bD.1,GT.val e ()].toArray w0 (dw ab w0 (dF b e:List aH)):=by
 refine Calls.run ab Tryz.func252 ?_
 intro ac β S
 have hfl:(cM b e.tag e.page).length<=b.length:=w5 _ _
 have aeK:(cM b e.tag e.page++[e]).length=(cM b e.tag e.page).length+1:=by simp
 have kG:b.length<=4194304:=ae.le hb
 refine S.go 7 .nil fun ac w β S=>?_
 refine dI ?_
 let bH:b3:=⟨[(0,.v (R b.length bD.1)),(3,.p 0 0)],[GT.cells e ()]⟩
 obtain⟨bw,bt,bP,S⟩:∃bw bt bP,aj Tryz.prog Tryz.f252.ntmps w0 ab bw bt bP bH ac w:=⟨_,_,_,S.z⟩
 refine me (fun ac w=>∃iL lb u N β,aj Tryz.prog Tryz.f252.ntmps w0 ab u N β (bH.dl [0,3] [(5,.v (R ((cM b e.tag e.page)++[e]).length iL.1))] 0 []) ac w/\ad w0 ab u N lb ((cM b e.tag e.page)++[e]) iL) ?_ ?_
 ·refine S.dR (f:=10) 10 (by kernel_rfl) (by kernel_rfl) fun w S=>?_
  refine S.a9 0 [] [] [(6,.v (R b.length bD.1))] .nil fun ac S=>?_
  refine S.a9 1 [] [] [(7,.p 0 0)] .nil fun ac S=>?_
  refine S.a9 2 [] [] [(8,.v (aa e.tag))] .nil fun ac S=>?_
  refine S.a9 3 [] [] [(9,.p 0 1)] .nil fun ac S=>?_
  refine S.a9 4 [] [] [(10,.v (aa e.page))] .nil fun ac S=>?_
  refine S.a9 6 [] [] [(12,.v (GT.val e ()))] .nil fun ac S=>?_
  refine ar.mH fun W aG=>?_
  refine ar.mj (l':=cp 10 [0,1,2,3,4,6]) (by kernel_rfl) ?_
  have Jp ac w iL lb u N β (S:aj Tryz.prog Tryz.f252.ntmps w0 ab u N β (bH.dl [0,3] [(5,.v (R ((cM b e.tag e.page)++[e]).length iL.1))] 1 []) ac w) (e3:ad w0 ab u N lb ((cM b e.tag e.page)++[e]) iL) (al:d_ bt bw N u) (aP:cR bH.aM.length bP β):W 0 (cp 10 [0,1,2,3,4,5,6,7,8,9]) ac w:=by
   exact mL aG ⟨rfl,iL,lb,_,_,_,S.z,e3⟩
  have AT ac w b0 bV cv cD u N β (S:aj Tryz.prog Tryz.f252.ntmps w0 ab u N β (bH.dl [0,3] [(11,.v (R (cM b e.tag e.page).length b0.1)),(13,.v (R 1 cv.1))] 1 []) ac w) (ao:ad w0 ab u N bV (cM b e.tag e.page) b0) (ba:ad w0 ab u N cD ([e]) cv) (d41:J bV cD) (al:∀b,bt b->N b/\u.heap[b]? =bw.heap[b]? /\¬bV b) (aP:cR bH.aM.length bP β):W 2 (cp 10 [0,1,2,3,4,5,6,7]) ac w:=by
   refine eo aG 8 ?_
   refine id (S.Dj (α:=aH) ao ba.ak (fun _ _ h=>h) (by':=32) (d:=14) (lx:=(cM b e.tag e.page).length) (ly:=1) rfl rfl (by kernel_rfl) (show _<=4194304 by simp only [List.length_append,List.length_cons,List.length_nil];omega) fun ac w N nB zB S up qw d45=>?_)
   have A3:=fun b h=>(⟨(up b (al b h).1 (al b h).2.2).1,(up b (al b h).1 (al b h).2.2).2.trans (al b h).2.1⟩:_/\_)
   refine ar.de S A3 aP fun bj=>?_
   replace ba:=ba.bk (J.symm d41) up
   clear up d45
   exact S.cX aG [9] bj fun _ S=>Jp _ _ nB zB _ _ _ S qw A3 aP
  have Ju ac w b0 bV u N β (S:aj Tryz.prog Tryz.f252.ntmps w0 ab u N β (bH.dl [0,3] [(11,.v (R (cM b e.tag e.page).length b0.1)),(12,.v (GT.val e ()))] 1 []) ac w) (ao:ad w0 ab u N bV (cM b e.tag e.page) b0) (al:∀b,bt b->N b/\u.heap[b]? =bw.heap[b]? /\¬bV b) (aP:cR bH.aM.length bP β):W 3 (cp 10 [0,1,2,3,4,5,6]) ac w:=by
   refine eo aG 7 ?_
   refine id (S.p2 (α:=aH) (x:=e) (p:=()) (F:=ab) he (fun b h=>False.elim h) (fun b h=>False.elim h) (d:=13) (by kernel_rfl) fun ac w N Cj qK S up g_ d52=>?_)
   have vW:=fun b h=>(⟨(up b (al b h).1).1,(up b (al b h).1).2.trans (al b h).2.1,(al b h).2.2⟩:_/\_/\_)
   refine ar.de S (fun b h=>⟨(vW b h).1,(vW b h).2.1⟩) aP fun bj=>?_
   have d54:=d52 _ (fun b _ h=>False.elim h) ao.sub
   replace ao:=ao.up up
   clear up d52
   exact S.cX aG [] bj fun _ S=>AT _ _ b0 bV Cj qK _ _ _ S ao g_ d54 vW aP
  have AW ac w cv cD u N β (S:aj Tryz.prog Tryz.f252.ntmps w0 ab u N β (bH.dl [0,3] [(6,.v (R b.length bD.1)),(8,.v (aa e.tag)),(10,.v (aa e.page)),(13,.v (R 1 cv.1))] 1 []) ac w) (ba:ad w0 ab u N cD ([e]) cv) (al:d_ bt bw N u) (aP:cR bH.aM.length bP β):W 3 (cp 10 [0,1,2,3,4,6,7]) ac w:=by
   refine eo aG 5 ?_
   refine id (S.dB 11 (Ps w b bD (S.rd (S.arg hb)) e.tag (fi.tag (d:=e) he) e.page (fi.page (d:=e) he)) fun ac w N Nj xi S up eB d59=>?_)
   have vX:=fun b h=>(⟨(up b (al b h).1).1,(up b (al b h).1).2.trans (al b h).2,d59 b (al b h).1⟩:_/\_/\_)
   refine ar.de S (fun b h=>⟨(vX b h).1,(vX b h).2.1⟩) aP fun bj=>?_
   have d61:=J.w d59 ba.sub
   replace ba:=ba.up up
   clear up d59
   exact S.cX aG [] bj fun _ S=>AT _ _ Nj xi cv cD _ _ _ S eB ba (J.symm d61) vX aP
  have al:d_ bt bw bt bw:=fun b h=>⟨h,rfl⟩
  have aP:cR bH.aM.length bP bP:=fun _ _=>rfl
  refine gA aG 5 7 ?_ ?_
  ·refine id (S.dB 11 (Ps w b bD (S.rd (S.arg hb)) e.tag (fi.tag (d:=e) he) e.page (fi.page (d:=e) he)) fun ac w N Nl Dd S up B5 d65=>?_)
   have vY:=fun b h=>(⟨(up b (al b h).1).1,(up b (al b h).1).2.trans (al b h).2,d65 b (al b h).1⟩:_/\_/\_)
   refine ar.de S (fun b h=>⟨(vY b h).1,(vY b h).2.1⟩) aP fun bj=>?_
   clear up d65
   exact S.cX aG [] bj fun _ S=>Ju _ _ Nl Dd _ _ _ S B5 vY aP
  ·refine id (S.p2 (α:=aH) (x:=e) (p:=()) (F:=ab) he (fun b h=>False.elim h) (fun b h=>False.elim h) (d:=13) (by kernel_rfl) fun ac w N Nn xk S up j4 d70=>?_)
   have A7:=fun b h=>(⟨(up b (al b h).1).1,(up b (al b h).1).2.trans (al b h).2⟩:_/\_)
   refine ar.de S A7 aP fun bj=>?_
   clear up d70
   exact S.cX aG [] bj fun _ S=>AW _ _ Nn xk _ _ _ S j4 A7 aP
 clear S
 rintro ac w ⟨iL,lb,u,N,β,S,e3⟩
 refine S.ex fun S=>?_
 refine S.go 8 (.cons (hf (((cM b e.tag e.page)++[e]).length:Int) 6) .nil) fun ac w β S=>?_
 replace S:=S.z (σ':=⟨[(15,.v (R ((cM b e.tag e.page)++[e]).length iL.1)),(19,.v (aa (if((((cM b e.tag e.page)++[e]).length:Int)-6)>0 then((((cM b e.tag e.page)++[e]).length:Int)-6) else 0)))],[]⟩)
 replace S:=S.cast (σ':=⟨[(15,.v (R ((cM b e.tag e.page)++[e]).length iL.1)),(19,.v (aa (((cM b e.tag e.page++[e]).length-6:Nat):Int)))],[]⟩) (by rw [show(((cM b e.tag e.page++[e]).length-6:Nat):Int)=(if((((cM b e.tag e.page)++[e]).length:Int)-6)>0 then((((cM b e.tag e.page)++[e]).length:Int)-6) else 0) by(repeat' split)<;>omega])
 have ap9:((((cM b e.tag e.page)++[e]).drop ((cM b e.tag e.page++[e]).length-6)).take (((cM b e.tag e.page)++[e]).length-((cM b e.tag e.page++[e]).length-6))).length=((cM b e.tag e.page)++[e]).length-((cM b e.tag e.page++[e]).length-6):=by first|(simp;done)|(simp;omega)
 refine S.is fun S=>?_
 refine S.bo 5 (.cons (Hq e3.ak (l:=((cM b e.tag e.page)++[e]).length) (a:=((cM b e.tag e.page++[e]).length-6)) (b:=((cM b e.tag e.page)++[e]).length) rfl (.inr rfl) (.inl ⟨rfl,rfl⟩) (by omega) (by omega) Tryz.underlying29 (by kernel_rfl)) .nil) [R (((cM b e.tag e.page)++[e]).length-((cM b e.tag e.page++[e]).length-6):Nat) (iL.1.c_ ((cM b e.tag e.page++[e]).length-6) 4)] fun ac w β S=>?_
 have hJ:ad w0 ab _ _ lb ((((cM b e.tag e.page)++[e]).drop ((cM b e.tag e.page++[e]).length-6)).take (((cM b e.tag e.page)++[e]).length-((cM b e.tag e.page++[e]).length-6))) (iL.1.c_ ((cM b e.tag e.page++[e]).length-6) 4,fun i=>iL.2 (((cM b e.tag e.page++[e]).length-6)+i)):=ad.c_ e3 (a:=((cM b e.tag e.page++[e]).length-6)) (b:=((cM b e.tag e.page)++[e]).length) (by omega) (by omega)
 exact cy S (show dF b e=((((cM b e.tag e.page)++[e]).drop ((cM b e.tag e.page++[e]).length-6)).take (((cM b e.tag e.page)++[e]).length-((cM b e.tag e.page++[e]).length-6))) by clear S;(first|exact put_eq (by omega)|exact MH (by omega))) (show R (((cM b e.tag e.page)++[e]).length-((cM b e.tag e.page++[e]).length-6):Nat) (iL.1.c_ ((cM b e.tag e.page++[e]).length-6) 4)=GT.val ((((cM b e.tag e.page)++[e]).drop ((cM b e.tag e.page++[e]).length-6)).take (((cM b e.tag e.page)++[e]).length-((cM b e.tag e.page++[e]).length-6))) ((iL.1.c_ ((cM b e.tag e.page++[e]).length-6) 4,fun i=>iL.2 (((cM b e.tag e.page++[e]).length-6)+i)):aD aH) from congrArg (fun z=>R z (iL.1.c_ ((cM b e.tag e.page++[e]).length-6) 4)) (show(((cM b e.tag e.page)++[e]).length-((cM b e.tag e.page++[e]).length-6):Nat)=((((cM b e.tag e.page)++[e]).drop ((cM b e.tag e.page++[e]).length-6)).take (((cM b e.tag e.page)++[e]).length-((cM b e.tag e.page++[e]).length-6))).length by omega)) hJ
theorem ng {p:Prop} (h:p:=by clear S;(first|(rw [agF (by assumption)];done)|(rw [agG (by assumption) (by assumption)];done)|(rw [Lf (by assumption) (by assumption) (by omega) (by omega) (by assumption) lV,Ud (by assumption)];first|done|rfl)|(rw [Lf (by assumption) (by assumption) (by omega) (by omega) (by assumption) lV,Ue (by assumption) (by assumption)];first|done|rfl)|(rw [Lf (by assumption) (by assumption) (by omega) (by omega) (by assumption) lV,Uf (by assumption) (by assumption) (by assumption) (by assumption)];first|done|rfl))):p:=h
theorem Y3 (w0:World) (h:ah) (ai:b_) (aX:bQ w0 h ai) (m:Int) (g:Int) (page:Int) (hG:a_ page) (need:Int) (io:Bool) (fC:io=false):Calls Tryz.prog 135 [GT.val h ai,aa m,aa g,aa page,aa need,B io].toArray w0 (zG ab w0 ((cN h m g page need io).1:ah) ((cN h m g page need io).2.1:Int) ((cN h m g page need io).2.2:Bool)):=by
 refine Calls.run ab Tryz.func135 ?_
 intro ac β S
 have J6:io=false:=by assumption
 subst J6
 have lZ:h.mem.length<=4194304:=ae.le (bu.mem (d:=h) aX)
 have l0:h.I.length<=4194304:=ae.le (bu.I (d:=h) aX)
 have lX:h.buf.length<=4194304:=ae.le (bu.buf (d:=h) aX)
 have lY:h.ag.length<=4194304:=ae.le (bu.ag (d:=h) aX)
 have yE:=hG.lo;have yw:=hG.hi
 refine S.go 11 .nil fun ac w β S=>S.cJ (r:=h) (d:=28) (HH w h ai (S.rd (S.arg aX))) fun ac w N af br S up aA d4=>?_
 clear up d4
 refine S.go 5 .nil fun ac w β S=>?_
 refine S.W8 2 aA fun β N dQ cT S up ao d8=>?_
 clear up d8 aA
 refine S.go 3 .nil fun ac w β S=>S.qN (r:=(aK h m).1) (r':=(aK h m).2) (d:=32) (HB w h ai (S.rd (S.arg aX)) m) fun ac w N wO eM eh C4 S up jM c3 d15 d16 d17=>?_
 replace ao:=ao.up up
 clear up d15
 clear d16
 refine S.go 10 .nil fun ac w β S=>?_
 refine S.p5 ⟨[(1,.v (aa m)),(2,.v (aa g)),(3,.v (aa page)),(4,.v (aa need)),(5,.v (B false)),(12,.p 1 0),(15,.v (bh (dC dQ af:aD ah).1.b ((dC dQ af:aD ah).1.off+0*4))),(16,.p 2 0),(57,.v (B ((((!(eJ h))||(!(aK h m).2))||(!(a3 g 0 (((aK h m).1.U.length:Int)-1))))||((need != 1)&&(need != 2)))))],[GT.cells h ai,cg ah,GT.cells (aK h m).1 wO]⟩ ?_ ?_
 ·clear S;intro S
  refine S.bd 5 (.cons (aE fun w hw=>Pw w h ai (bJ (S.arg aX) hw)) .nil) (!(eJ h)) (fun ac w β hp S=>?_) (fun ac w β hp S=>?_)
  ·have lp:=cm hp
   exact S.dG 20 .nil fun ac w β S=>⟨rfl,_,by rw [hp];exact S.z⟩
  have pr:=b9 hp
  have tv:=sq pr
  refine S.bd 4 .nil (!(aK h m).2) (fun ac w β gR S=>?_) (fun ac w β gR S=>?_)
  ·have yo:=cm gR
   exact S.dG 16 .nil fun ac w β S=>⟨rfl,_,by rw [hp,gR];exact S.z⟩
  have gS:=b9 gR
  have tw:=wv gS
  refine S.bd 8 (.cons (aE fun w hw=>js w g ((aK h m).1.U.length:Int) (by omega)) .nil) (!(a3 g 0 (((aK h m).1.U.length:Int)-1))) (fun ac w β hD S=>?_) (fun ac w β hD S=>?_)
  ·have jf:=cm hD
   have nW:=dn jf
   exact S.dG 8 .nil fun ac w β S=>⟨rfl,_,by rw [hp,gR,hD];exact S.z⟩
  have lT:=b9 hD
  have vf:=cV lT
  refine S.aI 3 .nil (need != 1) (fun ac w β m_ r8 S=>?_) (fun ac w β m_ r8 S=>?_)
  ·exact S.dG 5 .nil fun ac w β S=>⟨rfl,_,by rw [hp,gR,hD,m_];exact S.z⟩
  exact S.dG 5 .nil fun ac w β S=>⟨rfl,_,by rw [hp,gR,hD,m_];exact S.z⟩
 clear S;intro ac w β S
 refine S.bd 1 .nil ((((!(eJ h))||(!(aK h m).2))||(!(a3 g 0 (((aK h m).1.U.length:Int)-1))))||((need != 1)&&(need != 2))) (fun ac w β kD S=>?_) (fun ac w β kD S=>?_)
 ·refine S.bo 10 (.cons (rP ao.ak (t:=31) (k:=0) (Nat.succ_pos 0) rfl (by kernel_rfl) (by kernel_rfl)) .nil) [GT.val h ((dC dQ af:aD ah).2 0),aa (-1),B false] fun ac w β S=>?_
  obtain⟨C9,iJ,_,_⟩:=vc ao (k:=0) (Nat.succ_pos 0)
  change ad w0 ab _ _ C9 h ((dC dQ af:aD ah).2 0) at iJ
  exact y_ (p':=()) (p'':=()) S (show(cN h m g page need false).1=h from ng) (show(cN h m g page need false).2.1=(-1) from ng) (show(cN h m g page need false).2.2=false from ng) rfl rfl rfl iJ (show a_ (-1) from⟨by decide,by decide⟩) trivial
 obtain⟨q1,lU⟩:=n4 kD
 obtain⟨pt,na⟩:=n4 q1
 obtain⟨yq,Ax⟩:=n4 pt
 have qg:=b9 yq
 have IX:=sq qg
 have r_:=b9 Ax
 have Ee:=wv r_
 have Ej:=b9 na
 have Ef:=cV Ej
 have Ry:=UD lU
 refine S.bd 28 (.cons (cq (aU.U (d:=(aK h m).1) jM.ak) g Tryz.underlying71) (.cons (cA (aU.U (d:=(aK h m).1) jM.ak) 64 g.toNat 4 (R (el (aK h m).1.U g.toNat).live.length (wO.U.2 g.toNat).live.1)) (.cons (aE fun w hw=>PH w (el (aK h m).1.U g.toNat).live (wO.U.2 g.toNat).live (bJ (az.live (d:=(el (aK h m).1.U g.toNat)) (ae.el (aU.U (d:=(aK h m).1) jM.ak) g.toNat (by omega))) hw) page need) .nil))) (!(cW (el (aK h m).1.U g.toNat).live page need).2) (fun ac w β sa S=>?_) (fun ac w β sa S=>?_)
 ·have Jg:=cm sa
  refine S.bo 10 (.cons (rP ao.ak (t:=31) (k:=0) (Nat.succ_pos 0) rfl (by kernel_rfl) (by kernel_rfl)) .nil) [GT.val h ((dC dQ af:aD ah).2 0),aa (-1),B false] fun ac w β S=>?_
  obtain⟨nE,y0,_,_⟩:=vc ao (k:=0) (Nat.succ_pos 0)
  change ad w0 ab _ _ nE h ((dC dQ af:aD ah).2 0) at y0
  exact y_ (p':=()) (p'':=()) S (show(cN h m g page need false).1=h from ng) (show(cN h m g page need false).2.1=(-1) from ng) (show(cN h m g page need false).2.2=false from ng) rfl rfl rfl y0 (show a_ (-1) from⟨by decide,by decide⟩) trivial
 have AA:=b9 sa
 have tx:=GA AA
 refine S.go 10 .nil fun ac w β S=>?_
 refine iw S (fun ac w=>∃(aL:ah) (fX:Nat->b_) (qM:au) (u:_) (N:_) (β:_),(aL=kd h m (cW (el (aK h m).1.U g.toNat).live page need).1 need)/\(fX 0).I.1=af.I.1/\aj Tryz.prog Tryz.f135.ntmps w0 ab u N β ⟨[(1,.v (aa m)),(2,.v (aa g)),(3,.v (aa page)),(4,.v (aa need)),(5,.v (B false)),(12,.p 1 0),(15,.v (bh ((dC dQ af:aD ah).1).b (((dC dQ af:aD ah).1).off+0*4))),(18,.v (aa (cW (el (aK h m).1.U g.toNat).live page need).1))],[GT.cells h ai,cg ah]⟩ ac w/\ad w0 ab u N qM ([aL]) (((dC dQ af:aD ah).1,fX):aD ah)) ?_ ?_
 ·clear S;intro S
  refine S.aI 0 .nil (need==2) (fun ac w β oB I0 S=>?_) (fun ac w β oB I0 S=>?_)
  ·obtain⟨s6,ha,_,X3⟩:=r7 ao (fun _ o=>Ri o (k:=m.toNat) (show m.toNat<h.I.length by omega))
   change ad w0 ab _ _ s6 (el h.I m.toNat).aT (((dC dQ af:aD ah).2 0).I.2 m.toNat).aT at ha
   have ap7:=ae.le ha.ak
   have aqk:=ha.sub
   refine S.go 10 (.cons (iS ao.ak (t:=28) (k:=0) (j:=1) (v:=R h.I.length ((dC dQ af:aD ah).2 0).I.1) (Nat.succ_pos 0) (by kernel_rfl) (by kernel_rfl)) (.cons (cq (fB ao.ak) m Tryz.underlying28) (.cons (cA (fB ao.ak) 39 m.toNat 2 (R (el h.I m.toNat).aT.length (((dC dQ af:aD ah).2 0).I.2 m.toNat).aT.1)) (.cons (eP (aU.aT (d:=(el h.I m.toNat)) (ae.el (fB ao.ak) m.toNat (by omega))) (l:=(el h.I m.toNat).aT.length) (k:=(cW (el (aK h m).1.U g.toNat).live page need).1.toNat) (i:=(cW (el (aK h m).1.U g.toNat).live page need).1) rfl (by omega) (by omega) Tryz.underlying39 (by kernel_rfl)) .nil)))) fun ac w β S=>S.fQ (α:=Bool) ha (t:=4) (k:=(cW (el (aK h m).1.U g.toNat).live page need).1.toNat) (j:=0) (off:=(((dC dQ af:aD ah).2 0).I.2 m.toNat).aT.1.off+(cW (el (aK h m).1.U g.toNat).live page need).1.toNat*1) (v:=B true) (y:=true) (q:=()) (fun _ _ _=>⟨ab,trivial,fun _ h=>False.elim h⟩) fun w N o2 VM S up pI d74 aki Uy=>?_
   clear d74 ha
   obtain⟨MG,l9,Tc⟩:=X3 _ _ _ _ _ ab up pI aki (fun b _ h=>False.elim h) List.length_set Uy
   obtain⟨OM,Sa⟩:∃z,z=h.I.set m.toNat {el h.I m.toNat with aT:=((el h.I m.toNat).aT.set (cW (el (aK h m).1.U g.toNat).live page need).1.toNat true)}:=⟨_,rfl⟩
   have n3:ad w0 ab w N (Or cT o2) [(⟨h.mem,OM,h.buf,h.ag⟩:ah)] (((dC dQ af:aD ah).1,MG):aD ah):=by rw [Sa];exact l9
   obtain⟨Ub,anr⟩:=Gm Sa (show m.toNat<h.I.length by omega) List.length_set
   change (MG 0).I.1=((dC dQ af:aD ah).2 0).I.1 at Tc
   clear up pI Uy l9
   exact S.dG 1 .nil fun ac w β S=>⟨rfl,(⟨h.mem,OM,h.buf,h.ag⟩:ah),MG,(Or cT o2),_,_,_,(by clear S;first|exact Is (by assumption) (by assumption)|exact Ir (by assumption)),Tc,S.z,n3⟩
  exact S.dG 2 .nil fun ac w β S=>⟨rfl,h,(dC dQ af:aD ah).2,cT,_,_,_,(by clear S;first|exact Is (by assumption) (by assumption)|exact Ir (by assumption)),rfl,S.z,ao⟩
 clear S ao jM c3
 rintro ac w ⟨aL,fX,qM,u,N,β,lV,ape,S,eF⟩
 have bp:=Ai lV (GA (by assumption)).1
 refine S.ex fun S=>?_
 have i86:fi (dt aL.buf (bR m g) page).1:=(Rf (DP eF.ak) (bR m g) page)
 refine S.go 42 (.cons (aE fun w hw=>YW w m g) (.cons (iS eF.ak (t:=29) (k:=0) (j:=2) (v:=R aL.buf.length (fX 0).buf.1) (Nat.succ_pos 0) (by kernel_rfl) (by kernel_rfl)) (.cons (aE fun w hw=>YE w aL.buf (fX 0).buf (bJ (DP eF.ak) hw) (bR m g) page) .nil))) fun ac w β S=>?_
 refine S.p5 ⟨[(1,.v (aa m)),(2,.v (aa g)),(3,.v (aa page)),(4,.v (aa need)),(12,.p 1 0),(15,.v (bh ((dC dQ af:aD ah).1).b (((dC dQ af:aD ah).1).off+0*4))),(18,.v (aa (cW (el (aK h m).1.U g.toNat).live page need).1)),(20,.v (bh ((dC dQ af:aD ah).1).b (((dC dQ af:aD ah).1).off+0*4+2))),(21,.v (aa (bR m g))),(22,.p 2 0),(105,.v (B ((dt aL.buf (bR m g) page).2&&(fj (dt aL.buf (bR m g) page).1.bg need))))],[GT.cells h ai,cg ah,GT.cells (dt aL.buf (bR m g) page).1 ()]⟩ ?_ ?_
 ·clear S;intro S
  refine S.bd 3 .nil (dt aL.buf (bR m g) page).2 (fun ac w β Ji S=>?_) (fun ac w β Ji S=>?_)
  ·exact S.dG 6 (.cons (aE fun w hw=>xz w (dt aL.buf (bR m g) page).1.bg need) .nil) fun ac w β S=>⟨rfl,_,by rw [Ji];exact S.z⟩
  exact S.dG 6 .nil fun ac w β S=>⟨rfl,_,by rw [Ji];exact S.z⟩
 clear S;intro ac w β S
 refine S.bd 1 .nil ((dt aL.buf (bR m g) page).2&&(fj (dt aL.buf (bR m g) page).1.bg need)) (fun ac w β RJ S=>?_) (fun ac w β RJ S=>?_)
 ·obtain⟨aoE,adE⟩:=OT RJ
  have aou:=qU adE
  refine S.go 2 .nil fun ac w β S=>?_
  refine dI ?_
  let uF:b3:=⟨[(1,.v (aa m)),(2,.v (aa g)),(3,.v (aa page)),(4,.v (aa need)),(12,.p 1 0),(15,.v (bh ((dC dQ af:aD ah).1).b (((dC dQ af:aD ah).1).off+0*4))),(18,.v (aa (cW (el (aK h m).1.U g.toNat).live page need).1)),(20,.v (bh ((dC dQ af:aD ah).1).b (((dC dQ af:aD ah).1).off+0*4+2))),(21,.v (aa (bR m g))),(22,.p 2 0),(105,.v (B true))],[GT.cells h ai,cg ah,GT.cells (dt aL.buf (bR m g) page).1 ()]⟩
  obtain⟨bw,bt,bP,S,eF⟩:∃bw bt bP,aj Tryz.prog Tryz.f135.ntmps w0 ab bw bt bP uF ac w/\ad w0 ab bw bt qM ([aL]) (((dC dQ af:aD ah).1,fX):aD ah):=⟨_,_,_,S.z,eF⟩
  refine me (fun ac w=>∃u N β,aj Tryz.prog Tryz.f135.ntmps w0 ab u N β (uF.dl [1,2,3,4,15,18,20,21,22,105] [(13,.v (aa (dt aL.buf (bR m g) page).1.host)),(14,.v (B true))] 2 [(1,[R aL.mem.length (fX 0).mem.1,R aL.I.length (fX 0).I.1,R aL.buf.length (fX 0).buf.1,R aL.ag.length (fX 0).ag.1])]) ac w/\ad w0 ab u N qM ([aL]) (((dC dQ af:aD ah).1,fX):aD ah)/\fi (dt aL.buf (bR m g) page).1) ?_ ?_
  ·refine S.dR (f:=6) 3 (by kernel_rfl) (by kernel_rfl) fun w S=>?_
   refine S.a9 0 [0] [] [(106,.v (GT.val aL (fX 0)))] (.cons (rP eF.ak (t:=31) (k:=0) (Nat.succ_pos 0) rfl (by kernel_rfl) (by kernel_rfl)) .nil) fun ac S=>?_
   refine ar.mH fun W aG=>?_
   refine ar.mj (l':=cp 6 [0]) (by kernel_rfl) ?_
   have RV ac w u N β (S:aj Tryz.prog Tryz.f135.ntmps w0 ab u N β (uF.dl [1,2,3,4,15,18,20,21,22,105] [(13,.v (aa (dt aL.buf (bR m g) page).1.host)),(14,.v (B true))] 3 [(1,[R aL.mem.length (fX 0).mem.1,R aL.I.length (fX 0).I.1,R aL.buf.length (fX 0).buf.1,R aL.ag.length (fX 0).ag.1])]) ac w) (eF:ad w0 ab u N qM ([aL]) (((dC dQ af:aD ah).1,fX):aD ah)) (i93:fi (dt aL.buf (bR m g) page).1):W 0 (cp 6 [0,1,2,3,4,5]) ac w:=by
    exact mL aG ⟨rfl,_,_,_,S.z,eF,i93⟩
   have aej ac w u N β (S:aj Tryz.prog Tryz.f135.ntmps w0 ab u N β (uF.dl [1,2,3,4,15,18,20,21,22,105] [(106,.v (GT.val aL (fX 0))),(108,.v (aa (dt aL.buf (bR m g) page).1.host))] 3 []) ac w) (eF:ad w0 ab u N qM ([aL]) (((dC dQ af:aD ah).1,fX):aD ah)) (i93:fi (dt aL.buf (bR m g) page).1) (al:d_ bt bw N u) (aP:cR uF.aM.length bP β):W 3 (cp 6 [0,1,2]) ac w:=by
    exact eo aG 3 (S.wl aG [4,5] .nil fun _ _ _ S=>RV _ _ _ _ _ S eF i93)
   have En ac w u N β (S:aj Tryz.prog Tryz.f135.ntmps w0 ab u N β (uF.dl [1,2,3,4,15,18,20,21,22,105] [(107,.p 2 2)] 3 [(1,[R aL.mem.length (fX 0).mem.1,R aL.I.length (fX 0).I.1,R aL.buf.length (fX 0).buf.1,R aL.ag.length (fX 0).ag.1])]) ac w) (eF:ad w0 ab u N qM ([aL]) (((dC dQ af:aD ah).1,fX):aD ah)) (i93:fi (dt aL.buf (bR m g) page).1):W 3 (cp 6 [0,1,3]) ac w:=by
    exact eo aG 2 (S.wl aG [4,5] .nil fun _ _ _ S=>RV _ _ _ _ _ S eF i93)
   have aek ac w u N β (S:aj Tryz.prog Tryz.f135.ntmps w0 ab u N β (uF.dl [1,2,3,4,15,18,20,21,22,105] [(106,.v (GT.val aL (fX 0))),(107,.p 2 2)] 3 []) ac w) (eF:ad w0 ab u N qM ([aL]) (((dC dQ af:aD ah).1,fX):aD ah)) (al:d_ bt bw N u) (aP:cR uF.aM.length bP β):W 4 (cp 6 [0,1]) ac w:=by
    exact gA aG 2 3 (S.e_ aG al aP [] .nil fun _ _ _ S cb=>aej _ _ _ _ _ S eF i86 al cb) (S.wl aG [] .nil fun _ _ _ S=>En _ _ _ _ _ S eF i86)
   rw [aG]
   exact S.cX aG [1] (fun _=>S.um) fun _ S=>aek _ _ _ _ _ S eF (fun _ h=>⟨h,rfl⟩) (fun _ _=>rfl)
  clear S eF
  rintro ac w ⟨u,N,β,S,eF,i93⟩
  refine S.ex fun S=>?_
  refine S.bo 2 .nil [GT.val aL (fX 0),aa (dt aL.buf (bR m g) page).1.host,B true] fun ac w β S=>?_
  obtain⟨gg,mK,_,_⟩:=vc eF (k:=0) (Nat.succ_pos 0)
  change ad w0 ab _ _ gg aL (fX 0) at mK
  exact y_ (p':=()) (p'':=()) S (show(cN h m g page need false).1=aL from ng) (show(cN h m g page need false).2.1=(dt aL.buf (bR m g) page).1.host from ng) (show(cN h m g page need false).2.2=true from ng) rfl rfl rfl mK (fi.host (d:=(dt aL.buf (bR m g) page).1) i93) trivial
 have i101:ed (aV (el (el aL.I m.toNat).tables g.toNat) page).1:=(Dl (ae.el (aU.tables (d:=(el aL.I m.toNat)) (ae.el (fB eF.ak) m.toNat (by omega))) g.toNat (by omega)) page)
 refine S.go 26 (.cons (iS eF.ak (t:=28) (k:=0) (j:=1) (v:=R aL.I.length (fX 0).I.1) (Nat.succ_pos 0) (by kernel_rfl) (by kernel_rfl)) (.cons (cq (fB eF.ak) m Tryz.underlying28) (.cons (cA (fB eF.ak) 72 m.toNat 7 (R (el aL.I m.toNat).tables.length ((fX 0).I.2 m.toNat).tables.1)) (.cons (cq (aU.tables (d:=(el aL.I m.toNat)) (ae.el (fB eF.ak) m.toNat (by omega))) g Tryz.underlying72) (.cons (dz (aU.tables (d:=(el aL.I m.toNat)) (ae.el (fB eF.ak) m.toNat (by omega))) 165 g.toNat) (.cons (aE fun w hw=>Pm w (el (el aL.I m.toNat).tables g.toNat) (((fX 0).I.2 m.toNat).tables.2 g.toNat) (bJ (ae.el (aU.tables (d:=(el aL.I m.toNat)) (ae.el (fB eF.ak) m.toNat (by omega))) g.toNat (by omega)) hw) page) .nil)))))) fun ac w β S=>?_
 refine S.p5 ⟨[(1,.v (aa m)),(2,.v (aa g)),(3,.v (aa page)),(4,.v (aa need)),(12,.p 1 0),(15,.v (bh ((dC dQ af:aD ah).1).b (((dC dQ af:aD ah).1).off+0*4))),(18,.v (aa (cW (el (aK h m).1.U g.toNat).live page need).1)),(20,.v (bh ((dC dQ af:aD ah).1).b (((dC dQ af:aD ah).1).off+0*4+2))),(21,.v (aa (bR m g))),(24,.p 3 0),(136,.v (B (((!(aV (el (el aL.I m.toNat).tables g.toNat) page).2)||((aV (el (el aL.I m.toNat).tables g.toNat) page).1.page==(-1)))||(!(fj (aV (el (el aL.I m.toNat).tables g.toNat) page).1.bg need)))))],[GT.cells h ai,cg ah,GT.cells (dt aL.buf (bR m g) page).1 (),GT.cells (aV (el (el aL.I m.toNat).tables g.toNat) page).1 ()]⟩ ?_ ?_
 ·clear S;intro S
  refine S.bd 4 .nil (!(aV (el (el aL.I m.toNat).tables g.toNat) page).2) (fun ac w β ym S=>?_) (fun ac w β ym S=>?_)
  ·have aov:=cm ym
   exact S.dG 12 .nil fun ac w β S=>⟨rfl,_,by rw [ym];exact S.z⟩
  have aow:=b9 ym
  refine S.aI 5 .nil ((aV (el (el aL.I m.toNat).tables g.toNat) page).1.page==(-1)) (fun ac w β I6 IQ S=>?_) (fun ac w β I6 IQ S=>?_)
  ·exact S.dG 7 .nil fun ac w β S=>⟨rfl,_,by rw [ym,I6];exact S.z⟩
  exact S.dG 7 (.cons (aE fun w hw=>xz w (aV (el (el aL.I m.toNat).tables g.toNat) page).1.bg need) .nil) fun ac w β S=>⟨rfl,_,by rw [ym,I6];exact S.z⟩
 clear S;intro ac w β S
 refine S.bd 1 .nil (((!(aV (el (el aL.I m.toNat).tables g.toNat) page).2)||((aV (el (el aL.I m.toNat).tables g.toNat) page).1.page==(-1)))||(!(fj (aV (el (el aL.I m.toNat).tables g.toNat) page).1.bg need))) (fun ac w β I7 S=>?_) (fun ac w β I7 S=>?_)
 ·refine S.go 6 .nil fun ac w β S=>S.uM (d:=140) eF (Y4 w aL (((dC dQ af:aD ah).1,fX):aD ah) qM (S.fP eF) (fun b hb=>(S.sep b (eF.sub b hb)).1) m (cW (el (aK h m).1.U g.toNat).live page need).1 need (by exact(Ai lV (GA (by assumption)).1).1)) fun ac w N kO GH S up Fs d112 afm=>?_
  change (kO 0).I.1=(fX 0).I.1 at afm
  clear up d112 eF
  obtain⟨db,Se⟩:∃z,z=(gp aL m (cW (el (aK h m).1.U g.toNat).live page need).1 need):=⟨_,rfl⟩
  have jL:ad w0 ab w N GH [db] ((((dC dQ af:aD ah).1),kO):aD ah):=by rw [Se];exact Fs
  clear Fs
  have af4:=Lq Se (Ai lV (GA (by assumption)).1).1
  try dsimp only at af4
  refine S.go 12 (.cons (iS jL.ak (t:=28) (k:=0) (j:=1) (v:=R db.I.length (kO 0).I.1) (Nat.succ_pos 0) (by kernel_rfl) (by kernel_rfl)) (.cons (cq (fB jL.ak) m Tryz.underlying28) .nil)) fun ac w β S=>?_
  refine dI ?_
  refine S.dR (f:=28) 27 (by kernel_rfl) (by kernel_rfl) fun w S=>?_
  refine S.hm 3 [0,1,2,3,4,5,6,7,8,9,10,11,12,13,14,15,16,17,18,19,20,21,22,23,24] [] [(148,.v (R (el db.I m.toNat).tables.length ((kO 0).I.2 m.toNat).tables.1)),(149,.v (aa g)),(156,.v (GT.val (el (el db.I m.toNat).tables g.toNat) (((kO 0).I.2 m.toNat).tables.2 g.toNat))),(164,.v (R (el (el db.I m.toNat).U g.toNat).live.length (((kO 0).I.2 m.toNat).U.2 g.toNat).live.1)),(168,.v (R (el db.I m.toNat).outer.length ((kO 0).I.2 m.toNat).outer.1)),(169,.v (aa page))] (.cons (cA (fB jL.ak) 72 m.toNat 7 (R (el db.I m.toNat).tables.length ((kO 0).I.2 m.toNat).tables.1)) (.cons (cA (fB jL.ak) 72 m.toNat 7 (R (el db.I m.toNat).tables.length ((kO 0).I.2 m.toNat).tables.1)) (.cons (cq (aU.tables (d:=(el db.I m.toNat)) (ae.el (fB jL.ak) m.toNat (by omega))) g Tryz.underlying72) (.cons (dz (aU.tables (d:=(el db.I m.toNat)) (ae.el (fB jL.ak) m.toNat (by omega))) 165 g.toNat) (.cons (cA (fB jL.ak) 71 m.toNat 3 (R (el db.I m.toNat).U.length ((kO 0).I.2 m.toNat).U.1)) (.cons (cq (aU.U (d:=(el db.I m.toNat)) (ae.el (fB jL.ak) m.toNat (by omega))) g Tryz.underlying71) (.cons (cA (aU.U (d:=(el db.I m.toNat)) (ae.el (fB jL.ak) m.toNat (by omega))) 64 g.toNat 4 (R (el (el db.I m.toNat).U g.toNat).live.length (((kO 0).I.2 m.toNat).U.2 g.toNat).live.1)) (.cons (cA (fB jL.ak) 64 m.toNat 0 (R (el db.I m.toNat).outer.length ((kO 0).I.2 m.toNat).outer.1)) .nil)))))))) fun ac S=>?_
  refine ar.one (i:=25) (by kernel_rfl) ?_
  refine id (S.dB 170 (YD w (el (el db.I m.toNat).tables g.toNat) (((kO 0).I.2 m.toNat).tables.2 g.toNat) (S.rd (ae.el (aU.tables (d:=(el db.I m.toNat)) (ae.el (fB jL.ak) m.toNat (by omega))) g.toNat (by omega))) (el (el db.I m.toNat).U g.toNat).live (((kO 0).I.2 m.toNat).U.2 g.toNat).live (S.rd (az.live (d:=(el (el db.I m.toNat).U g.toNat)) (ae.el (aU.U (d:=(el db.I m.toNat)) (ae.el (fB jL.ak) m.toNat (by omega))) g.toNat (by omega)))) (el db.I m.toNat).outer ((kO 0).I.2 m.toNat).outer (S.rd (aU.outer (d:=(el db.I m.toNat)) (ae.el (fB jL.ak) m.toNat (by omega)))) page) fun ac w N rz zw S up pG d120=>?_)
  refine ar.next S up (by kernel_rfl) ?_
  have d121:=J.w d120 jL.sub
  replace jL:=jL.up up
  clear up d120
  refine S.a9 26 [26] [] [(171,.v (bh ((kO 0).I.2 m.toNat).tables.1.b (((kO 0).I.2 m.toNat).tables.1.off+g.toNat*2)))] (.cons (cq (aU.tables (d:=(el db.I m.toNat)) (ae.el (fB jL.ak) m.toNat (by omega))) g Tryz.underlying72) .nil) fun ac S=>?_
  refine ar.one (i:=27) (by kernel_rfl) ?_
  obtain⟨qH,ik,ajI,XB⟩:=r7 jL (fun _ o=>Rk o (k:=m.toNat) (show m.toNat<db.I.length by omega))
  change ad w0 ab _ _ qH (el db.I m.toNat).tables ((kO 0).I.2 m.toNat).tables at ik
  have apo:=ae.le ik.ak
  have aqh:=ik.sub
  refine id (S.kU (α:=bS) ik (t:=165) (k:=g.toNat) (off:=((kO 0).I.2 m.toNat).tables.1.off+g.toNat*2) pG (J.symm (J.symm (J.part d121 ajI))) fun w N zx F5 S up wB d131 Nx Fo=>?_)
  refine ar.last (by kernel_rfl) ?_
  clear d131 ik
  obtain⟨sM,UF,yH⟩:=XB _ _ _ _ _ zw up wB Nx d121 List.length_set Fo
  obtain⟨dp,RY⟩:∃z,z=db.I.set m.toNat {el db.I m.toNat with tables:=((el db.I m.toNat).tables.set g.toNat (lk (el (el db.I m.toNat).tables g.toNat) (el (el db.I m.toNat).U g.toNat).live (el db.I m.toNat).outer page))}:=⟨_,rfl⟩
  have n1:ad w0 ab w N (Or GH zx) [(⟨db.mem,dp,db.buf,db.ag⟩:ah)] (((((dC dQ af:aD ah).1)),sM):aD ah):=by rw [RY];exact UF
  obtain⟨af9,It⟩:=zl RY (show m.toNat<db.I.length by omega) List.length_set
  change (sM 0).I.1=(kO 0).I.1 at yH
  clear up wB Fo UF
  refine ar.done (by kernel_rfl) ?_ _
  refine S.ex fun S=>?_
  have i143:ed (aV (el (el dp m.toNat).tables g.toNat) page).1:=(Dl (ae.el (aU.tables (d:=(el dp m.toNat)) (ae.el (hv yH (hj n1.ak)) m.toNat (by omega))) g.toNat (by omega)) page)
  refine S.go 18 (.cons (cA (hv yH (hj n1.ak)) 72 m.toNat 7 (R (el dp m.toNat).tables.length (((sM 0).I.2) m.toNat).tables.1)) (.cons (cq (aU.tables (d:=(el dp m.toNat)) (ae.el (hv yH (hj n1.ak)) m.toNat (by omega))) g Tryz.underlying72) (.cons (dz (aU.tables (d:=(el dp m.toNat)) (ae.el (hv yH (hj n1.ak)) m.toNat (by omega))) 165 g.toNat) (.cons (aE fun w hw=>Pm w (el (el dp m.toNat).tables g.toNat) ((((sM 0).I.2) m.toNat).tables.2 g.toNat) (bJ (ae.el (aU.tables (d:=(el dp m.toNat)) (ae.el (hv yH (hj n1.ak)) m.toNat (by omega))) g.toNat (by omega)) hw) page) .nil)))) fun ac w β S=>?_
  refine dI ?_
  refine S.dR (f:=14) 13 (by kernel_rfl) (by kernel_rfl) fun w S=>?_
  refine S.hm 3 [0,1,2,3,4,5,6,7,8,9,10] [] [(184,.v (bh ((((dC dQ af:aD ah).1))).b (((((dC dQ af:aD ah).1))).off+0*4+2))),(187,.v (R db.buf.length (sM 0).buf.1)),(194,.v (GT.val (⟨(bR m g),page,(aV (el (el dp m.toNat).tables g.toNat) page).1.page,(aV (el (el dp m.toNat).tables g.toNat) page).1.bg⟩:aH) ()))] (.cons (iS n1.ak (t:=29) (k:=0) (j:=2) (v:=R db.buf.length (sM 0).buf.1) (Nat.succ_pos 0) (by kernel_rfl) (by kernel_rfl)) (.cons (fY (s:=Instr.build 138 [(0,aa (bR m g)),(1,aa page),(2,aa (aV (el (el dp m.toNat).tables g.toNat) page).1.page),(3,aa (aV (el (el dp m.toNat).tables g.toNat) page).1.bg)].toArray) (v:= .agg [aa (bR m g),aa page,aa (aV (el (el dp m.toNat).tables g.toNat) page).1.page,aa (aV (el (el dp m.toNat).tables g.toNat) page).1.bg].toArray) (fun w=>by kernel_rfl)) .nil)) fun ac S=>?_
  refine ar.one (i:=11) (by kernel_rfl) ?_
  refine id (S.dB 195 (PC w db.buf (sM 0).buf (S.rd (Qn n1.ak)) (⟨(bR m g),page,(aV (el (el dp m.toNat).tables g.toNat) page).1.page,(aV (el (el dp m.toNat).tables g.toNat) page).1.bg⟩:aH) (show fi (⟨(bR m g),page,(aV (el (el dp m.toNat).tables g.toNat) page).1.page,(aV (el (el dp m.toNat).tables g.toNat) page).1.bg⟩:aH) from⟨(Gx m g),hG,(ed.page (d:=(aV (el (el dp m.toNat).tables g.toNat) page).1) i143),(ed.bg (d:=(aV (el (el dp m.toNat).tables g.toNat) page).1) i143)⟩) (by(first|omega|(dsimp only;omega)))) fun ac w N VC Ok S up BQ d147=>?_)
  refine ar.next S up (by kernel_rfl) ?_
  have d148:=J.w d147 n1.sub
  replace n1:=n1.up up
  clear up d147
  refine S.a9 12 [12] [] [(196,.v (bh ((((dC dQ af:aD ah).1))).b (((((dC dQ af:aD ah).1))).off+0*4+2)))] .nil fun ac S=>?_
  refine ar.one (i:=13) (by kernel_rfl) ?_
  refine id (S.qD (α:=ah) n1 (t:=29) (v:=R (dF db.buf (⟨(bR m g),page,(aV (el (el dp m.toNat).tables g.toNat) page).1.page,(aV (el (el dp m.toNat).tables g.toNat) page).1.bg⟩:aH)).length VC.1) (k:=0) (j:=2) (off:=((((dC dQ af:aD ah).1))).off+0*4+2) (y:=(⟨db.mem,dp,(dF db.buf (⟨(bR m g),page,(aV (el (el dp m.toNat).tables g.toNat) page).1.page,(aV (el (el dp m.toNat).tables g.toNat) page).1.bg⟩:aH)),db.ag⟩:ah)) (q:=({(sM 0) with buf:=VC}:b_)) (Fy:=Ok) (by kernel_rfl) (by kernel_rfl) (Nat.succ_pos 0) (by kernel_rfl) (by kernel_rfl) (Nat.le_of_ble_eq_true (by kernel_rfl)) (by kernel_rfl) (fun G fv qf=>⟨_,Mr fv BQ.own (fun b h an=>d148 b (qf b h) an),fun _ h=>h⟩) d148 BQ.sub BQ.dM fun w N hO S up UG d152 ajP ag2=>?_)
  refine ar.last (by kernel_rfl) ?_
  obtain⟨g2,jg,apc⟩:∃g2:Nat->b_,ad w0 ab _ _ hO [(⟨db.mem,dp,(dF db.buf (⟨(bR m g),page,(aV (el (el dp m.toNat).tables g.toNat) page).1.page,(aV (el (el dp m.toNat).tables g.toNat) page).1.bg⟩:aH)),db.ag⟩:ah)] ((((((dC dQ af:aD ah).1))),g2):aD ah)/\(g2 0).I.1=(sM 0).I.1:=⟨_,UG,rfl⟩
  clear up d152 n1 UG ajP ag2
  refine ar.done (by kernel_rfl) ?_ _
  refine S.ex fun S=>?_
  refine S.go 2 .nil fun ac w β S=>?_
  refine dI ?_
  let uB:b3:=⟨[(12,.p 1 0),(15,.v (bh (((((dC dQ af:aD ah).1)))).b ((((((dC dQ af:aD ah).1)))).off+0*4))),(24,.p 3 0)],[GT.cells h ai,cg ah,GT.cells (dt aL.buf (bR m g) page).1 (),GT.cells (aV (el (el dp m.toNat).tables g.toNat) page).1 ()]⟩
  obtain⟨bw,bt,bP,S,jg⟩:∃bw bt bP,aj Tryz.prog Tryz.f135.ntmps w0 ab bw bt bP uB ac w/\ad w0 ab bw bt hO ([(⟨db.mem,dp,(dF db.buf (⟨(bR m g),page,(aV (el (el dp m.toNat).tables g.toNat) page).1.page,(aV (el (el dp m.toNat).tables g.toNat) page).1.bg⟩:aH)),db.ag⟩:ah)]) ((((((dC dQ af:aD ah).1))),g2):aD ah):=⟨_,_,_,S.z,jg⟩
  refine me (fun ac w=>∃u N β,aj Tryz.prog Tryz.f135.ntmps w0 ab u N β (uB.dl [15,24] [(13,.v (aa (aV (el (el dp m.toNat).tables g.toNat) page).1.page)),(14,.v (B true))] 2 [(1,[R db.mem.length (g2 0).mem.1,R dp.length (g2 0).I.1,R (dF db.buf (⟨(bR m g),page,(aV (el (el dp m.toNat).tables g.toNat) page).1.page,(aV (el (el dp m.toNat).tables g.toNat) page).1.bg⟩:aH)).length (g2 0).buf.1,R db.ag.length (g2 0).ag.1])]) ac w/\ad w0 ab u N hO ([(⟨db.mem,dp,(dF db.buf (⟨(bR m g),page,(aV (el (el dp m.toNat).tables g.toNat) page).1.page,(aV (el (el dp m.toNat).tables g.toNat) page).1.bg⟩:aH)),db.ag⟩:ah)]) ((((((dC dQ af:aD ah).1))),g2):aD ah)/\fi (dt aL.buf (bR m g) page).1/\ed (aV (el (el dp m.toNat).tables g.toNat) page).1) ?_ ?_
  ·refine S.dR (f:=6) 3 (by kernel_rfl) (by kernel_rfl) fun w S=>?_
   refine S.a9 0 [0] [] [(197,.v (GT.val (⟨db.mem,dp,(dF db.buf (⟨(bR m g),page,(aV (el (el dp m.toNat).tables g.toNat) page).1.page,(aV (el (el dp m.toNat).tables g.toNat) page).1.bg⟩:aH)),db.ag⟩:ah) (g2 0)))] (.cons (rP jg.ak (t:=31) (k:=0) (Nat.succ_pos 0) rfl (by kernel_rfl) (by kernel_rfl)) .nil) fun ac S=>?_
   refine ar.mH fun W aG=>?_
   refine ar.mj (l':=cp 6 [0]) (by kernel_rfl) ?_
   have AK ac w u N β (S:aj Tryz.prog Tryz.f135.ntmps w0 ab u N β (uB.dl [15,24] [(13,.v (aa (aV (el (el dp m.toNat).tables g.toNat) page).1.page)),(14,.v (B true))] 4 [(1,[R db.mem.length (g2 0).mem.1,R dp.length (g2 0).I.1,R (dF db.buf (⟨(bR m g),page,(aV (el (el dp m.toNat).tables g.toNat) page).1.page,(aV (el (el dp m.toNat).tables g.toNat) page).1.bg⟩:aH)).length (g2 0).buf.1,R db.ag.length (g2 0).ag.1])]) ac w) (jg:ad w0 ab u N hO ([(⟨db.mem,dp,(dF db.buf (⟨(bR m g),page,(aV (el (el dp m.toNat).tables g.toNat) page).1.page,(aV (el (el dp m.toNat).tables g.toNat) page).1.bg⟩:aH)),db.ag⟩:ah)]) ((((((dC dQ af:aD ah).1))),g2):aD ah)) (i159:fi (dt aL.buf (bR m g) page).1) (i158:ed (aV (el (el dp m.toNat).tables g.toNat) page).1):W 0 (cp 6 [0,1,2,3,4,5]) ac w:=by
    exact mL aG ⟨rfl,_,_,_,S.z,jg,i159,i158⟩
   have adW ac w u N β (S:aj Tryz.prog Tryz.f135.ntmps w0 ab u N β (uB.dl [15,24] [(197,.v (GT.val (⟨db.mem,dp,(dF db.buf (⟨(bR m g),page,(aV (el (el dp m.toNat).tables g.toNat) page).1.page,(aV (el (el dp m.toNat).tables g.toNat) page).1.bg⟩:aH)),db.ag⟩:ah) (g2 0))),(199,.v (aa (aV (el (el dp m.toNat).tables g.toNat) page).1.page))] 4 []) ac w) (jg:ad w0 ab u N hO ([(⟨db.mem,dp,(dF db.buf (⟨(bR m g),page,(aV (el (el dp m.toNat).tables g.toNat) page).1.page,(aV (el (el dp m.toNat).tables g.toNat) page).1.bg⟩:aH)),db.ag⟩:ah)]) ((((((dC dQ af:aD ah).1))),g2):aD ah)) (i159:fi (dt aL.buf (bR m g) page).1) (i158:ed (aV (el (el dp m.toNat).tables g.toNat) page).1) (al:d_ bt bw N u) (aP:cR uB.aM.length bP β):W 3 (cp 6 [0,1,2]) ac w:=by
    exact eo aG 3 (S.wl aG [4,5] .nil fun _ _ _ S=>AK _ _ _ _ _ S jg i159 i158)
   have adX ac w u N β (S:aj Tryz.prog Tryz.f135.ntmps w0 ab u N β (uB.dl [15,24] [(198,.p 3 0)] 4 [(1,[R db.mem.length (g2 0).mem.1,R dp.length (g2 0).I.1,R (dF db.buf (⟨(bR m g),page,(aV (el (el dp m.toNat).tables g.toNat) page).1.page,(aV (el (el dp m.toNat).tables g.toNat) page).1.bg⟩:aH)).length (g2 0).buf.1,R db.ag.length (g2 0).ag.1])]) ac w) (jg:ad w0 ab u N hO ([(⟨db.mem,dp,(dF db.buf (⟨(bR m g),page,(aV (el (el dp m.toNat).tables g.toNat) page).1.page,(aV (el (el dp m.toNat).tables g.toNat) page).1.bg⟩:aH)),db.ag⟩:ah)]) ((((((dC dQ af:aD ah).1))),g2):aD ah)) (i159:fi (dt aL.buf (bR m g) page).1) (i158:ed (aV (el (el dp m.toNat).tables g.toNat) page).1):W 3 (cp 6 [0,1,3]) ac w:=by
    exact eo aG 2 (S.wl aG [4,5] .nil fun _ _ _ S=>AK _ _ _ _ _ S jg i159 i158)
   have adY ac w u N β (S:aj Tryz.prog Tryz.f135.ntmps w0 ab u N β (uB.dl [15,24] [(197,.v (GT.val (⟨db.mem,dp,(dF db.buf (⟨(bR m g),page,(aV (el (el dp m.toNat).tables g.toNat) page).1.page,(aV (el (el dp m.toNat).tables g.toNat) page).1.bg⟩:aH)),db.ag⟩:ah) (g2 0))),(198,.p 3 0)] 4 []) ac w) (jg:ad w0 ab u N hO ([(⟨db.mem,dp,(dF db.buf (⟨(bR m g),page,(aV (el (el dp m.toNat).tables g.toNat) page).1.page,(aV (el (el dp m.toNat).tables g.toNat) page).1.bg⟩:aH)),db.ag⟩:ah)]) ((((((dC dQ af:aD ah).1))),g2):aD ah)) (al:d_ bt bw N u) (aP:cR uB.aM.length bP β):W 4 (cp 6 [0,1]) ac w:=by
    exact gA aG 2 3 (S.e_ aG al aP [] .nil fun _ _ _ S cb=>adW _ _ _ _ _ S jg i86 i143 al cb) (S.wl aG [] .nil fun _ _ _ S=>adX _ _ _ _ _ S jg i86 i143)
   rw [aG]
   exact S.cX aG [1] (fun _=>S.um) fun _ S=>adY _ _ _ _ _ S jg (fun _ h=>⟨h,rfl⟩) (fun _ _=>rfl)
  clear S jg
  rintro ac w ⟨u,N,β,S,jg,i159,i158⟩
  refine S.ex fun S=>?_
  refine S.bo 2 .nil [GT.val (⟨db.mem,dp,(dF db.buf (⟨(bR m g),page,(aV (el (el dp m.toNat).tables g.toNat) page).1.page,(aV (el (el dp m.toNat).tables g.toNat) page).1.bg⟩:aH)),db.ag⟩:ah) (g2 0),aa (aV (el (el dp m.toNat).tables g.toNat) page).1.page,B true] fun ac w β S=>?_
  obtain⟨Om,sE,_,_⟩:=vc jg (k:=0) (Nat.succ_pos 0)
  change ad w0 ab _ _ Om (⟨db.mem,dp,(dF db.buf (⟨(bR m g),page,(aV (el (el dp m.toNat).tables g.toNat) page).1.page,(aV (el (el dp m.toNat).tables g.toNat) page).1.bg⟩:aH)),db.ag⟩:ah) (g2 0) at sE
  exact y_ (p':=()) (p'':=()) S (show(cN h m g page need false).1=(⟨db.mem,dp,(dF db.buf (⟨(bR m g),page,(aV (el (el dp m.toNat).tables g.toNat) page).1.page,(aV (el (el dp m.toNat).tables g.toNat) page).1.bg⟩:aH)),db.ag⟩:ah) from ng) (show(cN h m g page need false).2.1=(aV (el (el dp m.toNat).tables g.toNat) page).1.page from ng) (show(cN h m g page need false).2.2=true from ng) rfl rfl rfl sE (ed.page (d:=(aV (el (el dp m.toNat).tables g.toNat) page).1) i158) trivial
 obtain⟨adf,adg⟩:=n4 I7
 obtain⟨adh,adi⟩:=n4 adf
 have aoz:=b9 adh
 have an_:¬((aV (el (el aL.I m.toNat).tables g.toNat) page).1.page=(-1)):=ne_of_beq_false adi
 have adj:=b9 adg
 have aoa:=qU adj
 refine S.go 4 .nil fun ac w β S=>?_
 refine dI ?_
 refine S.dR (f:=14) 13 (by kernel_rfl) (by kernel_rfl) fun w S=>?_
 refine S.hm 3 [0,1,2,3,4,5,6,7,8,9,10] [] [(184,.v (bh ((dC dQ af:aD ah).1).b (((dC dQ af:aD ah).1).off+0*4+2))),(187,.v (R aL.buf.length (fX 0).buf.1)),(194,.v (GT.val (⟨(bR m g),page,(aV (el (el aL.I m.toNat).tables g.toNat) page).1.page,(aV (el (el aL.I m.toNat).tables g.toNat) page).1.bg⟩:aH) ()))] (.cons (iS eF.ak (t:=29) (k:=0) (j:=2) (v:=R aL.buf.length (fX 0).buf.1) (Nat.succ_pos 0) (by kernel_rfl) (by kernel_rfl)) (.cons (fY (s:=Instr.build 138 [(0,aa (bR m g)),(1,aa page),(2,aa (aV (el (el aL.I m.toNat).tables g.toNat) page).1.page),(3,aa (aV (el (el aL.I m.toNat).tables g.toNat) page).1.bg)].toArray) (v:= .agg [aa (bR m g),aa page,aa (aV (el (el aL.I m.toNat).tables g.toNat) page).1.page,aa (aV (el (el aL.I m.toNat).tables g.toNat) page).1.bg].toArray) (fun w=>by kernel_rfl)) .nil)) fun ac S=>?_
 refine ar.one (i:=11) (by kernel_rfl) ?_
 refine id (S.dB 195 (PC w aL.buf (fX 0).buf (S.rd (DP eF.ak)) (⟨(bR m g),page,(aV (el (el aL.I m.toNat).tables g.toNat) page).1.page,(aV (el (el aL.I m.toNat).tables g.toNat) page).1.bg⟩:aH) (show fi (⟨(bR m g),page,(aV (el (el aL.I m.toNat).tables g.toNat) page).1.page,(aV (el (el aL.I m.toNat).tables g.toNat) page).1.bg⟩:aH) from⟨(Gx m g),hG,(ed.page (d:=(aV (el (el aL.I m.toNat).tables g.toNat) page).1) i101),(ed.bg (d:=(aV (el (el aL.I m.toNat).tables g.toNat) page).1) i101)⟩) (by(first|omega|(dsimp only;omega)))) fun ac w N sP GK S up wC d178=>?_)
 refine ar.next S up (by kernel_rfl) ?_
 have d179:=J.w d178 eF.sub
 replace eF:=eF.up up
 clear up d178
 refine S.a9 12 [12] [] [(196,.v (bh ((dC dQ af:aD ah).1).b (((dC dQ af:aD ah).1).off+0*4+2)))] .nil fun ac S=>?_
 refine ar.one (i:=13) (by kernel_rfl) ?_
 refine id (S.qD (α:=ah) eF (t:=29) (v:=R (dF aL.buf (⟨(bR m g),page,(aV (el (el aL.I m.toNat).tables g.toNat) page).1.page,(aV (el (el aL.I m.toNat).tables g.toNat) page).1.bg⟩:aH)).length sP.1) (k:=0) (j:=2) (off:=((dC dQ af:aD ah).1).off+0*4+2) (y:=(⟨aL.mem,aL.I,(dF aL.buf (⟨(bR m g),page,(aV (el (el aL.I m.toNat).tables g.toNat) page).1.page,(aV (el (el aL.I m.toNat).tables g.toNat) page).1.bg⟩:aH)),aL.ag⟩:ah)) (q:=({(fX 0) with buf:=sP}:b_)) (Fy:=GK) (by kernel_rfl) (by kernel_rfl) (Nat.succ_pos 0) (by kernel_rfl) (by kernel_rfl) (Nat.le_of_ble_eq_true (by kernel_rfl)) (by kernel_rfl) (fun G fv qf=>⟨_,Mr fv wC.own (fun b h an=>d179 b (qf b h) an),fun _ h=>h⟩) d179 wC.sub wC.dM fun w N uH S up UI d183 NC ag7=>?_)
 refine ar.last (by kernel_rfl) ?_
 obtain⟨iZ,iW,apd⟩:∃iZ:Nat->b_,ad w0 ab _ _ uH [(⟨aL.mem,aL.I,(dF aL.buf (⟨(bR m g),page,(aV (el (el aL.I m.toNat).tables g.toNat) page).1.page,(aV (el (el aL.I m.toNat).tables g.toNat) page).1.bg⟩:aH)),aL.ag⟩:ah)] ((((dC dQ af:aD ah).1),iZ):aD ah)/\(iZ 0).I.1=(fX 0).I.1:=⟨_,UI,rfl⟩
 clear up d183 eF UI NC ag7
 refine ar.done (by kernel_rfl) ?_ _
 refine S.ex fun S=>?_
 refine S.go 2 .nil fun ac w β S=>?_
 refine dI ?_
 let uD:b3:=⟨[(12,.p 1 0),(15,.v (bh (((dC dQ af:aD ah).1)).b ((((dC dQ af:aD ah).1)).off+0*4))),(24,.p 3 0)],[GT.cells h ai,cg ah,GT.cells (dt aL.buf (bR m g) page).1 (),GT.cells (aV (el (el aL.I m.toNat).tables g.toNat) page).1 ()]⟩
 obtain⟨bw,bt,bP,S,iW⟩:∃bw bt bP,aj Tryz.prog Tryz.f135.ntmps w0 ab bw bt bP uD ac w/\ad w0 ab bw bt uH ([(⟨aL.mem,aL.I,(dF aL.buf (⟨(bR m g),page,(aV (el (el aL.I m.toNat).tables g.toNat) page).1.page,(aV (el (el aL.I m.toNat).tables g.toNat) page).1.bg⟩:aH)),aL.ag⟩:ah)]) ((((dC dQ af:aD ah).1),iZ):aD ah):=⟨_,_,_,S.z,iW⟩
 refine me (fun ac w=>∃u N β,aj Tryz.prog Tryz.f135.ntmps w0 ab u N β (uD.dl [15,24] [(13,.v (aa (aV (el (el aL.I m.toNat).tables g.toNat) page).1.page)),(14,.v (B true))] 2 [(1,[R aL.mem.length (iZ 0).mem.1,R aL.I.length (iZ 0).I.1,R (dF aL.buf (⟨(bR m g),page,(aV (el (el aL.I m.toNat).tables g.toNat) page).1.page,(aV (el (el aL.I m.toNat).tables g.toNat) page).1.bg⟩:aH)).length (iZ 0).buf.1,R aL.ag.length (iZ 0).ag.1])]) ac w/\ad w0 ab u N uH ([(⟨aL.mem,aL.I,(dF aL.buf (⟨(bR m g),page,(aV (el (el aL.I m.toNat).tables g.toNat) page).1.page,(aV (el (el aL.I m.toNat).tables g.toNat) page).1.bg⟩:aH)),aL.ag⟩:ah)]) ((((dC dQ af:aD ah).1),iZ):aD ah)/\fi (dt aL.buf (bR m g) page).1/\ed (aV (el (el aL.I m.toNat).tables g.toNat) page).1) ?_ ?_
 ·refine S.dR (f:=6) 3 (by kernel_rfl) (by kernel_rfl) fun w S=>?_
  refine S.a9 0 [0] [] [(197,.v (GT.val (⟨aL.mem,aL.I,(dF aL.buf (⟨(bR m g),page,(aV (el (el aL.I m.toNat).tables g.toNat) page).1.page,(aV (el (el aL.I m.toNat).tables g.toNat) page).1.bg⟩:aH)),aL.ag⟩:ah) (iZ 0)))] (.cons (rP iW.ak (t:=31) (k:=0) (Nat.succ_pos 0) rfl (by kernel_rfl) (by kernel_rfl)) .nil) fun ac S=>?_
  refine ar.mH fun W aG=>?_
  refine ar.mj (l':=cp 6 [0]) (by kernel_rfl) ?_
  have RQ ac w u N β (S:aj Tryz.prog Tryz.f135.ntmps w0 ab u N β (uD.dl [15,24] [(13,.v (aa (aV (el (el aL.I m.toNat).tables g.toNat) page).1.page)),(14,.v (B true))] 4 [(1,[R aL.mem.length (iZ 0).mem.1,R aL.I.length (iZ 0).I.1,R (dF aL.buf (⟨(bR m g),page,(aV (el (el aL.I m.toNat).tables g.toNat) page).1.page,(aV (el (el aL.I m.toNat).tables g.toNat) page).1.bg⟩:aH)).length (iZ 0).buf.1,R aL.ag.length (iZ 0).ag.1])]) ac w) (iW:ad w0 ab u N uH ([(⟨aL.mem,aL.I,(dF aL.buf (⟨(bR m g),page,(aV (el (el aL.I m.toNat).tables g.toNat) page).1.page,(aV (el (el aL.I m.toNat).tables g.toNat) page).1.bg⟩:aH)),aL.ag⟩:ah)]) ((((dC dQ af:aD ah).1),iZ):aD ah)) (i190:fi (dt aL.buf (bR m g) page).1) (i189:ed (aV (el (el aL.I m.toNat).tables g.toNat) page).1):W 0 (cp 6 [0,1,2,3,4,5]) ac w:=by
   exact mL aG ⟨rfl,_,_,_,S.z,iW,i190,i189⟩
  have ad4 ac w u N β (S:aj Tryz.prog Tryz.f135.ntmps w0 ab u N β (uD.dl [15,24] [(197,.v (GT.val (⟨aL.mem,aL.I,(dF aL.buf (⟨(bR m g),page,(aV (el (el aL.I m.toNat).tables g.toNat) page).1.page,(aV (el (el aL.I m.toNat).tables g.toNat) page).1.bg⟩:aH)),aL.ag⟩:ah) (iZ 0))),(199,.v (aa (aV (el (el aL.I m.toNat).tables g.toNat) page).1.page))] 4 []) ac w) (iW:ad w0 ab u N uH ([(⟨aL.mem,aL.I,(dF aL.buf (⟨(bR m g),page,(aV (el (el aL.I m.toNat).tables g.toNat) page).1.page,(aV (el (el aL.I m.toNat).tables g.toNat) page).1.bg⟩:aH)),aL.ag⟩:ah)]) ((((dC dQ af:aD ah).1),iZ):aD ah)) (i190:fi (dt aL.buf (bR m g) page).1) (i189:ed (aV (el (el aL.I m.toNat).tables g.toNat) page).1) (al:d_ bt bw N u) (aP:cR uD.aM.length bP β):W 3 (cp 6 [0,1,2]) ac w:=by
   exact eo aG 3 (S.wl aG [4,5] .nil fun _ _ _ S=>RQ _ _ _ _ _ S iW i190 i189)
  have ad5 ac w u N β (S:aj Tryz.prog Tryz.f135.ntmps w0 ab u N β (uD.dl [15,24] [(198,.p 3 0)] 4 [(1,[R aL.mem.length (iZ 0).mem.1,R aL.I.length (iZ 0).I.1,R (dF aL.buf (⟨(bR m g),page,(aV (el (el aL.I m.toNat).tables g.toNat) page).1.page,(aV (el (el aL.I m.toNat).tables g.toNat) page).1.bg⟩:aH)).length (iZ 0).buf.1,R aL.ag.length (iZ 0).ag.1])]) ac w) (iW:ad w0 ab u N uH ([(⟨aL.mem,aL.I,(dF aL.buf (⟨(bR m g),page,(aV (el (el aL.I m.toNat).tables g.toNat) page).1.page,(aV (el (el aL.I m.toNat).tables g.toNat) page).1.bg⟩:aH)),aL.ag⟩:ah)]) ((((dC dQ af:aD ah).1),iZ):aD ah)) (i190:fi (dt aL.buf (bR m g) page).1) (i189:ed (aV (el (el aL.I m.toNat).tables g.toNat) page).1):W 3 (cp 6 [0,1,3]) ac w:=by
   exact eo aG 2 (S.wl aG [4,5] .nil fun _ _ _ S=>RQ _ _ _ _ _ S iW i190 i189)
  have ad6 ac w u N β (S:aj Tryz.prog Tryz.f135.ntmps w0 ab u N β (uD.dl [15,24] [(197,.v (GT.val (⟨aL.mem,aL.I,(dF aL.buf (⟨(bR m g),page,(aV (el (el aL.I m.toNat).tables g.toNat) page).1.page,(aV (el (el aL.I m.toNat).tables g.toNat) page).1.bg⟩:aH)),aL.ag⟩:ah) (iZ 0))),(198,.p 3 0)] 4 []) ac w) (iW:ad w0 ab u N uH ([(⟨aL.mem,aL.I,(dF aL.buf (⟨(bR m g),page,(aV (el (el aL.I m.toNat).tables g.toNat) page).1.page,(aV (el (el aL.I m.toNat).tables g.toNat) page).1.bg⟩:aH)),aL.ag⟩:ah)]) ((((dC dQ af:aD ah).1),iZ):aD ah)) (al:d_ bt bw N u) (aP:cR uD.aM.length bP β):W 4 (cp 6 [0,1]) ac w:=by
   exact gA aG 2 3 (S.e_ aG al aP [] .nil fun _ _ _ S cb=>ad4 _ _ _ _ _ S iW i86 i101 al cb) (S.wl aG [] .nil fun _ _ _ S=>ad5 _ _ _ _ _ S iW i86 i101)
  rw [aG]
  exact S.cX aG [1] (fun _=>S.um) fun _ S=>ad6 _ _ _ _ _ S iW (fun _ h=>⟨h,rfl⟩) (fun _ _=>rfl)
 clear S iW
 rintro ac w ⟨u,N,β,S,iW,i190,i189⟩
 refine S.ex fun S=>?_
 refine S.bo 2 .nil [GT.val (⟨aL.mem,aL.I,(dF aL.buf (⟨(bR m g),page,(aV (el (el aL.I m.toNat).tables g.toNat) page).1.page,(aV (el (el aL.I m.toNat).tables g.toNat) page).1.bg⟩:aH)),aL.ag⟩:ah) (iZ 0),aa (aV (el (el aL.I m.toNat).tables g.toNat) page).1.page,B true] fun ac w β S=>?_
 obtain⟨WM,UJ,_,_⟩:=vc iW (k:=0) (Nat.succ_pos 0)
 change ad w0 ab _ _ WM (⟨aL.mem,aL.I,(dF aL.buf (⟨(bR m g),page,(aV (el (el aL.I m.toNat).tables g.toNat) page).1.page,(aV (el (el aL.I m.toNat).tables g.toNat) page).1.bg⟩:aH)),aL.ag⟩:ah) (iZ 0) at UJ
 exact y_ (p':=()) (p'':=()) S (show(cN h m g page need false).1=(⟨aL.mem,aL.I,(dF aL.buf (⟨(bR m g),page,(aV (el (el aL.I m.toNat).tables g.toNat) page).1.page,(aV (el (el aL.I m.toNat).tables g.toNat) page).1.bg⟩:aH)),aL.ag⟩:ah) from ng) (show(cN h m g page need false).2.1=(aV (el (el aL.I m.toNat).tables g.toNat) page).1.page from ng) (show(cN h m g page need false).2.2=true from ng) rfl rfl rfl UJ (ed.page (d:=(aV (el (el aL.I m.toNat).tables g.toNat) page).1) i189) trivial
theorem Pz (w0:World) (h:ah) (ai:b_) (aX:bQ w0 h ai) (m:Int) (g:Int) (page:Int) (hG:a_ page) (need:Int):Calls Tryz.prog 44 [GT.val h ai,aa m,aa g,aa page,aa need].toArray w0 (zG ab w0 ((cN h m g page need false).1:ah) ((cN h m g page need false).2.1:Int) ((cN h m g page need false).2.2:Bool)):=by
 refine Calls.run ab Tryz.func44 ?_
 intro ac β S
 have lZ:h.mem.length<=4194304:=ae.le (bu.mem (d:=h) aX)
 have l0:h.I.length<=4194304:=ae.le (bu.I (d:=h) aX)
 have lX:h.buf.length<=4194304:=ae.le (bu.buf (d:=h) aX)
 have lY:h.ag.length<=4194304:=ae.le (bu.ag (d:=h) aX)
 have yE:=hG.lo;have yw:=hG.hi
 refine S.go 15 .nil fun ac w β S=>S.W_ (r:=(cN h m g page need false).1) (r':=(cN h m g page need false).2.1) (r'':=(cN h m g page need false).2.2) (d:=18) (Y3 w h ai (S.rd (S.arg aX)) m g page hG need false (by rfl)) fun ac w N af br S up aA d4 i5=>?_
 clear up d4
 refine S.bo 9 .nil [GT.val (cN h m g page need false).1 af,aa (cN h m g page need false).2.1,B (cN h m g page need false).2.2] fun ac w β S=>?_
 exact y_ (p':=()) (p'':=()) S (show(cN h m g page need false).1=(cN h m g page need false).1 by clear S;rfl) (show(cN h m g page need false).2.1=(cN h m g page need false).2.1 by clear S;rfl) (show(cN h m g page need false).2.2=(cN h m g page need false).2.2 by clear S;rfl) rfl rfl rfl aA i5 trivial
theorem Pq (w0:World) (page:Int) (hG:a_ page) (write:Bool):Calls Tryz.prog 48 [aa page,B write].toArray w0 (fun e w'=>e= .returned (GT.val (gY page write) ())/\bB ab w0 w'):=by
 refine Calls.run ab Tryz.func48 ?_
 intro ac β S
 have yE:=hG.lo;have yw:=hG.hi
 exact S.aq 14 (.cons (fY (s:=Instr.build 68 [(0,aa 1),(1,aa page),(2,B write)].toArray) (v:= .agg [aa 1,aa page,B write,aa 0].toArray) (fun w=>by kernel_rfl)) .nil) [GT.val (⟨1,page,write,0⟩:dg) ()] (hX (p:=()) (by clear S;rfl))
theorem zY (w0:World) (g:ax) (bf:c5) (aJ:bQ w0 g bf) (e:dg) (he:fL e):Calls Tryz.prog 47 [GT.val g bf,GT.val e ()].toArray w0 (dw ab w0 (({g with exit:=e}:ax):ax)):=by
 refine Calls.run ab Tryz.func47 ?_
 intro ac β S
 have iE:g.prog.length<=4194304:=ae.le (az.prog (d:=g) aJ)
 have iG:g.written.length<=4194304:=ae.le (az.written (d:=g) aJ)
 have iD:g.live.length<=4194304:=ae.le (az.live (d:=g) aJ)
 have iF:g.seen.length<=4194304:=ae.le (az.seen (d:=g) aJ)
 refine S.go 10 .nil fun ac w β S=>S.cJ (r:=g) (d:=7) (tc w g bf (S.rd (S.arg aJ))) fun ac w N af br S up aA d4=>?_
 clear up d4
 have i8:a_ g.acc:=az.acc (d:=g) aA.ak
 have i9:a_ g.aw:=az.aw (d:=g) aA.ak
 have i16:hz g.aN:=az.aN (d:=g) aA.ak
 have i17:a_ g.aC:=az.aC (d:=g) aA.ak
 obtain⟨dU,dY,gf,kr,bL,bq,c3,dK,_,_,_,_,d22,d23,d24,d25,d26,d27⟩:=mP aA
 refine S.bo 18 .nil [GT.val (⟨g.prog,g.acc,g.aw,g.written,g.live,g.aN,g.aC,e,g.halted,g.seen⟩:ax) (⟨af.prog,af.written,af.live,af.seen⟩:c5)] fun ac w β S=>?_
 have g9:=hK (x:=(⟨g.prog,g.acc,g.aw,g.written,g.live,g.aN,g.aC,e,g.halted,g.seen⟩:ax)) (p:=(⟨af.prog,af.written,af.live,af.seen⟩:c5)) bL bq c3 dK d22 d23 d24 d25 d26 d27 i8 i9 i16 i17 he
 exact cy S (show({g with exit:=e}:ax)=(⟨g.prog,g.acc,g.aw,g.written,g.live,g.aN,g.aC,e,g.halted,g.seen⟩:ax) by clear S;rfl) rfl g9
theorem Tu {p:Prop} (h:p:=by clear S;(first|(unfold ds;rw [if_pos (by omega)];done)|(unfold ds;rw [if_pos (by omega)];first|rfl|(simp;done))|(unfold ds;rw [if_neg (by omega)];done)|(unfold ds;rw [if_neg (by omega)];first|rfl|(simp;done)))):p:=h
theorem Dx (w0:World) (addr:Int) (oC:a_ addr):Calls Tryz.prog 50 [aa addr].toArray w0 (fun e w'=>e= .returned (aa (ds addr))/\bB ab w0 w'):=by
 refine Calls.run ab Tryz.func50 ?_
 intro ac β S
 have J7:=oC.lo;have JO:=oC.hi
 refine S.aI 12 .nil (decide (addr<0)) (fun ac w β h1 a8 S=>?_) (fun ac w β h1 a8 S=>?_)
 ·exact S.aq 7 .nil [aa (-1)] (b4 Tu)
 exact S.aq 11 (.cons (o3 (x:=addr) (y:=4) (by decide)) .nil) [aa (Int.tmod addr 4)] (b4 Tu)
theorem E3 {p:Prop} (h:p:=by clear S;(unfold gh;(repeat' split)<;>first|rfl|(simp;done)|(exfalso;omega)|(exfalso;simp_all;done)|(exfalso;simp_all;omega))):p:=h
theorem PI (w0:World) (m:List (List Int)) (pm:aD (List Int)) (hm:bQ w0 m pm) (page:Int) (cell:Int) (v:Int) (b2:a_ v):Calls Tryz.prog 49 [R m.length pm.1,aa page,aa cell,aa v].toArray w0 (dw ab w0 (gh m page cell v:List (List Int))):=by
 refine Calls.run ab Tryz.func49 ?_
 intro ac β S
 have q6:m.length<=4194304:=ae.le hm
 have J8:=b2.lo;have JP:=b2.hi
 refine S.go 8 .nil fun ac w β S=>S.cJ (r:=m) (d:=11) (pd w m pm (S.rd (S.arg hm))) fun ac w N af br S up aA d4=>?_
 clear up d4
 refine S.bd 11 (.cons (aE fun w hw=>js w page (m.length:Int) (by omega)) .nil) (a3 page 0 ((m.length:Int)-1)) (fun ac w β bm S=>?_) (fun ac w β bm S=>?_)
 ·have c6:=cV bm
  have s_:(el m page.toNat).length<=4194304:=ae.le (ae.el (S.arg hm) page.toNat (by omega))
  refine S.bd 9 (.cons (cq (S.arg hm) page Tryz.underlying22) (.cons (cj (S.arg hm) 38 page.toNat) (.cons (aE fun w hw=>js w cell ((el m page.toNat).length:Int) (by omega)) .nil))) (a3 cell 0 (((el m page.toNat).length:Int)-1)) (fun ac w β dc S=>?_) (fun ac w β dc S=>?_)
  ·have fF:=cV dc
   refine S.bd 5 (.cons (aE fun w hw=>hh w v 0 99) .nil) (a3 v 0 99) (fun ac w β c2 S=>?_) (fun ac w β c2 S=>?_)
   ·have eb:=cV c2
    obtain⟨C4,jM,_,XE⟩:=vc aA (k:=page.toNat) (show page.toNat<m.length by omega)
    have Bz:=ae.le jM.ak
    have tR:=jM.sub
    refine S.go 9 (.cons (cq aA.ak page Tryz.underlying22) (.cons (cj aA.ak 38 page.toNat) (.cons (cq (ae.el aA.ak page.toNat (by omega)) cell Tryz.underlying38) .nil))) fun ac w β S=>S.fQ (α:=Int) jM (t:=3) (k:=cell.toNat) (j:=0) (off:=(af.2 page.toNat).1.off+cell.toNat*1) (v:=aa v) (y:=v) (q:=()) (fun _ _ _=>⟨ab,b2,fun _ h=>False.elim h⟩) fun w N kr c4 S up e1 d21 VZ Fq=>?_
    clear d21 jM
    obtain⟨ub,dm,am1⟩:=XE _ _ _ _ _ ab up e1 VZ (fun b _ h=>False.elim h) (by show [R _ _]=[R _ _];rw [List.length_set]) (fun b h=>Fq b (tR b h))
    clear up e1 Fq
    have agm:(m.set page.toNat ((el m page.toNat).set cell.toNat v)).length=m.length:=List.length_set
    refine S.bo 9 .nil [R m.length af.1] fun ac w β S=>?_
    exact cy S (show gh m page cell v=(m.set page.toNat ((el m page.toNat).set cell.toNat v)) from E3) (by rw [show m.length=(m.set page.toNat ((el m page.toNat).set cell.toNat v)).length from(by omega)];rfl) dm
   have Aq:=dn c2
   refine S.bo 10 .nil [R m.length af.1] fun ac w β S=>?_
   exact cy S (show gh m page cell v=m from E3) rfl aA
  have lQ:=dn dc
  refine S.bo 15 .nil [R m.length af.1] fun ac w β S=>?_
  exact cy S (show gh m page cell v=m from E3) rfl aA
 have nW:=dn bm
 refine S.bo 24 .nil [R m.length af.1] fun ac w β S=>?_
 exact cy S (show gh m page cell v=m from E3) rfl aA
theorem TA {p:Prop} (h:p:=by clear S;(unfold a5;first|(rw [if_pos (by omega)];done)|(rw [if_neg (by omega)];done))):p:=h
theorem xA (w0:World) (g:ax) (bf:c5) (aJ:bQ w0 g bf):Calls Tryz.prog 137 [GT.val g bf].toArray w0 (dw ab w0 (a5 g:ax)):=by
 refine Calls.run ab Tryz.func137 ?_
 intro ac β S
 have Bl:=az.aw (d:=g) aJ
 have hpl:=Bl.lo
 have afl:=Bl.hi
 have iE:g.prog.length<=4194304:=ae.le (az.prog (d:=g) aJ)
 have iG:g.written.length<=4194304:=ae.le (az.written (d:=g) aJ)
 have iD:g.live.length<=4194304:=ae.le (az.live (d:=g) aJ)
 have iF:g.seen.length<=4194304:=ae.le (az.seen (d:=g) aJ)
 refine S.go 9 .nil fun ac w β S=>S.cJ (r:=g) (d:=5) (tc w g bf (S.rd (S.arg aJ))) fun ac w N af br S up aA d4=>?_
 clear up d4
 have i8:a_ g.acc:=az.acc (d:=g) aA.ak
 have i16:hz g.aN:=az.aN (d:=g) aA.ak
 have i17:a_ g.aC:=az.aC (d:=g) aA.ak
 have i18:fL g.exit:=az.exit (d:=g) aA.ak
 obtain⟨dU,dY,gf,kr,bL,bq,c3,dK,_,_,_,_,d22,d23,d24,d25,d26,d27⟩:=mP aA
 refine S.aI 12 .nil (decide (g.aw>=12)) (fun ac w β hD lQ S=>?_) (fun ac w β hD lQ S=>?_)
 ·refine S.bo 13 .nil [GT.val (⟨g.prog,g.acc,12,g.written,g.live,g.aN,g.aC,g.exit,g.halted,g.seen⟩:ax) (⟨af.prog,af.written,af.live,af.seen⟩:c5)] fun ac w β S=>?_
  have e2:=hK (x:=(⟨g.prog,g.acc,12,g.written,g.live,g.aN,g.aC,g.exit,g.halted,g.seen⟩:ax)) (p:=(⟨af.prog,af.written,af.live,af.seen⟩:c5)) bL bq c3 dK d22 d23 d24 d25 d26 d27 i8 (show a_ 12 from⟨by decide,by decide⟩) i16 i17 i18
  exact cy S (show a5 g=(⟨g.prog,g.acc,12,g.written,g.live,g.aN,g.aC,g.exit,g.halted,g.seen⟩:ax) from TA) rfl e2
 refine S.bo 16 (.cons (cc g.aw 1) .nil) [GT.val (⟨g.prog,g.acc,(g.aw+1),g.written,g.live,g.aN,g.aC,g.exit,g.halted,g.seen⟩:ax) (⟨af.prog,af.written,af.live,af.seen⟩:c5)] fun ac w β S=>?_
 have l7:=hK (x:=(⟨g.prog,g.acc,(g.aw+1),g.written,g.live,g.aN,g.aC,g.exit,g.halted,g.seen⟩:ax)) (p:=(⟨af.prog,af.written,af.live,af.seen⟩:c5)) bL bq c3 dK d22 d23 d24 d25 d26 d27 i8 (show a_ (g.aw+1) from⟨by omega,by omega⟩) i16 i17 i18
 exact cy S (show a5 g=(⟨g.prog,g.acc,(g.aw+1),g.written,g.live,g.aN,g.aC,g.exit,g.halted,g.seen⟩:ax) from TA) rfl l7
theorem PE (w0:World) (g:ax) (bf:c5) (aJ:bQ w0 g bf):Calls Tryz.prog 51 [GT.val g bf].toArray w0 (dw ab w0 (a5 g:ax)):=by
 refine Calls.run ab Tryz.func51 ?_
 intro ac β S
 have iE:g.prog.length<=4194304:=ae.le (az.prog (d:=g) aJ)
 have iG:g.written.length<=4194304:=ae.le (az.written (d:=g) aJ)
 have iD:g.live.length<=4194304:=ae.le (az.live (d:=g) aJ)
 have iF:g.seen.length<=4194304:=ae.le (az.seen (d:=g) aJ)
 refine S.go 9 .nil fun ac w β S=>S.cJ (r:=a5 g) (d:=4) (xA w g bf (S.rd (S.arg aJ))) fun ac w N af br S up aA d4=>?_
 clear up d4
 refine S.bo 4 .nil [GT.val (a5 g) af] fun ac w β S=>?_
 exact cy S (show a5 g=(a5 g) by clear S;rfl) rfl aA
theorem Kx {p:Prop} (h:p:=by clear S;(first|(unfold fI;rw [if_pos (by omega)];done)|(unfold fI;rw [if_pos (by omega)];first|rfl|(simp;done))|(unfold fI;rw [if_neg (by omega)];done)|(unfold fI;rw [if_neg (by omega)];first|rfl|(simp;done)))):p:=h
theorem Pp (w0:World) (m:List (List Int)) (pm:aD (List Int)) (hm:bQ w0 m pm) (page:Int) (cell:Int):Calls Tryz.prog 53 [R m.length pm.1,aa page,aa cell].toArray w0 (fun e w'=>e= .returned (aa (fI m page cell))/\bB ab w0 w'):=by
 refine Calls.run ab Tryz.func53 ?_
 intro ac β S
 have q6:m.length<=4194304:=ae.le hm
 refine S.bd 14 (.cons (aE fun w hw=>js w page (m.length:Int) (by omega)) .nil) (!(a3 page 0 ((m.length:Int)-1))) (fun ac w β h1 S=>?_) (fun ac w β h1 S=>?_)
 ·have an:=cm h1
  have b7:=dn an
  exact S.aq 18 .nil [aa 0] (b4 Kx)
 have b1:=b9 h1
 have dJ:=cV b1
 have Hy:(el m page.toNat).length<=4194304:=ae.le (ae.el (S.arg hm) page.toNat (by omega))
 refine S.bd 11 (.cons (cq (S.arg hm) page Tryz.underlying22) (.cons (cj (S.arg hm) 38 page.toNat) (.cons (aE fun w hw=>js w cell ((el m page.toNat).length:Int) (by omega)) .nil))) (!(a3 cell 0 (((el m page.toNat).length:Int)-1))) (fun ac w β cE S=>?_) (fun ac w β cE S=>?_)
 ·have dc:=cm cE
  have fF:=dn dc
  exact S.aq 7 .nil [aa 0] (b4 Kx)
 have c2:=b9 cE
 have eb:=cV c2
 exact S.aq 16 (.cons (cq (S.arg hm) page Tryz.underlying22) (.cons (cj (S.arg hm) 38 page.toNat) (.cons (cq (ae.el (S.arg hm) page.toNat (by omega)) cell Tryz.underlying38) (.cons (cj (ae.el (S.arg hm) page.toNat (by omega)) 3 cell.toNat) .nil)))) [aa (el (el m page.toNat) cell.toNat)] (b4 Kx)
theorem TD {p:Prop} (h:p:=by clear S;(first|(unfold g7;rw [if_pos (by omega)];done)|(unfold g7;rw [if_pos (by omega)];first|rfl|(simp;done))|(unfold g7;rw [if_neg (by omega)];done)|(unfold g7;rw [if_neg (by omega)];first|rfl|(simp;done)))):p:=h
theorem PD (w0:World) (g:ax) (bf:c5) (aJ:bQ w0 g bf) (n:Int) (cY:a_ n):Calls Tryz.prog 138 [GT.val g bf,aa n].toArray w0 (dw ab w0 (g7 g n:ax)):=by
 refine Calls.run ab Tryz.func138 ?_
 intro ac β S
 have iE:g.prog.length<=4194304:=ae.le (az.prog (d:=g) aJ)
 have iG:g.written.length<=4194304:=ae.le (az.written (d:=g) aJ)
 have iD:g.live.length<=4194304:=ae.le (az.live (d:=g) aJ)
 have iF:g.seen.length<=4194304:=ae.le (az.seen (d:=g) aJ)
 have yD:=cY.lo;have yv:=cY.hi
 refine S.go 9 .nil fun ac w β S=>S.cJ (r:=g) (d:=7) (tc w g bf (S.rd (S.arg aJ))) fun ac w N af br S up aA d4=>?_
 clear up d4
 have i8:a_ g.acc:=az.acc (d:=g) aA.ak
 have i9:a_ g.aw:=az.aw (d:=g) aA.ak
 have i16:hz g.aN:=az.aN (d:=g) aA.ak
 have i17:a_ g.aC:=az.aC (d:=g) aA.ak
 have i18:fL g.exit:=az.exit (d:=g) aA.ak
 obtain⟨dU,dY,gf,kr,bL,bq,c3,dK,_,_,_,_,d22,d23,d24,d25,d26,d27⟩:=mP aA
 refine S.aI 13 .nil (decide ((g.seen.length:Int)<40)) (fun ac w β hD lQ S=>?_) (fun ac w β hD lQ S=>?_)
 ·refine S.go 5 .nil fun ac w β S=>S.h3 (α:=Int) (x:=n) (p:=()) (F:=ab) cY (fun b h=>False.elim h) (fun b h=>False.elim h) (d:=15) fun ac w N mN qI S up fZ d33=>?_
  replace bL:=bL.up up
  replace bq:=bq.up up
  replace c3:=c3.up up
  replace dK:=dK.up up
  clear up d33
  refine S.kq (α:=Int) dK fZ.ak (fun _ _ h=>h) (by':=8) (d:=16) (lx:=g.seen.length) (ly:=1) rfl rfl (show _<=4194304 by simp only [List.length_append,List.length_cons,List.length_nil];omega) fun ac w N lB xh S up kj d41=>?_
  have d42:=d41 _ d24 bL.sub
  have d43:=d41 _ d26 bq.sub
  have d44:=d41 _ d27 c3.sub
  replace bL:=bL.bk d24 up
  replace bq:=bq.bk d26 up
  replace c3:=c3.bk d27 up
  clear up d41
  refine S.bo 11 .nil [GT.val (⟨g.prog,g.acc,g.aw,g.written,g.live,g.aN,g.aC,g.exit,g.halted,(g.seen++[n])⟩:ax) (⟨af.prog,af.written,af.live,lB⟩:c5)] fun ac w β S=>?_
  have hr:=hK (x:=(⟨g.prog,g.acc,g.aw,g.written,g.live,g.aN,g.aC,g.exit,g.halted,(g.seen++[n])⟩:ax)) (p:=(⟨af.prog,af.written,af.live,lB⟩:c5)) bL bq c3 kj d22 d23 d42 d25 d43 d44 i8 i9 i16 i17 i18
  exact cy S (show g7 g n=(⟨g.prog,g.acc,g.aw,g.written,g.live,g.aN,g.aC,g.exit,g.halted,(g.seen++[n])⟩:ax) from TD) rfl hr
 refine S.bo 10 .nil [GT.val g af] fun ac w β S=>?_
 have BZ:=hK (x:=g) (p:=af) bL bq c3 dK d22 d23 d24 d25 d26 d27 i8 i9 i16 i17 i18
 exact cy S (show g7 g n=g from TD) rfl BZ
theorem Py (w0:World) (g:ax) (bf:c5) (aJ:bQ w0 g bf) (v:Int) (b2:a_ v):Calls Tryz.prog 52 [GT.val g bf,aa v].toArray w0 (dw ab w0 (ia g v:ax)):=by
 refine Calls.run ab Tryz.func52 ?_
 intro ac β S
 have iE:g.prog.length<=4194304:=ae.le (az.prog (d:=g) aJ)
 have iG:g.written.length<=4194304:=ae.le (az.written (d:=g) aJ)
 have iD:g.live.length<=4194304:=ae.le (az.live (d:=g) aJ)
 have iF:g.seen.length<=4194304:=ae.le (az.seen (d:=g) aJ)
 have J8:=b2.lo;have JP:=b2.hi
 refine S.go 17 .nil fun ac w β S=>S.cJ (r:=g7 (⟨g.prog,v,g.aw,g.written,g.live,g.aN,g.aC,g.exit,g.halted,g.seen⟩:ax) v) (d:=9) (PD w (⟨g.prog,v,g.aw,g.written,g.live,g.aN,g.aC,g.exit,g.halted,g.seen⟩:ax) (⟨bf.prog,bf.written,bf.live,bf.seen⟩:c5) (S.rd (show GT.rd b6 _ _ (⟨g.prog,v,g.aw,g.written,g.live,g.aN,g.aC,g.exit,g.halted,g.seen⟩:ax) (⟨bf.prog,bf.written,bf.live,bf.seen⟩:c5) from⟨(az.prog (p:=bf) (d:=g) (S.arg aJ)),b2,(az.aw (d:=g) (S.arg aJ)),(az.written (p:=bf) (d:=g) (S.arg aJ)),(az.live (p:=bf) (d:=g) (S.arg aJ)),(az.aN (d:=g) (S.arg aJ)),(az.aC (d:=g) (S.arg aJ)),(az.exit (d:=g) (S.arg aJ)),(az.seen (p:=bf) (d:=g) (S.arg aJ))⟩)) v b2) fun ac w N af br S up aA d4=>?_
 clear up d4
 refine S.cJ (r:=a5 (g7 (⟨g.prog,v,g.aw,g.written,g.live,g.aN,g.aC,g.exit,g.halted,g.seen⟩:ax) v)) (d:=10) (xA w (g7 (⟨g.prog,v,g.aw,g.written,g.live,g.aN,g.aC,g.exit,g.halted,g.seen⟩:ax) v) af (S.rd aA.ak)) fun ac w N bM cT S up ao d8=>?_
 clear up d8
 refine S.bo 4 .nil [GT.val (a5 (g7 (⟨g.prog,v,g.aw,g.written,g.live,g.aN,g.aC,g.exit,g.halted,g.seen⟩:ax) v)) bM] fun ac w β S=>?_
 exact cy S (show ia g v=(a5 (g7 (⟨g.prog,v,g.aw,g.written,g.live,g.aN,g.aC,g.exit,g.halted,g.seen⟩:ax) v)) by clear S;rfl) rfl ao
theorem TJ {p:Prop} (h:p:=by clear S;(unfold fR;(repeat' split)<;>first|rfl|(exfalso;omega)|(exfalso;simp_all;done)|(exfalso;simp_all;omega)|(simp_all;done))):p:=h
theorem PL (w0:World) (want:Int):Calls Tryz.prog 140 [aa want].toArray w0 (fun e w'=>e= .returned (aa (fR want))/\bB ab w0 w'):=by
 refine Calls.run ab Tryz.func140 ?_
 intro ac β S
 refine S.aI 12 .nil (want==5) (fun ac w β h1 a8 S=>?_) (fun ac w β h1 a8 S=>?_)
 ·exact S.aq 7 .nil [aa 1] (b4 TJ)
 exact S.aq 9 .nil [aa 2] (b4 TJ)
theorem EZ {p:Prop} (h:p:=by clear S;(unfold hR;first|(rw [Bool.eq_iff_iff];simp_all;done)|(rw [Bool.eq_iff_iff];simp_all [a3];omega)|(simp_all;done))):p:=h
theorem HA (w0:World) (aY:Int) (hZ:Int):Calls Tryz.prog 151 [aa aY,aa hZ].toArray w0 (fun e w'=>e= .returned (B (hR aY hZ))/\bB ab w0 w'):=by
 refine Calls.run ab Tryz.func151 ?_
 intro ac β S
 refine S.bd 10 (.cons (aE fun w hw=>hh w aY 0 3) .nil) (a3 aY 0 3) (fun ac w β h1 S=>?_) (fun ac w β h1 S=>?_)
 ·have a8:=cV h1
  refine S.aI 3 .nil (hZ==1) (fun ac w β aF cC S=>?_) (fun ac w β aF cC S=>?_)
  ·exact S.aq 14 (.cons (qO (x:=aY) (y:=hZ)) .nil) [B ((jK aY hZ) != 0)] (a6 EZ)
  refine S.aI 5 .nil (hZ==2) (fun ac w β bm c6 S=>?_) (fun ac w β bm c6 S=>?_)
  ·exact S.aq 9 (.cons (qO (x:=aY) (y:=hZ)) .nil) [B ((jK aY hZ) != 0)] (a6 EZ)
  exact S.aq 9 .nil [B false] (a6 EZ)
 have gH:=dn h1
 exact S.aq 17 .nil [B false] (a6 EZ)
theorem YP (w0:World) (outer:Int) (inner:Int) (hZ:Int):Calls Tryz.prog 139 [aa outer,aa inner,aa hZ].toArray w0 (fun e w'=>e= .returned (aa (hT outer inner hZ))/\bB ab w0 w'):=by
 refine Calls.run ab Tryz.func139 ?_
 intro ac β S
 refine S.bd 15 (.cons (aE fun w hw=>HA w inner hZ) .nil) (hR inner hZ) (fun ac w β h1 S=>?_) (fun ac w β h1 S=>?_)
 ·exact S.aq 7 .nil [aa 1] (b4 (by clear S;(simp [hT, *])))
 refine S.bd 9 (.cons (aE fun w hw=>HA w outer hZ) .nil) (hR outer hZ) (fun ac w β an S=>?_) (fun ac w β an S=>?_)
 ·exact S.aq 7 .nil [aa 2] (b4 (by clear S;(simp [hT, *])))
 exact S.aq 10 .nil [aa 0] (b4 (by clear S;(simp [hT, *])))
theorem YO (w0:World) (n:Int) (cY:a_ n):Calls Tryz.prog 254 [aa n].toArray w0 (fun e w'=>e= .returned (GT.val (mq n) ())/\bB ab w0 w'):=by
 refine Calls.run ab Tryz.func254 ?_
 intro ac β S
 have yD:=cY.lo;have yv:=cY.hi
 exact S.aq 13 (.cons (fY (s:=Instr.build 68 [(0,aa 3),(3,aa n)].toArray) (v:= .agg [aa 3,aa 0,B false,aa n].toArray) (fun w=>by kernel_rfl)) .nil) [GT.val (⟨3,0,false,n⟩:dg) ()] (hX (p:=()) (by clear S;rfl))
theorem TK {p:Prop} (h:p:=by clear S;(unfold mv;(repeat' split)<;>first|rfl|(exfalso;omega)|(exfalso;simp_all;done)|(exfalso;simp_all;omega)|(simp_all;done))):p:=h
theorem PM (w0:World) (x:ax) (ir:c5) (hx:bQ w0 x ir) (want:Int):Calls Tryz.prog 141 [GT.val x ir,aa want].toArray w0 (dw ab w0 (mv x want:ax)):=by
 refine Calls.run ab Tryz.func141 ?_
 intro ac β S
 have SV:x.prog.length<=4194304:=ae.le (az.prog (d:=x) hx)
 have SX:x.written.length<=4194304:=ae.le (az.written (d:=x) hx)
 have SU:x.live.length<=4194304:=ae.le (az.live (d:=x) hx)
 have SW:x.seen.length<=4194304:=ae.le (az.seen (d:=x) hx)
 refine S.aI 13 .nil (want==5) (fun ac w β h1 a8 S=>?_) (fun ac w β h1 a8 S=>?_)
 ·refine S.go 2 .nil fun ac w β S=>?_
  refine dI ?_
  refine S.dR (f:=10) 9 (by kernel_rfl) (by kernel_rfl) fun w S=>?_
  refine S.hm 5 [0,1,2,3,4] [] [(7,.v (GT.val x ir)),(9,.v (R x.prog.length ir.prog.1)),(11,.v (aa x.aw))] .nil fun ac S=>?_
  refine S.iN 5 [] [(12,.v (GT.val (bG x.prog x.aw) ()))] 2 [] (.cons (aE fun w hw=>uS w x.prog ir.prog (bJ (az.prog (d:=x) (S.arg hx)) hw) x.aw) .nil) fun ac w β S=>?_
  refine S.a9 6 [6] [] [(13,.v (aa (bG x.prog x.aw).x))] .nil fun ac S=>?_
  refine S.iN 7 [] [(14,.v (GT.val (mq (bG x.prog x.aw).x) ()))] 2 [] (.cons (aE fun w hw=>YO w (bG x.prog x.aw).x (je.x (d:=(bG x.prog x.aw)) (l4 (az.prog (d:=x) (S.arg hx)) x.aw))) .nil) fun ac w β S=>?_
  refine ar.one (i:=8) (by kernel_rfl) ?_
  refine id (S.dB 15 (zY w x ir (S.rd (S.arg hx)) (mq (bG x.prog x.aw).x) (U0 (je.x (d:=(bG x.prog x.aw)) (l4 (az.prog (d:=x) (S.arg hx)) x.aw)))) fun ac w N sQ fg S up bX d6=>?_)
  refine ar.next S up (by kernel_rfl) ?_
  clear up d6
  refine S.c_ 9 [] [] 2 [(1,GT.cells ({x with exit:=(mq (bG x.prog x.aw).x)}:ax) sQ)] .nil fun ac w β S=>?_
  refine ar.done (by kernel_rfl) ?_ _
  refine S.ex fun S=>?_
  refine S.bo 2 .nil [GT.val ({x with exit:=(mq (bG x.prog x.aw).x)}:ax) sQ] fun ac w β S=>?_
  exact cy S (show mv x want=({x with exit:=(mq (bG x.prog x.aw).x)}:ax) from TK) rfl bX
 refine S.go 7 (.cons (fY (s:=Instr.build 68 [(0,aa 4)].toArray) (v:= .agg [aa 4,aa 0,B false,aa 0].toArray) (fun w=>by kernel_rfl)) .nil) fun ac w β S=>S.cJ (r:=({x with exit:=(⟨4,0,false,0⟩:dg)}:ax)) (d:=18) (zY w x ir (S.rd (S.arg hx)) (⟨4,0,false,0⟩:dg) (show fL (⟨4,0,false,0⟩:dg) from⟨(show a_ 4 from⟨by decide,by decide⟩),(show a_ 0 from⟨by decide,by decide⟩),(show a_ 0 from⟨by decide,by decide⟩)⟩)) fun ac w N ajs e7 S up bF d10=>?_
 clear up d10
 refine S.bo 4 .nil [GT.val ({x with exit:=(⟨4,0,false,0⟩:dg)}:ax) ajs] fun ac w β S=>?_
 exact cy S (show mv x want=({x with exit:=(⟨4,0,false,0⟩:dg)}:ax) from TK) rfl bF
theorem Pv (w0:World) (g:ax) (bf:c5) (aJ:bQ w0 g bf):Calls Tryz.prog 142 [GT.val g bf].toArray w0 (dw ab w0 (jD g:ax)):=by
 refine Calls.run ab Tryz.func142 ?_
 intro ac β S
 have iE:g.prog.length<=4194304:=ae.le (az.prog (d:=g) aJ)
 have iG:g.written.length<=4194304:=ae.le (az.written (d:=g) aJ)
 have iD:g.live.length<=4194304:=ae.le (az.live (d:=g) aJ)
 have iF:g.seen.length<=4194304:=ae.le (az.seen (d:=g) aJ)
 refine S.go 15 .nil fun ac w β S=>S.cJ (r:=a5 (⟨g.prog,g.acc,g.aw,g.written,g.live,g.aN,g.aC,g.exit,true,g.seen⟩:ax)) (d:=5) (xA w (⟨g.prog,g.acc,g.aw,g.written,g.live,g.aN,g.aC,g.exit,true,g.seen⟩:ax) (⟨bf.prog,bf.written,bf.live,bf.seen⟩:c5) (S.rd (show GT.rd b6 _ _ (⟨g.prog,g.acc,g.aw,g.written,g.live,g.aN,g.aC,g.exit,true,g.seen⟩:ax) (⟨bf.prog,bf.written,bf.live,bf.seen⟩:c5) from⟨(az.prog (p:=bf) (d:=g) (S.arg aJ)),(az.acc (d:=g) (S.arg aJ)),(az.aw (d:=g) (S.arg aJ)),(az.written (p:=bf) (d:=g) (S.arg aJ)),(az.live (p:=bf) (d:=g) (S.arg aJ)),(az.aN (d:=g) (S.arg aJ)),(az.aC (d:=g) (S.arg aJ)),(az.exit (d:=g) (S.arg aJ)),(az.seen (p:=bf) (d:=g) (S.arg aJ))⟩))) fun ac w N af br S up aA d4=>?_
 clear up d4
 refine S.bo 4 .nil [GT.val (a5 (⟨g.prog,g.acc,g.aw,g.written,g.live,g.aN,g.aC,g.exit,true,g.seen⟩:ax)) af] fun ac w β S=>?_
 exact cy S (show jD g=(a5 (⟨g.prog,g.acc,g.aw,g.written,g.live,g.aN,g.aC,g.exit,true,g.seen⟩:ax)) by clear S;rfl) rfl aA
theorem Y2 (w0:World) (xs:List aO) (cj:aD aO) (a7:Nat) (l5:a7<xs.length) (F:au) (hx:GT.own b6 F w0 xs cj) (eT:∀b,F b->b<w0.heap.size) (g:Int) (want:Int) (fC:0<=g/\g<(el xs a7).U.length) (gU:want=5\/want=7):Calls Tryz.prog 54 [bh cj.1.b (cj.1.off+a7*9),aa g,aa want].toArray w0 (Hr F cj w0 (xs.set a7 (ju (el xs a7) g (el (el xs a7).U g.toNat) want))):=by
 refine Calls.run F Tryz.func54 ?_
 intro ac β S
 have ew:ad w0 F w0 (fc w0.heap.size) F xs ((cj.1,cj.2):aD aO):=⟨hx,eT,fun b hb=> .inr hb⟩
 have ao7:xs.length<=4194304:=g4.le hx
 have sk:g.toNat<(el xs a7).U.length:=by omega
 have Bk:a_ (el xs a7).owned:=aU.owned (d:=(el xs a7)) (ae.el ew.ak a7 l5)
 refine S.aI 23 (.cons (iS ew.ak (t:=71) (k:=a7) (j:=3) (v:=R (el xs a7).U.length (cj.2 a7).U.1) l5 (by kernel_rfl) (by kernel_rfl)) (.cons (cq (aU.U (d:=(el xs a7)) (ae.el ew.ak a7 l5)) g Tryz.underlying71) (.cons (dz (aU.U (d:=(el xs a7)) (ae.el ew.ak a7 l5)) 70 g.toNat) (.cons (iS ew.ak (t:=3) (k:=a7) (j:=6) (v:=aa (el xs a7).aY) l5 (by kernel_rfl) (by kernel_rfl)) (.cons (aE fun w hw=>PL w want) (.cons (aE fun w hw=>YP w (el xs a7).aY (el (el xs a7).U g.toNat).aN.aY (fR want)) .nil)))))) ((hT (el xs a7).aY (el (el xs a7).U g.toNat).aN.aY (fR want))==1) (fun ac w β h1 a8 S=>?_) (fun ac w β h1 a8 S=>?_)
 ·clear h1
  refine S.go 2 .nil fun ac w β S=>?_
  refine dI ?_
  refine S.dR (f:=10) 9 (by kernel_rfl) (by kernel_rfl) fun w S=>?_
  refine S.a9 0 [0] [] [(27,.v (bh cj.1.b (cj.1.off+a7*9)))] .nil fun ac S=>?_
  refine S.a9 1 [1] [] [(28,.v (bh cj.1.b (cj.1.off+a7*9)))] .nil fun ac S=>?_
  refine S.a9 2 [2] [] [(29,.v (bh cj.1.b (cj.1.off+a7*9+3)))] .nil fun ac S=>?_
  refine S.a9 3 [3] [] [(30,.v (R (el xs a7).U.length (cj.2 a7).U.1))] (.cons (iS ew.ak (t:=71) (k:=a7) (j:=3) (v:=R (el xs a7).U.length (cj.2 a7).U.1) l5 (by kernel_rfl) (by kernel_rfl)) .nil) fun ac S=>?_
  refine S.a9 4 [4] [] [(31,.v (aa g))] .nil fun ac S=>?_
  refine S.a9 5 [5] [] [(32,.v (GT.val (el (el xs a7).U g.toNat) ((cj.2 a7).U.2 g.toNat)))] .nil fun ac S=>?_
  refine S.a9 6 [6] [] [(33,.v (aa want))] .nil fun ac S=>?_
  refine ar.one (i:=7) (by kernel_rfl) ?_
  refine id (S.dB 34 (PM w (el (el xs a7).U g.toNat) ((cj.2 a7).U.2 g.toNat) (S.rd (ae.el (aU.U (d:=(el xs a7)) (ae.el ew.ak a7 l5)) g.toNat sk)) want) fun ac w N af zy S up BS z7=>?_)
  refine ar.next S up (by kernel_rfl) ?_
  have te:=J.w z7 ew.sub
  replace ew:=ew.up up
  refine S.a9 8 [8] [] [(34,.v (GT.val (mv (el (el xs a7).U g.toNat) want) af)),(35,.v (bh (cj.2 a7).U.1.b ((cj.2 a7).U.1.off+g.toNat*15)))] (.cons (cq (aU.U (d:=(el xs a7)) (ae.el ew.ak a7 l5)) g Tryz.underlying71 (hi:=sk)) .nil) fun ac S=>?_
  refine ar.one (i:=9) (by kernel_rfl) ?_
  obtain⟨Ox,tW,CG,zT⟩:=pk ew (k:=a7) l5
  have BG:=tW.sub
  refine id (S.kU (α:=ax) tW (t:=70) (k:=g.toNat) (off:=(cj.2 a7).U.1.off+g.toNat*15) BS (J.part te CG) (hk:=sk) fun w N Oz VJ S up B0 Qu CI BH=>?_)
  refine ar.last (by kernel_rfl) ?_
  obtain⟨Vk,B3,Pf⟩:=zT _ _ _ _ _ zy up B0 CI te (by show [R _ _]=[R _ _];rw [List.length_set]) (fun b h=>BH b (BG b h))
  replace S:=S.z (σ':=⟨[(34,.v (GT.val (mv (el (el xs a7).U g.toNat) want) af))],[GT.cells (el (el xs a7).U g.toNat) ((cj.2 a7).U.2 g.toNat)]⟩)
  refine ar.done (by kernel_rfl) ?_ _
  refine S.ex fun S=>?_
  refine S.bo 2 .nil [] fun ac w β S=>?_
  exact Nu S (show(xs.set a7 (ju (el xs a7) g (el (el xs a7).U g.toNat) want))=(xs.set a7 ({el xs a7 with U:=(el xs a7).U.set g.toNat (mv (el (el xs a7).U g.toNat) want)})) from agD gU a8) B3
 refine S.go 4 .nil fun ac w β S=>?_
 refine iw S (fun ac w=>∃(gu:Int) (iK:Nat->ft) (cd:au) (u:_) (N:_) (β:_),gu=gq (el xs a7) (el (el xs a7).U g.toNat) want/\aj Tryz.prog Tryz.f54.ntmps w0 F u N β ⟨[(0,.v (bh cj.1.b (cj.1.off+a7*9))),(1,.v (aa g)),(2,.v (aa want)),(6,.p 0 0)],[GT.cells (el (el xs a7).U g.toNat) ((cj.2 a7).U.2 g.toNat)]⟩ ac w/\ad w0 F u N cd (xs.set a7 ({el xs a7 with owned:=gu}:aO)) ((cj.1,iK):aD aO)/\iK a7=cj.2 a7) ?_ ?_
 ·clear S;intro S
  refine S.aI 5 .nil ((hT (el xs a7).aY (el (el xs a7).U g.toNat).aN.aY (fR want))==2) (fun ac w β aF b7 S=>?_) (fun ac w β aF b7 S=>?_)
  ·refine S.aI 8 (.cons (iS ew.ak (t:=3) (k:=a7) (j:=8) (v:=aa (el xs a7).owned) l5 (by kernel_rfl) (by kernel_rfl)) .nil) (decide ((el xs a7).owned<1000000000)) (fun ac w β b1 cC S=>?_) (fun ac w β b1 cC S=>?_)
   ·refine S.go 9 (.cons (iS ew.ak (t:=3) (k:=a7) (j:=8) (v:=aa (el xs a7).owned) l5 (by kernel_rfl) (by kernel_rfl)) (.cons (cc ((el xs a7).owned) 1 ⟨by have:=Bk.lo;omega,by omega⟩) .nil)) fun ac w β S=>S.Hs (α:=aO) (Fy:=ab) (t:=3) (k:=a7) (j:=8) (off:=cj.1.off+a7*9+8) (v:=aa ((el xs a7).owned+1)) (y:=({el xs a7 with owned:=(el xs a7).owned+1}:aO)) (q:=cj.2 a7) ew l5 (show 8+1<=9 by decide) (fun G fv _=>⟨G,MB fv (⟨by have:=Bk.lo;omega,by omega⟩),fun _ h=> .inl h⟩) J.ahA.symm (fun _ h=>False.elim h) (fun _ h=>False.elim h) fun w N bU S up o d s n=>?_
    exact S.dG 30 .nil fun ac w β S=>⟨rfl,(el xs a7).owned+1,_,bU,_,_,_,(aiN gU b7 cC).symm,S.z,o,if_pos rfl⟩
   exact S.dG 30 .nil fun ac w β S=>⟨rfl,(el xs a7).owned,cj.2,F,_,_,_,(Mw (.inr cC)).symm,S.z,by rw [V5 l5];exact ew,rfl⟩
  exact S.dG 30 .nil fun ac w β S=>⟨rfl,(el xs a7).owned,cj.2,F,_,_,_,(Mw (.inl b7)).symm,S.z,by rw [V5 l5];exact ew,rfl⟩
 clear S ew
 rintro ac w ⟨gu,iK,cd,u,N,β,S3,S,ew,afj⟩
 obtain⟨X,fT⟩:∃X,X=xs.set a7 ({el xs a7 with owned:=gu}:aO):=⟨_,rfl⟩
 rw [←fT] at ew
 have aoG:X.length=xs.length:=by rw [fT,List.length_set]
 have pD:a7<X.length:=by omega
 have he:el X a7=({el xs a7 with owned:=gu}:aO):=by rw [fT,dW l5]
 have ED:(el X a7).U=(el xs a7).U:=by rw [he]
 have wc:(iK a7).U=(cj.2 a7).U:=by rw [afj]
 have SK:g.toNat<(el X a7).U.length:=by rw [ED];exact sk
 refine S.ex fun S=>?_
 refine S.aI 8 .nil (want==7) (fun ac w β bm dJ S=>?_) (fun ac w β bm dJ S=>?_)
 ·clear bm
  refine S.go 2 .nil fun ac w β S=>?_
  refine dI ?_
  refine S.dR (f:=9) 8 (by kernel_rfl) (by kernel_rfl) fun w S=>?_
  refine S.a9 0 [0] [] [(54,.v (bh cj.1.b (cj.1.off+a7*9)))] .nil fun ac S=>?_
  refine S.a9 1 [1] [] [(55,.v (bh cj.1.b (cj.1.off+a7*9)))] .nil fun ac S=>?_
  refine S.a9 2 [2] [] [(56,.v (bh cj.1.b (cj.1.off+a7*9+3)))] .nil fun ac S=>?_
  refine S.a9 3 [3] [] [(57,.v (R (el X a7).U.length (iK a7).U.1))] (.cons (iS ew.ak (t:=71) (k:=a7) (j:=3) (v:=R (el X a7).U.length (iK a7).U.1) pD (by kernel_rfl) (by kernel_rfl)) .nil) fun ac S=>?_
  refine S.a9 4 [4] [] [(58,.v (aa g))] .nil fun ac S=>?_
  refine S.a9 5 [5] [] [(59,.v (GT.val (el (el xs a7).U g.toNat) ((cj.2 a7).U.2 g.toNat)))] .nil fun ac S=>?_
  refine ar.one (i:=6) (by kernel_rfl) ?_
  refine id (S.dB 60 (Pv w (el (el xs a7).U g.toNat) ((cj.2 a7).U.2 g.toNat) (S.rd (kn ew ED wc pD sk))) fun ac w N af zy S up BS z7=>?_)
  refine ar.next S up (by kernel_rfl) ?_
  have te:=J.w z7 ew.sub
  replace ew:=ew.up up
  refine S.a9 7 [7] [] [(60,.v (GT.val (jD (el (el xs a7).U g.toNat)) af)),(61,.v (bh (iK a7).U.1.b ((iK a7).U.1.off+g.toNat*15)))] (.cons (cq (aU.U (d:=(el X a7)) (ae.el ew.ak a7 pD)) g Tryz.underlying71 (hi:=SK)) .nil) fun ac S=>?_
  refine ar.one (i:=8) (by kernel_rfl) ?_
  obtain⟨Ox,tW,CG,zT⟩:=pk ew (k:=a7) pD
  have BG:=tW.sub
  refine id (S.kU (α:=ax) tW (t:=70) (k:=g.toNat) (off:=(iK a7).U.1.off+g.toNat*15) BS (J.part te CG) (hk:=SK) fun w N Oz VJ S up B0 Qu CI BH=>?_)
  refine ar.last (by kernel_rfl) ?_
  obtain⟨Vk,B3,Pf⟩:=zT _ _ _ _ _ zy up B0 CI te (by show [R _ _]=[R _ _];rw [List.length_set]) (fun b h=>BH b (BG b h))
  replace S:=S.z (σ':=⟨[(60,.v (GT.val (jD (el (el xs a7).U g.toNat)) af))],[GT.cells (el (el xs a7).U g.toNat) ((cj.2 a7).U.2 g.toNat)]⟩)
  refine ar.done (by kernel_rfl) ?_ _
  refine S.ex fun S=>?_
  refine S.bo 2 .nil [] fun ac w β S=>?_
  exact Nu S (show(xs.set a7 (ju (el xs a7) g (el (el xs a7).U g.toNat) want))=(X.set a7 ({el X a7 with U:=(el X a7).U.set g.toNat (jD (el (el xs a7).U g.toNat))})) from agB fT he S3 a8 dJ) B3
 have afB:want=5:=by omega
 have J9:(el X a7).outs=(el xs a7).outs:=by rw [he]
 refine S.go 4 .nil fun ac w β S=>?_
 refine iw S (fun ac w=>∃(os:List Int) (mc:Nat->ft) (br:au) (u:_) (N:_) (β:_),os=(if(el xs a7).outs.length<40 then(el xs a7).outs++[(bG (el (el xs a7).U g.toNat).prog (el (el xs a7).U g.toNat).aw).x] else(el xs a7).outs)/\aj Tryz.prog Tryz.f54.ntmps w0 F u N β ⟨[(0,.v (bh cj.1.b (cj.1.off+a7*9))),(1,.v (aa g)),(6,.p 0 0)],[GT.cells (el (el xs a7).U g.toNat) ((cj.2 a7).U.2 g.toNat)]⟩ ac w/\ad w0 F u N br (xs.set a7 ({el xs a7 with owned:=gu,outs:=os}:aO)) ((cj.1,mc):aD aO)/\(mc a7).U=(cj.2 a7).U) ?_ ?_
 ·clear S;intro S
  have nI:(el X a7).outs.length<=4194304:=ae.le (aU.outs (d:=(el X a7)) (ae.el ew.ak a7 pD))
  refine S.aI 10 (.cons (iS ew.ak (t:=38) (k:=a7) (j:=4) (v:=R (el X a7).outs.length (iK a7).outs.1) pD (by kernel_rfl) (by kernel_rfl)) .nil) (decide (((el X a7).outs.length:Int)<40)) (fun ac w β cS c6 S=>?_) (fun ac w β cS c6 S=>?_)
  ·refine S.go 1 .nil fun ac w β S=>?_
   refine dI ?_
   let w9:b3:=⟨[(0,.v (bh cj.1.b (cj.1.off+a7*9))),(1,.v (aa g)),(6,.p 0 0),(67,.v (B true))],[GT.cells (el (el xs a7).U g.toNat) ((cj.2 a7).U.2 g.toNat)]⟩
   obtain⟨bw,bt,bP,S,ew⟩:∃bw bt bP,aj Tryz.prog Tryz.f54.ntmps w0 F bw bt bP w9 ac w/\ad w0 F bw bt cd X ((cj.1,iK):aD aO):=⟨_,_,_,S.z,ew⟩
   refine me (fun ac w=>∃(mc:Nat->ft) (C6:au) (u:_) (N:_) (β:_),aj Tryz.prog Tryz.f54.ntmps w0 F u N β ⟨[(0,.v (bh cj.1.b (cj.1.off+a7*9))),(1,.v (aa g)),(6,.p 0 0)],[GT.cells (el (el xs a7).U g.toNat) ((cj.2 a7).U.2 g.toNat)]⟩ ac w/\ad w0 F u N C6 (X.set a7 (({el X a7 with outs:=((el X a7).outs++[(bG (el (el xs a7).U g.toNat).prog (el (el xs a7).U g.toNat).aw).x])}):aO)) ((cj.1,mc):aD aO)/\(mc a7).U=(iK a7).U) ?_ ?_
   ·refine S.dR (f:=16) 12 (by kernel_rfl) (by kernel_rfl) fun w S=>?_
    refine S.a9 1 [4,3,2,1] [] [(69,.v (bh cj.1.b (cj.1.off+a7*9)))] .nil fun ac S=>?_
    refine S.a9 2 [4,3,2] [] [(70,.v (bh cj.1.b (cj.1.off+a7*9)))] .nil fun ac S=>?_
    refine S.a9 3 [4,3] [] [(71,.v (bh cj.1.b (cj.1.off+a7*9+4)))] .nil fun ac S=>?_
    refine S.a9 4 [4] [] [(72,.v (R (el X a7).outs.length (iK a7).outs.1))] (.cons (iS ew.ak (t:=38) (k:=a7) (j:=4) (v:=R (el X a7).outs.length (iK a7).outs.1) pD (by kernel_rfl) (by kernel_rfl)) .nil) fun ac S=>?_
    refine S.a9 5 [9,6,5] [] [(73,.p 0 0)] .nil fun ac S=>?_
    refine S.a9 6 [9,6] [] [(74,.v (R (el (el xs a7).U g.toNat).prog.length ((cj.2 a7).U.2 g.toNat).prog.1))] .nil fun ac S=>?_
    refine S.a9 7 [9,8,7] [] [(75,.p 0 2)] .nil fun ac S=>?_
    refine S.a9 8 [9,8] [] [(76,.v (aa (el (el xs a7).U g.toNat).aw))] .nil fun ac S=>?_
    refine ar.mH fun W aG=>?_
    refine ar.mj (l':=cp 16 [1,2,3,4,5,6,7,8]) (by kernel_rfl) ?_
    have adT ac w (mc:Nat->ft) C6 u N β (S:aj Tryz.prog Tryz.f54.ntmps w0 F u N β ⟨[(0,.v (bh cj.1.b (cj.1.off+a7*9))),(1,.v (aa g)),(6,.p 0 0)],[GT.cells (el (el xs a7).U g.toNat) ((cj.2 a7).U.2 g.toNat)]⟩ ac w) (sD:ad w0 F u N C6 (X.set a7 (({el X a7 with outs:=((el X a7).outs++[(bG (el (el xs a7).U g.toNat).prog (el (el xs a7).U g.toNat).aw).x])}):aO)) ((cj.1,mc):aD aO)) (Kf:(mc a7).U=(iK a7).U):W 0 (cp 16 [0,1,2,3,4,5,6,7,8,9,10,11,12,13,14,15]) ac w:=by
     exact mL aG ⟨rfl,mc,C6,_,_,_,S.z,sD,Kf⟩
    have adU ac w rz zw u N β (S:aj Tryz.prog Tryz.f54.ntmps w0 F u N β (w9.dl [67] [(68,.v (bh cj.1.b (cj.1.off+a7*9))),(72,.v (R (el X a7).outs.length (iK a7).outs.1)),(79,.v (R 1 rz.1))] 1 []) ac w) (ew:ad w0 F u N cd X ((cj.1,iK):aD aO)) (Fu:ad w0 F u N zw ([(bG (el (el xs a7).U g.toNat).prog (el (el xs a7).U g.toNat).aw).x]) rz) (d146:J cd zw) (al:d_ bt bw N u) (aP:cR w9.aM.length bP β):W 4 (cp 16 [0,1,2,3,4,5,6,7,8,9,10,11]) ac w:=by
     refine eo aG 12 ?_
     have amB:(el X a7).outs.length<=4194304:=ae.le (aU.outs (d:=(el X a7)) (ae.el ew.ak a7 pD))
     refine id (S.Hx ew a7 Fu.ak (by':=8) (d:=80) pD (show(el X a7).outs.length+([(bG (el (el xs a7).U g.toNat).prog (el (el xs a7).U g.toNat).aw).x]).length<=4194304 by simp only [List.length_cons,List.length_nil];omega) fun ac w N g2 WG S up LI aqF alj Ob Fp alk=>?_)
     refine ar.c_ fun bj=>?_
     have d160:=Ob _ Fu.sub
     have d161:=Ob _ ew.sub
     replace Fu:=Fu.bk (J.symm d146) up
     clear up Ob ew
     refine S.cX (σ':=⟨[(0,.v (bh cj.1.b (cj.1.off+a7*9))),(1,.v (aa g)),(6,.p 0 0),(80,.v (R ((el X a7).outs++[(bG (el (el xs a7).U g.toNat).prog (el (el xs a7).U g.toNat).aw).x]).length g2.1)),(82,.v (bh cj.1.b (cj.1.off+a7*9+4)))],[GT.cells (el (el xs a7).U g.toNat) ((cj.2 a7).U.2 g.toNat)]⟩) (f:=1) (l2:=cp 16 [0,1,2,3,4,5,6,7,8,9,10,11,12,13,14]) aG [13,14] bj fun _ S=>?_
     refine eo aG 15 ?_
     refine id (aj.qD S (hx:=LI) (t:=38) (k:=a7) (j:=4) (off:=cj.1.off+a7*9+4) (v:=R ((el X a7).outs++[(bG (el (el xs a7).U g.toNat).prog (el (el xs a7).U g.toNat).aw).x]).length g2.1) (y:=({el X a7 with outs:=((el X a7).outs++[(bG (el (el xs a7).U g.toNat).prog (el (el xs a7).U g.toNat).aw).x])}:aO)) (q:=({iK a7 with outs:=g2}:ft)) (hop:=by kernel_rfl) (hoff:=by kernel_rfl) (hk:=pD) (hs:=by kernel_rfl) (hpl:=by kernel_rfl) (hjw:=show 4+1<=9 by decide) (hc:=by kernel_rfl) (hy:=alj) (hd:=d161) (hyN:=Fp) (hyY:=alk) (K:=fun w N Ol S up iI d165 aqJ aqi=>?_))
     refine ar.c_ fun bj=>?_
     replace S:=S.z (σ':=⟨[(0,.v (bh cj.1.b (cj.1.off+a7*9))),(1,.v (aa g)),(6,.p 0 0)],[GT.cells (el (el xs a7).U g.toNat) ((cj.2 a7).U.2 g.toNat)]⟩)
     exact S.cX aG [] bj fun _ S=>adT _ _ _ Ol _ _ _ S iI (by simp)
    have adZ ac w u N β (S:aj Tryz.prog Tryz.f54.ntmps w0 F u N β (w9.dl [67] [(68,.v (bh cj.1.b (cj.1.off+a7*9))),(72,.v (R (el X a7).outs.length (iK a7).outs.1)),(78,.v (aa (bG (el (el xs a7).U g.toNat).prog (el (el xs a7).U g.toNat).aw).x))] 1 []) ac w) (ew:ad w0 F u N cd X ((cj.1,iK):aD aO)) (al:d_ bt bw N u) (aP:cR w9.aM.length bP β):W 5 (cp 16 [0,1,2,3,4,5,6,7,8,9,10]) ac w:=by
     refine eo aG 11 ?_
     refine id (S.p2 (α:=Int) (x:=(bG (el (el xs a7).U g.toNat).prog (el (el xs a7).U g.toNat).aw).x) (p:=()) (F:=ab) (je.x (d:=(bG (el (el xs a7).U g.toNat).prog (el (el xs a7).U g.toNat).aw)) (l4 (az.prog (d:=(el (el xs a7).U g.toNat)) (kn ew ED wc pD sk)) (el (el xs a7).U g.toNat).aw)) (fun b h=>False.elim h) (fun b h=>False.elim h) (d:=79) (by kernel_rfl) fun ac w N ajj WJ S up ahI d173=>?_)
     have Sq:=fun b h=>(⟨(up b (al b h).1).1,(up b (al b h).1).2.trans (al b h).2⟩:_/\_)
     refine ar.de S Sq aP fun bj=>?_
     have d175:=d173 _ (fun b _ h=>False.elim h) ew.sub
     replace ew:=ew.up up
     clear up d173
     exact S.cX aG [] bj fun _ S=>adU _ _ ajj WJ _ _ _ S ew ahI d175 Sq aP
    have ad0 ac w u N β (S:aj Tryz.prog Tryz.f54.ntmps w0 F u N β (w9.dl [67] [(68,.v (bh cj.1.b (cj.1.off+a7*9))),(72,.v (R (el X a7).outs.length (iK a7).outs.1)),(74,.v (R (el (el xs a7).U g.toNat).prog.length ((cj.2 a7).U.2 g.toNat).prog.1)),(76,.v (aa (el (el xs a7).U g.toNat).aw))] 1 []) ac w) (ew:ad w0 F u N cd X ((cj.1,iK):aD aO)) (al:d_ bt bw N u) (aP:cR w9.aM.length bP β):W 7 (cp 16 [0,1,2,3,4,5,6,7,8]) ac w:=by
     exact eo aG 9 (S.e_ aG al aP [10] (.cons (aE fun w hw=>uS w (el (el xs a7).U g.toNat).prog ((cj.2 a7).U.2 g.toNat).prog (bJ (az.prog (d:=(el (el xs a7).U g.toNat)) (kn ew ED wc pD sk)) hw) (el (el xs a7).U g.toNat).aw) .nil) fun _ _ _ S cb=>adZ _ _ _ _ _ S ew al cb)
    rw [aG]
    exact S.cX aG [0] (fun _=>S.um) fun _ S=>ad0 _ _ _ _ _ S ew (fun _ h=>⟨h,rfl⟩) (fun _ _=>rfl)
   clear S ew
   rintro ac w ⟨mc,br,u,N,β,S,bK,Kf⟩
   refine S.ex fun S=>?_
   rw [J9] at bK
   exact S.dG 30 .nil fun ac w β S=>⟨rfl,_,mc,br,_,_,_,(if_pos (by rw [←J9];omega)).symm,S.z,by rw [he,fT,List.set_set] at bK;exact bK,Kf.trans wc⟩
  exact S.dG 30 .nil fun ac w β S=>⟨rfl,_,iK,cd,_,_,_,(if_neg (by rw [←J9];omega)).symm,S.z,by rw [fT] at ew;exact ew,wc⟩
 clear S ew
 rintro ac w ⟨os,mc,br,u,N,β,Kc,S,ew,afk⟩
 obtain⟨mU,ys⟩:∃mU,mU=xs.set a7 ({el xs a7 with owned:=gu,outs:=os}:aO):=⟨_,rfl⟩
 rw [←ys] at ew
 have Fb:a7<mU.length:=by rw [ys,List.length_set];exact l5
 have kF:el mU a7=({el xs a7 with owned:=gu,outs:=os}:aO):=by rw [ys,dW l5]
 have S0:(el mU a7).U=(el xs a7).U:=by rw [kF]
 have SL:g.toNat<(el mU a7).U.length:=by rw [S0];exact sk
 refine S.ex fun S=>?_
 refine S.go 1 .nil fun ac w β S=>?_
 refine dI ?_
 refine S.dR (f:=9) 8 (by kernel_rfl) (by kernel_rfl) fun w S=>?_
 refine S.a9 0 [0] [] [(83,.v (bh cj.1.b (cj.1.off+a7*9)))] .nil fun ac S=>?_
 refine S.a9 1 [1] [] [(84,.v (bh cj.1.b (cj.1.off+a7*9)))] .nil fun ac S=>?_
 refine S.a9 2 [2] [] [(85,.v (bh cj.1.b (cj.1.off+a7*9+3)))] .nil fun ac S=>?_
 refine S.a9 3 [3] [] [(86,.v (R (el mU a7).U.length (mc a7).U.1))] (.cons (iS ew.ak (t:=71) (k:=a7) (j:=3) (v:=R (el mU a7).U.length (mc a7).U.1) Fb (by kernel_rfl) (by kernel_rfl)) .nil) fun ac S=>?_
 refine S.a9 4 [4] [] [(87,.v (aa g))] .nil fun ac S=>?_
 refine S.a9 5 [5] [] [(88,.v (GT.val (el (el xs a7).U g.toNat) ((cj.2 a7).U.2 g.toNat)))] .nil fun ac S=>?_
 refine ar.one (i:=6) (by kernel_rfl) ?_
 refine id (S.dB 89 (xA w (el (el xs a7).U g.toNat) ((cj.2 a7).U.2 g.toNat) (S.rd (kn ew S0 afk Fb sk))) fun ac w N af zy S up BS z7=>?_)
 refine ar.next S up (by kernel_rfl) ?_
 have te:=J.w z7 ew.sub
 replace ew:=ew.up up
 refine S.a9 7 [7] [] [(89,.v (GT.val (a5 (el (el xs a7).U g.toNat)) af)),(90,.v (bh (mc a7).U.1.b ((mc a7).U.1.off+g.toNat*15)))] (.cons (cq (aU.U (d:=(el mU a7)) (ae.el ew.ak a7 Fb)) g Tryz.underlying71 (hi:=SL)) .nil) fun ac S=>?_
 refine ar.one (i:=8) (by kernel_rfl) ?_
 obtain⟨Ox,tW,CG,zT⟩:=pk ew (k:=a7) Fb
 have BG:=tW.sub
 refine id (S.kU (α:=ax) tW (t:=70) (k:=g.toNat) (off:=(mc a7).U.1.off+g.toNat*15) BS (J.part te CG) (hk:=SL) fun w N Oz VJ S up B0 Qu CI BH=>?_)
 refine ar.last (by kernel_rfl) ?_
 obtain⟨Vk,B3,Pf⟩:=zT _ _ _ _ _ zy up B0 CI te (by show [R _ _]=[R _ _];rw [List.length_set]) (fun b h=>BH b (BG b h))
 replace S:=S.z (σ':=⟨[(89,.v (GT.val (a5 (el (el xs a7).U g.toNat)) af))],[GT.cells (el (el xs a7).U g.toNat) ((cj.2 a7).U.2 g.toNat)]⟩)
 refine ar.done (by kernel_rfl) ?_ _
 refine S.ex fun S=>?_
 refine S.bo 0 .nil [] fun ac w β S=>?_
 exact Nu S (show(xs.set a7 (ju (el xs a7) g (el (el xs a7).U g.toNat) want))=(mU.set a7 ({el mU a7 with U:=(el mU a7).U.set g.toNat (a5 (el (el xs a7).U g.toNat))})) from agC ys kF S3 a8 afB Kc) B3
theorem E1 {p:Prop} (h:p:=by clear S;(unfold ox;(repeat' split)<;>first|rfl|(exfalso;omega)|(exfalso;simp_all;done)|(exfalso;simp_all;omega))):p:=h
theorem YQ (w0:World) (h:ah) (ai:b_) (aX:bQ w0 h ai) (m:Int) (page:Int):Calls Tryz.prog 153 [GT.val h ai,aa m,aa page].toArray w0 (dw ab w0 (ox h m page:List Int)):=by
 refine Calls.run ab Tryz.func153 ?_
 intro ac β S
 have lZ:h.mem.length<=4194304:=ae.le (bu.mem (d:=h) aX)
 have l0:h.I.length<=4194304:=ae.le (bu.I (d:=h) aX)
 have lX:h.buf.length<=4194304:=ae.le (bu.buf (d:=h) aX)
 have lY:h.ag.length<=4194304:=ae.le (bu.ag (d:=h) aX)
 refine S.bd 16 (.cons (aE fun w hw=>js w m (h.I.length:Int) (by omega)) .nil) (!(a3 m 0 ((h.I.length:Int)-1))) (fun ac w β h1 S=>?_) (fun ac w β h1 S=>?_)
 ·have an:=cm h1
  have b7:=dn an
  refine S.go 9 .nil fun ac w β S=>S.mT (α:=Int) (m:=4) (by':=8) (d:=20) (by omega) (show 4<=4194304 by omega) fun ac w N qz dU S up bL d7=>?_
  clear up d7
  refine S.bo 4 .nil [R 4 qz.1] fun ac w β S=>?_
  exact cy S (show ox h m page=(List.replicate 4 (GT.eR:Int)) from E1) (by rw [show 4=(List.replicate 4 (GT.eR:Int)).length from(by simp)];rfl) bL
 have dc:=b9 h1
 have fF:=cV dc
 refine S.bd 6 (.cons (aE fun w hw=>js w page 8 (by omega)) .nil) (!(a3 page 0 (8-1))) (fun ac w β c2 S=>?_) (fun ac w β c2 S=>?_)
 ·have eS:=cm c2
  have ie:=dn eS
  refine S.go 3 .nil fun ac w β S=>S.mT (α:=Int) (m:=4) (by':=8) (d:=20) (by omega) (show 4<=4194304 by omega) fun ac w N j5 e6 S up ba d16=>?_
  clear up d16
  refine S.bo 4 .nil [R 4 j5.1] fun ac w β S=>?_
  exact cy S (show ox h m page=(List.replicate 4 (GT.eR:Int)) from E1) (by rw [show 4=(List.replicate 4 (GT.eR:Int)).length from(by simp)];rfl) ba
 have jH:=b9 c2
 have po:=cV jH
 refine S.aI 32 (.cons (cq (bu.I (d:=h) (S.arg aX)) m Tryz.underlying28) (.cons (dz (bu.I (d:=h) (S.arg aX)) 74 m.toNat) (.cons (aE fun w hw=>HF w (el h.I m.toNat).outer (ai.I.2 m.toNat).outer (bJ (aU.outer (d:=(el h.I m.toNat)) (ae.el (bu.I (d:=h) (S.arg aX)) m.toNat (by omega))) hw) page) .nil))) ((eV (el h.I m.toNat).outer page).page != (-1)) (fun ac w β hU m9 S=>?_) (fun ac w β hU m9 S=>?_)
 ·refine S.go 7 .nil fun ac w β S=>S.cJ (r:=hn h.mem (eV (el h.I m.toNat).outer page).page) (d:=37) (HD w h.mem ai.mem (S.rd (bu.mem (d:=h) (S.arg aX))) (eV (el h.I m.toNat).outer page).page) fun ac w N c9 fJ S up bb d24=>?_
  clear up d24
  refine S.bo 4 .nil [R (hn h.mem (eV (el h.I m.toNat).outer page).page).length c9.1] fun ac w β S=>?_
  exact cy S (show ox h m page=(hn h.mem (eV (el h.I m.toNat).outer page).page) from E1) rfl bb
 refine S.go 8 .nil fun ac w β S=>S.cJ (r:=hn (el h.I m.toNat).out page) (d:=41) (HD w (el h.I m.toNat).out (ai.I.2 m.toNat).out (S.rd (aU.out (d:=(el h.I m.toNat)) (ae.el (bu.I (d:=h) (S.arg aX)) m.toNat (by omega)))) page) fun ac w N kR lI S up dT d28=>?_
 clear up d28
 refine S.bo 4 .nil [R (hn (el h.I m.toNat).out page).length kR.1] fun ac w β S=>?_
 exact cy S (show ox h m page=(hn (el h.I m.toNat).out page) from E1) rfl dT
theorem TE {p:Prop} (h:p:=by clear S;(first|(unfold fk;rw [if_neg (Uj (by assumption))];done)|(unfold fk;rw [if_pos (tQ (by assumption)),wu (tQ (by assumption)),bz,show i=8 by omega]))):p:=h
theorem YU (w0:World) (h:ah) (ai:b_) (aX:bQ w0 h ai) (m:Int):Calls Tryz.prog 56 [GT.val h ai,aa m].toArray w0 (dw ab w0 (fk h m:cP)):=by
 refine Calls.run ab Tryz.func56 ?_
 intro ac β S
 have lZ:h.mem.length<=4194304:=ae.le (bu.mem (d:=h) aX)
 have l0:h.I.length<=4194304:=ae.le (bu.I (d:=h) aX)
 have lX:h.buf.length<=4194304:=ae.le (bu.buf (d:=h) aX)
 have lY:h.ag.length<=4194304:=ae.le (bu.ag (d:=h) aX)
 refine S.go 10 .nil fun ac w β S=>S.qN (r:=(aK h m).1) (r':=(aK h m).2) (d:=12) (HB w h ai (S.rd (S.arg aX)) m) fun ac w N af gB ei fg S up bX bL d7 d8 d9=>?_
 clear up d7
 clear d8
 have i25:a_ (aK h m).1.aC:=aU.aC (d:=(aK h m).1) bX.ak
 obtain⟨dY,gf,pU,kr,fJ,xf,bq,c3,ev,dK,bb,g9,_,_,_,_,_,_,_,_,_,_,_,_,_,_,_,_,_,_,d43,_,_⟩:=akv bX
 refine S.bd 15 .nil (!(aK h m).2) (fun ac w β oA S=>?_) (fun ac w β oA S=>?_)
 ·have r_:=cm oA
  refine S.bo 8 (.cons (fY (s:=Instr.build 98 [].toArray) (v:= .agg [R ([]:List (List Int)).length (GT.cZ (α:=List (List Int))).1,R ([]:List ax).length (GT.cZ (α:=List ax)).1,R ([]:List Int).length (GT.cZ (α:=List Int)).1,aa 0].toArray) (fun w=>by kernel_rfl)) .nil) [GT.val (⟨([]:List (List Int)),([]:List ax),([]:List Int),0⟩:cP) (⟨(GT.cZ (α:=List (List Int))),(GT.cZ (α:=List ax)),(GT.cZ (α:=List Int))⟩:jd)] fun ac w β S=>?_
  have tX:=S.mI (α:=List Int)
  have ht:=S.mI (α:=ax)
  have B1:=S.mI (α:=Int)
  have g_:=wI (x:=(⟨([]:List (List Int)),([]:List ax),([]:List Int),0⟩:cP)) (p:=(⟨(GT.cZ (α:=List (List Int))),(GT.cZ (α:=List ax)),(GT.cZ (α:=List Int))⟩:jd)) tX ht B1 (fun b _ h=>False.elim h) (fun b _ h=>False.elim h) (fun b _ h=>False.elim h) (show a_ 0 from⟨by decide,by decide⟩)
  exact cy S (show fk h m=(⟨([]:List (List Int)),([]:List ax),([]:List Int),0⟩:cP) from TE) rfl g_
 have sa:=b9 oA
 have aoo:=wv sa
 refine S.go 23 (.cons (fY (s:=Instr.build 98 [(1,R (aK h m).1.U.length af.U.1),(2,R (aK h m).1.outs.length af.outs.1),(3,aa (aK h m).1.aC)].toArray) (v:= .agg [R ([]:List (List Int)).length (GT.cZ (α:=List (List Int))).1,R (aK h m).1.U.length af.U.1,R (aK h m).1.outs.length af.outs.1,aa (aK h m).1.aC].toArray) (fun w=>by kernel_rfl)) .nil) fun ac w β S=>?_
 have nk:=S.mI (α:=List Int)
 refine c8 (fun a4 ac w=>∃(i:Nat) (acc:List (List Int)) (gm:_) (qL:_) (u:_) (N:_) (β:_),a4=8-i/\(i<=8)/\(acc=(List.range i).map (fun(j:Nat)=>ox h m (j:Int)))/\aj Tryz.prog Tryz.f56.ntmps w0 ab u N β ⟨[(1,.v (aa m)),(2,.p 0 0),(4,.p 1 0),(7,.p 3 0),(8,.v (aa (i:Int)))],[GT.cells h ai,cg cP,[R (aK h m).1.outer.length af.outer.1,R (aK h m).1.out.length af.out.1,R (aK h m).1.aT.length af.aT.1,R (aK h m).1.U.length af.U.1,R (aK h m).1.outs.length af.outs.1,aa (aK h m).1.aC,aa (aK h m).1.aY,R (aK h m).1.tables.length af.tables.1,aa (aK h m).1.owned],[R acc.length gm.1,R (aK h m).1.U.length af.U.1,R (aK h m).1.outs.length af.outs.1,aa (aK h m).1.aC]]⟩ ac w/\ad w0 ab u N qL acc gm/\ad w0 ab u N dY (aK h m).1.outer af.outer/\ad w0 ab u N gf (aK h m).1.out af.out/\ad w0 ab u N pU (aK h m).1.aT af.aT/\ad w0 ab u N kr (aK h m).1.U af.U/\ad w0 ab u N fJ (aK h m).1.outs af.outs/\ad w0 ab u N xf (aK h m).1.tables af.tables/\J qL dY/\J qL gf/\J qL pU/\J qL kr/\J qL fJ/\J qL xf) _ ⟨0,([]:List (List Int)),(GT.cZ (α:=List (List Int))),ab,_,_,_,rfl,cw,(by rfl),S.z,nk,bq,c3,ev,dK,bb,g9,(J.symm (fun b _ h=>False.elim h)),(J.symm (fun b _ h=>False.elim h)),(J.symm (fun b _ h=>False.elim h)),(J.symm (fun b _ h=>False.elim h)),(J.symm (fun b _ h=>False.elim h)),(J.symm (fun b _ h=>False.elim h))⟩ ?_
 clear S bq c3 ev dK bb g9 nk bL
 rintro f64 a4 aeH ac w ⟨i,acc,gm,qL,u,N,β,rfl,hi,bz,S,kM,bq,c3,ev,dK,bb,g9,d58,d59,d60,d61,d62,d63⟩
 refine S.rs fun S=>?_
 have gI:acc.length=i:=by rw [bz];simp
 refine S.aI 7 .nil (decide ((i:Int)<8)) (fun ac w β sc vg S=>?_) (fun ac w β sc vg S=>?_)
 ·refine S.go 5 .nil fun ac w β S=>?_
  refine dI ?_
  refine S.dR (f:=10) 7 (by kernel_rfl) (by kernel_rfl) fun w S=>?_
  refine S.a9 0 [1,0] [] [(29,.p 3 0)] .nil fun ac S=>?_
  refine S.a9 1 [1] [] [(30,.v (R acc.length gm.1))] .nil fun ac S=>?_
  refine S.a9 2 [5,2] [] [(31,.v (GT.val h ai))] .nil fun ac S=>?_
  refine S.a9 3 [5,3] [] [(32,.v (aa m))] .nil fun ac S=>?_
  refine S.a9 4 [5,4] [] [(33,.v (aa (i:Int)))] .nil fun ac S=>?_
  refine ar.one (i:=5) (by kernel_rfl) ?_
  refine id (S.dB 34 (YQ w h ai (S.rd (S.arg aX)) m (i:Int)) fun ac w N oV Hk S up iY d71=>?_)
  refine ar.next S up (by kernel_rfl) ?_
  have d72:=J.w d71 kM.sub
  have d73:=J.w d71 bq.sub
  have d74:=J.w d71 c3.sub
  have d75:=J.w d71 ev.sub
  have d76:=J.w d71 dK.sub
  have d77:=J.w d71 bb.sub
  have d78:=J.w d71 g9.sub
  replace kM:=kM.up up
  replace bq:=bq.up up
  replace c3:=c3.up up
  replace ev:=ev.up up
  replace dK:=dK.up up
  replace bb:=bb.up up
  replace g9:=g9.up up
  clear up d71
  refine ar.one (i:=6) (by kernel_rfl) ?_
  refine id (S.p2 (α:=List Int) (x:=(ox h m (i:Int))) (p:=oV) iY.own iY.sub iY.dM (d:=35) (by kernel_rfl) fun ac w N VN zC S up n3 d82=>?_)
  refine ar.next S up (by kernel_rfl) ?_
  have d83:=d82 _ d72 kM.sub
  have d84:=d82 _ d73 bq.sub
  have d85:=d82 _ d74 c3.sub
  have d86:=d82 _ d75 ev.sub
  have d87:=d82 _ d76 dK.sub
  have d88:=d82 _ d77 bb.sub
  have d89:=d82 _ d78 g9.sub
  replace kM:=kM.up up
  replace bq:=bq.up up
  replace c3:=c3.up up
  replace ev:=ev.up up
  replace dK:=dK.up up
  replace bb:=bb.up up
  replace g9:=g9.up up
  clear up d82
  refine ar.one (i:=7) (by kernel_rfl) ?_
  refine id (S.Dk (α:=List Int) kM n3 d83 (by':=24) (d:=36) (lx:=acc.length) (ly:=1) rfl rfl (by kernel_rfl) (show _<=4194304 by simp only [List.length_append,List.length_cons,List.length_nil];omega) fun ac w N Cp Hm S up Ml d93=>?_)
  refine ar.last (by kernel_rfl) ?_
  have d94:=d93 _ (J.symm d58) d84 bq.sub
  have d95:=d93 _ (J.symm d59) d85 c3.sub
  have d96:=d93 _ (J.symm d60) d86 ev.sub
  have d97:=d93 _ (J.symm d61) d87 dK.sub
  have d98:=d93 _ (J.symm d62) d88 bb.sub
  have d99:=d93 _ (J.symm d63) d89 g9.sub
  replace bq:=bq.bk (J.symm d58) up
  replace c3:=c3.bk (J.symm d59) up
  replace ev:=ev.bk (J.symm d60) up
  replace dK:=dK.bk (J.symm d61) up
  replace bb:=bb.bk (J.symm d62) up
  replace g9:=g9.bk (J.symm d63) up
  clear up d93
  refine S.c_ 8 [] [(37,.p 3 0)] 4 [] .nil fun ac w β S=>?_
  refine S.c_ 9 [] [] 4 [(3,[R (acc++[(ox h m (i:Int))]).length Cp.1,R (aK h m).1.U.length af.U.1,R (aK h m).1.outs.length af.outs.1,aa (aK h m).1.aC])] .nil fun ac w β S=>?_
  refine ar.done (by kernel_rfl) ?_ _
  refine S.ex fun S=>?_
  refine S.ge 7 (.cons (cc (i:Int) 1) .nil) f64 fun ac w β S=>aeH.of (8-(i+1)) _ _ (by omega) ⟨i+1,(acc++[(ox h m (i:Int))]),Cp,Hm,_,_,_,rfl,?_,?_,S.z,Ml,bq,c3,ev,dK,bb,g9,(J.symm d94),(J.symm d95),(J.symm d96),(J.symm d97),(J.symm d98),(J.symm d99)⟩
  ·exact cK
  ·clear S;(rw [ajw,←bz])
 refine S.bo 13 .nil [GT.val (⟨acc,(aK h m).1.U,(aK h m).1.outs,(aK h m).1.aC⟩:cP) (⟨gm,af.U,af.outs⟩:jd)] fun ac w β S=>?_
 have BL:=wI (x:=(⟨acc,(aK h m).1.U,(aK h m).1.outs,(aK h m).1.aC⟩:cP)) (p:=(⟨gm,af.U,af.outs⟩:jd)) kM dK bb d61 d62 d43 i25
 exact cy S (show fk h m=(⟨acc,(aK h m).1.U,(aK h m).1.outs,(aK h m).1.aC⟩:cP) from TE) rfl BL
theorem EY {p:Prop} (h:p:=by clear S;(first|(unfold a2;rw [if_pos (by omega)];done)|(unfold a2;rw [if_pos (by omega)];first|rfl|(simp;done))|(unfold a2;rw [if_neg (by omega)];done)|(unfold a2;rw [if_neg (by omega)];first|rfl|(simp;done)))):p:=h
theorem YJ (w0:World) (b:cP) (bD:jd) (hb:bQ w0 b bD) (g:Int):Calls Tryz.prog 143 [GT.val b bD,aa g].toArray w0 (o4 ab w0 ((a2 b g).1:ax) ((a2 b g).2:Bool)):=by
 refine Calls.run ab Tryz.func143 ?_
 intro ac β S
 have yz:b.mem.length<=4194304:=ae.le (fK.mem (d:=b) hb)
 have yy:b.U.length<=4194304:=ae.le (fK.U (d:=b) hb)
 have yA:b.outs.length<=4194304:=ae.le (fK.outs (d:=b) hb)
 refine S.bd 18 (.cons (aE fun w hw=>js w g (b.U.length:Int) (by omega)) .nil) (!(a3 g 0 ((b.U.length:Int)-1))) (fun ac w β h1 S=>?_) (fun ac w β h1 S=>?_)
 ·have an:=cm h1
  have b7:=dn an
  refine S.bo 9 (.cons (fY (s:=Instr.build 70 [].toArray) (v:= .agg [R ([]:List da).length (GT.cZ (α:=List da)).1,aa 0,aa 0,R ([]:List aR).length (GT.cZ (α:=List aR)).1,R ([]:List aR).length (GT.cZ (α:=List aR)).1,aa 0,aa 0,B false,aa 0,aa 0,aa 0,B false,aa 0,B false,R ([]:List Int).length (GT.cZ (α:=List Int)).1].toArray) (fun w=>by kernel_rfl)) .nil) [GT.val (⟨([]:List da),0,0,([]:List aR),([]:List aR),(⟨0,0,false⟩:fy),0,(⟨0,0,false,0⟩:dg),false,([]:List Int)⟩:ax) (⟨(GT.cZ (α:=List da)),(GT.cZ (α:=List aR)),(GT.cZ (α:=List aR)),(GT.cZ (α:=List Int))⟩:c5),B false] fun ac w β S=>?_
  have f_:=S.mI (α:=da)
  have bX:=S.mI (α:=aR)
  have bL:=S.mI (α:=aR)
  have ao:=S.mI (α:=Int)
  have bO:=hK (x:=(⟨([]:List da),0,0,([]:List aR),([]:List aR),(⟨0,0,false⟩:fy),0,(⟨0,0,false,0⟩:dg),false,([]:List Int)⟩:ax)) (p:=(⟨(GT.cZ (α:=List da)),(GT.cZ (α:=List aR)),(GT.cZ (α:=List aR)),(GT.cZ (α:=List Int))⟩:c5)) f_ bX bL ao (fun b _ h=>False.elim h) (fun b _ h=>False.elim h) (fun b _ h=>False.elim h) (fun b _ h=>False.elim h) (fun b _ h=>False.elim h) (fun b _ h=>False.elim h) (show a_ 0 from⟨by decide,by decide⟩) (show a_ 0 from⟨by decide,by decide⟩) (show hz (⟨0,0,false⟩:fy) from⟨(show a_ 0 from⟨by decide,by decide⟩),(show a_ 0 from⟨by decide,by decide⟩)⟩) (show a_ 0 from⟨by decide,by decide⟩) (show fL (⟨0,0,false,0⟩:dg) from⟨(show a_ 0 from⟨by decide,by decide⟩),(show a_ 0 from⟨by decide,by decide⟩),(show a_ 0 from⟨by decide,by decide⟩)⟩)
  exact gb (p':=()) S (show(a2 b g).1=(⟨([]:List da),0,0,([]:List aR),([]:List aR),(⟨0,0,false⟩:fy),0,(⟨0,0,false,0⟩:dg),false,([]:List Int)⟩:ax) from EY) (show(a2 b g).2=false from EY) rfl rfl bO trivial
 have ez:=b9 h1
 have iU:=cV ez
 refine S.go 10 (.cons (cq (fK.U (d:=b) (S.arg hb)) g Tryz.underlying71) (.cons (dz (fK.U (d:=b) (S.arg hb)) 70 g.toNat) .nil)) fun ac w β S=>S.cJ (r:=(el b.U g.toNat)) (d:=18) (tc w (el b.U g.toNat) (bD.U.2 g.toNat) (S.rd (ae.el (fK.U (d:=b) (S.arg hb)) g.toNat (by omega)))) fun ac w N y3 C4 S up jM d14=>?_
 clear up d14
 refine S.bo 5 .nil [GT.val (el b.U g.toNat) y3,B true] fun ac w β S=>?_
 exact gb (p':=()) S (show(a2 b g).1=(el b.U g.toNat) from EY) (show(a2 b g).2=true from EY) rfl rfl jM trivial
theorem E8 {p:Prop} (h:p:=by clear S;(symm;rw [←Bool.not_eq_true];intro hc;simp only [jC,Bool.and_eq_true,decide_eq_true_eq,beq_iff_eq] at hc;first|omega|(simp_all;done)|(simp_all;omega)|(have hx:=s9 (k:=k) hc.1.1.1.1 (by omega);simp_all;done))):p:=h
theorem Yv (w0:World) (b:cP) (bD:jd) (hb:bQ w0 b bD):Calls Tryz.prog 144 [GT.val b bD].toArray w0 (fun e w'=>e= .returned (B (jC b))/\bB ab w0 w'):=by
 refine Calls.run ab Tryz.func144 ?_
 intro ac β S
 have yz:b.mem.length<=4194304:=ae.le (fK.mem (d:=b) hb)
 have yy:b.U.length<=4194304:=ae.le (fK.U (d:=b) hb)
 have yA:b.outs.length<=4194304:=ae.le (fK.outs (d:=b) hb)
 refine S.go 16 .nil fun ac w β S=>?_
 refine c8 (fun a4 ac w=>∃(k:Nat) (u:_) (N:_) (β:_),a4=b.U.length-k/\(k<=b.U.length)/\((b.U.take k).all kC=true)/\aj Tryz.prog Tryz.f144.ntmps w0 ab u N β ⟨[(1,.p 0 0),(6,.v (R b.U.length bD.U.1)),(7,.v (aa (b.U.length:Int))),(8,.v (aa (k:Int)))],[GT.cells b bD]⟩ ac w) _ ⟨0,_,_,_,rfl,cw,(by simp),S.z⟩ ?_
 clear S
 rintro f1 a4 fm ac w ⟨k,u,N,β,rfl,hk,he,S⟩
 refine S.rs fun S=>?_
 refine S.aI 6 .nil (decide ((k:Int)<(b.U.length:Int))) (fun ac w β aF cC S=>?_) (fun ac w β aF cC S=>?_)
 ·refine S.bd 20 (.cons (b5 (fK.U (d:=b) (S.arg hb)) k Tryz.underlying71) (.cons (dz (fK.U (d:=b) (S.arg hb)) 70 k) (.cons (aE fun w hw=>Pu w (el b.U k) (bD.U.2 k) (bJ (ae.el (fK.U (d:=b) (S.arg hb)) k (by omega)) hw)) .nil))) (!(kC (el b.U k))) (fun ac w β bm S=>?_) (fun ac w β bm S=>?_)
  ·have cS:=cm bm
   exact S.aq 7 .nil [B false] (a6 E8)
  have cE:=b9 bm
  refine S.ge 8 (.cons (cc (k:Int) 1) .nil) f1 fun ac w β S=>fm.of (b.U.length-(k+1)) _ _ (by omega) ⟨k+1,_,_,_,rfl,?_,?_,S.z⟩
  ·exact cK
  ·clear S;exact pY (by omega) he (by first|assumption|simp_all)
 refine S.bd 12 (.cons (aE fun w hw=>PA w b.mem bD.mem (bJ (fK.mem (d:=b) (S.arg hb)) hw) 8) .nil) (ib b.mem 8) (fun ac w β dc S=>?_) (fun ac w β dc S=>?_)
 ·refine S.bd 6 (.cons (aE fun w hw=>hh w (b.U.length:Int) 1 2) .nil) (a3 (b.U.length:Int) 1 2) (fun ac w β ez S=>?_) (fun ac w β ez S=>?_)
  ·have iU:=cV ez
   refine S.aI 6 .nil (decide ((b.outs.length:Int)<=40)) (fun ac w β eS ie S=>?_) (fun ac w β eS ie S=>?_)
   ·exact S.aq 8 (.cons (aE fun w hw=>Dy w b.aC) .nil) [B (a3 b.aC 0 255)] (a6 (by clear S;(first|rfl|(symm;rw [←Bool.not_eq_true];intro hc;simp only [jC,Bool.and_eq_true,decide_eq_true_eq,beq_iff_eq] at hc;first|omega|(simp_all;done)|(simp_all;omega)|(have hx:=s9 (k:=k) hc.1.1.1.1 (by omega);simp_all;done))|(symm;simp only [jC,Bool.and_eq_true,decide_eq_true_eq,beq_iff_eq];(repeat' apply And.intro);all_goals first|assumption|omega|(simp_all;done)|(simp_all;omega)|(exact eY (by omega) he))|(rw [Bool.eq_iff_iff];simp only [jC,Bool.and_eq_true,decide_eq_true_eq,beq_iff_eq];refine⟨fun bp=>?_,fun hc=>?_⟩<;>((repeat' apply And.intro);all_goals first|assumption|omega|(simp_all;done)|(simp_all;omega)|(exact eY (by omega) he))))))
   exact S.aq 8 .nil [B false] (a6 E8)
  have hC:=dn ez
  exact S.aq 14 .nil [B false] (a6 E8)
 exact S.aq 20 .nil [B false] (a6 E8)
theorem z0 (w0:World) (b:cP) (bD:jd) (hb:bQ w0 b bD):Calls Tryz.prog 145 [GT.val b bD].toArray w0 (dw ab w0 (b:cP)):=by
 refine Calls.run ab Tryz.func145 ?_
 intro ac β S
 have yz:b.mem.length<=4194304:=ae.le (fK.mem (d:=b) hb)
 have yy:b.U.length<=4194304:=ae.le (fK.U (d:=b) hb)
 have yA:b.outs.length<=4194304:=ae.le (fK.outs (d:=b) hb)
 refine S.go 7 .nil fun ac w β S=>?_
 refine dI ?_
 refine S.dR (f:=13) 12 (by kernel_rfl) (by kernel_rfl) fun w S=>?_
 refine S.hm 5 [0,1,3,4,6,7,9,10] [] [(4,.v (R b.mem.length bD.mem.1)),(7,.v (R b.U.length bD.U.1)),(10,.v (R b.outs.length bD.outs.1)),(13,.v (aa b.aC))] .nil fun ac S=>?_
 refine ar.one (i:=2) (by kernel_rfl) ?_
 refine id (S.dB 5 (pd w b.mem bD.mem (S.rd (fK.mem (d:=b) (S.arg hb)))) fun ac w N af br S up aA d4=>?_)
 refine ar.next S up (by kernel_rfl) ?_
 clear up d4
 refine ar.one (i:=5) (by kernel_rfl) ?_
 refine id (S.dB 8 (PJ w b.U bD.U (S.rd (fK.U (d:=b) (S.arg hb)))) fun ac w N bM cT S up ao d8=>?_)
 refine ar.next S up (by kernel_rfl) ?_
 have d9:=J.w d8 aA.sub
 replace aA:=aA.up up
 clear up d8
 refine ar.one (i:=8) (by kernel_rfl) ?_
 refine id (S.dB 11 (xB w b.outs bD.outs (S.rd (fK.outs (d:=b) (S.arg hb)))) fun ac w N eM eh S up bA d13=>?_)
 refine ar.next S up (by kernel_rfl) ?_
 have d14:=J.w d13 aA.sub
 have d15:=J.w d13 ao.sub
 replace aA:=aA.up up
 replace ao:=ao.up up
 clear up d13
 refine S.a9 11 [11] [] [(14,.v (GT.val (⟨b.mem,b.U,b.outs,b.aC⟩:cP) (⟨af,bM,eM⟩:jd)))] (.cons (fY (s:=Instr.build 98 [(0,R b.mem.length af.1),(1,R b.U.length bM.1),(2,R b.outs.length eM.1),(3,aa b.aC)].toArray) (v:= .agg [R b.mem.length af.1,R b.U.length bM.1,R b.outs.length eM.1,aa b.aC].toArray) (fun w=>by kernel_rfl)) .nil) fun ac S=>?_
 refine S.c_ 12 [] [] 2 [(1,[R b.mem.length af.1,R b.U.length bM.1,R b.outs.length eM.1,aa b.aC])] .nil fun ac w β S=>?_
 refine ar.done (by kernel_rfl) ?_ _
 refine S.ex fun S=>?_
 refine S.bo 2 .nil [GT.val (⟨b.mem,b.U,b.outs,b.aC⟩:cP) (⟨af,bM,eM⟩:jd)] fun ac w β S=>?_
 have gK:=wI (x:=(⟨b.mem,b.U,b.outs,b.aC⟩:cP)) (p:=(⟨af,bM,eM⟩:jd)) aA ao bA d9 d14 d15 (fK.aC (d:=b) (S.arg hb))
 exact cy S (show b=(⟨b.mem,b.U,b.outs,b.aC⟩:cP) by clear S;(first|rfl|simp)) rfl gK
theorem yP {p:Prop} (h:p:=by clear S;(first|(unfold eK;rw [if_pos (by assumption)];done)|(unfold eK;rw [if_neg (by assumption)];done)|(unfold eK;rw [if_neg (by assumption)];exact Gy (by assumption))|(unfold eK;rw [if_neg (by assumption)];exact(Gy (by assumption)).symm))):p:=h
theorem YX (w0:World) (p:Int) (bC:a_ p):Calls Tryz.prog 255 [aa p].toArray w0 (fun e w'=>e= .returned (.tuple #[aa (eK p).1,aa (eK p).2.1,B (eK p).2.2])/\bB ab w0 w'):=by
 refine Calls.run ab Tryz.func255 ?_
 intro ac β S
 have ae8:=bC.lo;have aeN:=bC.hi
 have hP:=CV p
 refine S.aI 21 (.cons (aE fun w hw=>PG w p) .nil) (decide ((gr p)<0)) (fun ac w β an b7 S=>?_) (fun ac w β an b7 S=>?_)
 ·exact S.aq 10 .nil [aa p,aa (-1),B false] (Gb (h_ (show p=(eK p).1 from yP)) (h_ (show(-1)=(eK p).2.1 from yP)) (jB (show false=(eK p).2.2 from yP)))
 exact S.aq 16 (.cons (OH (yk:= .i64) (x:=1) (y:=(gr p)) (by omega)) (.cons (Xj (x:=p) (y:=(oX 1 (gr p)))) .nil)) [aa (wm p (oX 1 (gr p))),aa (gr p),B true] (Gb (h_ (show(wm p (oX 1 (gr p)))=(eK p).1 from yP)) (h_ (show(gr p)=(eK p).2.1 from yP)) (jB (show true=(eK p).2.2 from yP)))
theorem Tz {p:Prop} (h:p:=by clear S;(unfold jt;first|(rw [if_pos (by assumption)];done)|(rw [if_neg (by simp [*])];done))):p:=h
theorem YM (w0:World) (g:ax) (bf:c5) (aJ:bQ w0 g bf):Calls Tryz.prog 147 [GT.val g bf].toArray w0 (dw ab w0 (jt g:ax)):=by
 refine Calls.run ab Tryz.func147 ?_
 intro ac β S
 have iE:g.prog.length<=4194304:=ae.le (az.prog (d:=g) aJ)
 have iG:g.written.length<=4194304:=ae.le (az.written (d:=g) aJ)
 have iD:g.live.length<=4194304:=ae.le (az.live (d:=g) aJ)
 have iF:g.seen.length<=4194304:=ae.le (az.seen (d:=g) aJ)
 refine S.bd 14 (.cons (aE fun w hw=>PF w g bf (bJ (S.arg aJ) hw)) .nil) (!(nT g)) (fun ac w β h1 S=>?_) (fun ac w β h1 S=>?_)
 ·have an:=cm h1
  refine S.go 4 .nil fun ac w β S=>S.cJ (r:=g) (d:=10) (tc w g bf (S.rd (S.arg aJ))) fun ac w N sQ fg S up bX d6=>?_
  clear up d6
  refine S.bo 4 .nil [GT.val g sQ] fun ac w β S=>?_
  exact cy S (show jt g=g from Tz) rfl bX
 have cE:=b9 h1
 have X9:=Wi g.aC
 refine S.go 29 (.cons (aE fun w hw=>YX w g.aC (az.aC (d:=g) (S.arg aJ))) (.cons (cc 100 ((eK g.aC).2.1)) .nil)) fun ac w β S=>S.cJ (r:=g7 (⟨g.prog,g.acc,g.aw,g.written,g.live,g.aN,(eK g.aC).1,g.exit,g.halted,g.seen⟩:ax) (100+(eK g.aC).2.1)) (d:=23) (PD w (⟨g.prog,g.acc,g.aw,g.written,g.live,g.aN,(eK g.aC).1,g.exit,g.halted,g.seen⟩:ax) (⟨bf.prog,bf.written,bf.live,bf.seen⟩:c5) (S.rd (show GT.rd b6 _ _ (⟨g.prog,g.acc,g.aw,g.written,g.live,g.aN,(eK g.aC).1,g.exit,g.halted,g.seen⟩:ax) (⟨bf.prog,bf.written,bf.live,bf.seen⟩:c5) from⟨(az.prog (p:=bf) (d:=g) (S.arg aJ)),(az.acc (d:=g) (S.arg aJ)),(az.aw (d:=g) (S.arg aJ)),(az.written (p:=bf) (d:=g) (S.arg aJ)),(az.live (p:=bf) (d:=g) (S.arg aJ)),(az.aN (d:=g) (S.arg aJ)),(Wj (az.aC (d:=g) (S.arg aJ))),(az.exit (d:=g) (S.arg aJ)),(az.seen (p:=bf) (d:=g) (S.arg aJ))⟩)) (100+(eK g.aC).2.1) ⟨by omega,by omega⟩) fun ac w N wO dY S up bq d12=>?_
 clear up d12
 refine S.bo 4 .nil [GT.val (g7 (⟨g.prog,g.acc,g.aw,g.written,g.live,g.aN,(eK g.aC).1,g.exit,g.halted,g.seen⟩:ax) (100+(eK g.aC).2.1)) wO] fun ac w β S=>?_
 exact cy S (show jt g=(g7 (⟨g.prog,g.acc,g.aw,g.written,g.live,g.aN,(eK g.aC).1,g.exit,g.halted,g.seen⟩:ax) (100+(eK g.aC).2.1)) from Tz) rfl bq
theorem TH {p:Prop} (h:p:=by clear S;(unfold gG;first|(rw [if_pos (by omega)];done)|(rw [if_neg (by omega)];done))):p:=h
theorem rU (w0:World) (b:cP) (bD:jd) (hb:bQ w0 b bD) (g:Int) (x:ax) (ir:c5) (hx:bQ w0 x ir):Calls Tryz.prog 146 [GT.val b bD,aa g,GT.val x ir].toArray w0 (dw ab w0 (gG b g x:cP)):=by
 refine Calls.run ab Tryz.func146 ?_
 intro ac β S
 have yz:b.mem.length<=4194304:=ae.le (fK.mem (d:=b) hb)
 have yy:b.U.length<=4194304:=ae.le (fK.U (d:=b) hb)
 have yA:b.outs.length<=4194304:=ae.le (fK.outs (d:=b) hb)
 have SV:x.prog.length<=4194304:=ae.le (az.prog (d:=x) hx)
 have SX:x.written.length<=4194304:=ae.le (az.written (d:=x) hx)
 have SU:x.live.length<=4194304:=ae.le (az.live (d:=x) hx)
 have SW:x.seen.length<=4194304:=ae.le (az.seen (d:=x) hx)
 refine S.go 10 .nil fun ac w β S=>S.cJ (r:=b) (d:=9) (z0 w b bD (S.rd (S.arg hb))) fun ac w N af br S up aA d4=>?_
 clear up d4
 have i14:a_ b.aC:=fK.aC (d:=b) aA.ak
 obtain⟨dU,e7,eh,bL,bF,bA,_,_,_,d15,d16,d17⟩:=Gr aA
 refine S.bd 14 (.cons (aE fun w hw=>js w g (b.U.length:Int) (by omega)) .nil) (a3 g 0 ((b.U.length:Int)-1)) (fun ac w β nX S=>?_) (fun ac w β nX S=>?_)
 ·have x_:=cV nX
  refine S.go 1 .nil fun ac w β S=>?_
  refine dI ?_
  refine S.dR (f:=7) 6 (by kernel_rfl) (by kernel_rfl) fun w S=>?_
  refine S.hm 3 [0,1,2,3] [] [(16,.v (R b.U.length af.U.1)),(17,.v (aa g)),(18,.v (GT.val x ir))] .nil fun ac S=>?_
  refine ar.one (i:=4) (by kernel_rfl) ?_
  refine id (S.dB 19 (tc w x ir (S.rd (S.arg hx))) fun ac w N c4 o0 S up fr d23=>?_)
  refine ar.next S up (by kernel_rfl) ?_
  have d24:=J.w d23 bL.sub
  have d25:=J.w d23 bF.sub
  have d26:=J.w d23 bA.sub
  replace bL:=bL.up up
  replace bF:=bF.up up
  replace bA:=bA.up up
  clear up d23
  refine S.a9 5 [5] [] [(20,.v (bh af.U.1.b (af.U.1.off+g.toNat*15)))] (.cons (cq bF.ak g Tryz.underlying71) .nil) fun ac S=>?_
  refine ar.one (i:=6) (by kernel_rfl) ?_
  refine id (S.kU (α:=ax) bF (t:=70) (k:=g.toNat) (off:=af.U.1.off+g.toNat*15) fr d25 fun w N ob ug S up dT d30 CE wz=>?_)
  refine ar.last (by kernel_rfl) ?_
  have d33:=d30 _ d15 d24 bL.sub
  have d34:=d30 _ (J.symm d17) d26 bA.sub
  replace bL:=bL.bk d15 up
  replace bA:=bA.bk (J.symm d17) up
  clear up d30 bF wz
  have apR:(b.U.set g.toNat x).length=b.U.length:=List.length_set
  replace S:=S.z (σ':=⟨[(6,.p 2 0),(7,.p 3 0),(19,.v (GT.val x c4)),(20,.v (bh af.U.1.b (af.U.1.off+g.toNat*15)))],[GT.cells b bD,GT.cells x ir,cg cP,[R b.mem.length af.mem.1,R b.U.length af.U.1,R b.outs.length af.outs.1,aa b.aC]]⟩)
  replace S:=S.cast (σ':=⟨[(6,.p 2 0),(7,.p 3 0),(19,.v (GT.val x c4)),(20,.v (bh af.U.1.b (af.U.1.off+g.toNat*15)))],[GT.cells b bD,GT.cells x ir,cg cP,[R b.mem.length af.mem.1,R (b.U.set g.toNat x).length af.U.1,R b.outs.length af.outs.1,aa b.aC]]⟩) (by rw [show(b.U.set g.toNat x).length=b.U.length by omega])
  refine ar.done (by kernel_rfl) ?_ _
  refine S.ex fun S=>?_
  refine S.bo 8 .nil [GT.val (⟨b.mem,(b.U.set g.toNat x),b.outs,b.aC⟩:cP) (⟨af.mem,(af.U.1,ug),af.outs⟩:jd)] fun ac w β S=>?_
  have e3:=wI (x:=(⟨b.mem,(b.U.set g.toNat x),b.outs,b.aC⟩:cP)) (p:=(⟨af.mem,(af.U.1,ug),af.outs⟩:jd)) bL dT bA d33 d16 (J.symm d34) i14
  exact cy S (show gG b g x=(⟨b.mem,(b.U.set g.toNat x),b.outs,b.aC⟩:cP) from TH) rfl e3
 have yb:=dn nX
 refine S.bo 10 .nil [GT.val b af] fun ac w β S=>?_
 have lv:=wI (x:=b) (p:=af) bL bF bA d15 d16 d17 i14
 exact cy S (show gG b g x=b from TH) rfl lv
theorem tI {p:Prop} (h:p:=by clear S;(unfold gx;first|(rw [if_neg (by assumption)];done)|(rw [if_pos (by assumption)];unfold II;(repeat' split)<;>first|rfl|(exfalso;omega)|(exfalso;simp_all;done)|(exfalso;simp_all;omega)|(simp_all;done)|(simp_all [a5];done)))):p:=h
theorem YR (w0:World) (g:ax) (bf:c5) (aJ:bQ w0 g bf):Calls Tryz.prog 148 [GT.val g bf].toArray w0 (dw ab w0 (gx g:ax)):=by
 refine Calls.run ab Tryz.func148 ?_
 intro ac β S
 have iE:g.prog.length<=4194304:=ae.le (az.prog (d:=g) aJ)
 have iG:g.written.length<=4194304:=ae.le (az.written (d:=g) aJ)
 have iD:g.live.length<=4194304:=ae.le (az.live (d:=g) aJ)
 have iF:g.seen.length<=4194304:=ae.le (az.seen (d:=g) aJ)
 have hP:=uz g
 refine S.aI 14 (.cons (aE fun w hw=>zZ w g bf (bJ (S.arg aJ) hw)) .nil) ((bY g) != 2) (fun ac w β an b7 S=>?_) (fun ac w β an b7 S=>?_)
 ·refine S.go 4 .nil fun ac w β S=>S.cJ (r:=g) (d:=9) (tc w g bf (S.rd (S.arg aJ))) fun ac w N qz dU S up bL d7=>?_
  clear up d7
  have i11:a_ g.acc:=az.acc (d:=g) bL.ak
  have i12:a_ g.aw:=az.aw (d:=g) bL.ak
  have i19:hz g.aN:=az.aN (d:=g) bL.ak
  have i20:a_ g.aC:=az.aC (d:=g) bL.ak
  have i21:fL g.exit:=az.exit (d:=g) bL.ak
  obtain⟨e7,gf,pU,fJ,bF,c3,ev,bb,_,_,_,_,d25,d26,d27,d28,d29,d30⟩:=mP bL
  refine S.bo 4 .nil [GT.val g qz] fun ac w β S=>?_
  have l7:=hK (x:=g) (p:=qz) bF c3 ev bb d25 d26 d27 d28 d29 d30 i11 i12 i19 i20 i21
  exact cy S (show gx g=g from tI) rfl l7
 refine S.go 17 (.cons (aE fun w hw=>uS w g.prog bf.prog (bJ (az.prog (d:=g) (S.arg aJ)) hw) g.aw) .nil) fun ac w β S=>S.cJ (r:=a5 g) (d:=16) (xA w g bf (S.rd (S.arg aJ))) fun ac w N ga qJ S up im d35=>?_
 clear up d35
 have i39:a_ (a5 g).acc:=az.acc (d:=(a5 g)) im.ak
 have i40:a_ (a5 g).aw:=az.aw (d:=(a5 g)) im.ak
 have i47:hz (a5 g).aN:=az.aN (d:=(a5 g)) im.ak
 have i48:a_ (a5 g).aC:=az.aC (d:=(a5 g)) im.ak
 have i49:fL (a5 g).exit:=az.exit (d:=(a5 g)) im.ak
 obtain⟨C9,mS,kY,qK,iJ,jO,dO,g_,_,_,_,_,d53,d54,d55,d56,d57,d58⟩:=mP im
 refine S.bd 12 (.cons (aE fun w hw=>hh w g.acc 0 99) .nil) (!(a3 g.acc 0 99)) (fun ac w β sb S=>?_) (fun ac w β sb S=>?_)
 ·have AB:=cm sb
  have yd:=dn AB
  refine S.bo 15 .nil [GT.val (a5 g) ga] fun ac w β S=>?_
  have B4:=hK (x:=(a5 g)) (p:=ga) iJ jO dO g_ d53 d54 d55 d56 d57 d58 i39 i40 i47 i48 i49
  exact cy S (show gx g=(a5 g) from tI) rfl B4
 have oB:=b9 sb
 have I0:=cV oB
 refine S.bd 7 (.cons (aE fun w hw=>hh w (bG g.prog g.aw).x 0 99) .nil) (!(a3 (bG g.prog g.aw).x 0 99)) (fun ac w β Ek S=>?_) (fun ac w β Ek S=>?_)
 ·have sc:=cm Ek
  have vg:=dn sc
  refine S.bo 8 .nil [GT.val (a5 g) ga] fun ac w β S=>?_
  have rp:=hK (x:=(a5 g)) (p:=ga) iJ jO dO g_ d53 d54 d55 d56 d57 d58 i39 i40 i47 i48 i49
  exact cy S (show gx g=(a5 g) from tI) rfl rp
 have ady:=b9 Ek
 have aos:=cV ady
 refine S.aI 13 .nil ((bG g.prog g.aw).eL==1) (fun ac w β AF Au S=>?_) (fun ac w β AF Au S=>?_)
 ·refine S.bo 16 .nil [GT.val (⟨(a5 g).prog,(bG g.prog g.aw).x,(a5 g).aw,(a5 g).written,(a5 g).live,(a5 g).aN,(a5 g).aC,(a5 g).exit,(a5 g).halted,(a5 g).seen⟩:ax) (⟨ga.prog,ga.written,ga.live,ga.seen⟩:c5)] fun ac w β S=>?_
  have hJ:=hK (x:=(⟨(a5 g).prog,(bG g.prog g.aw).x,(a5 g).aw,(a5 g).written,(a5 g).live,(a5 g).aN,(a5 g).aC,(a5 g).exit,(a5 g).halted,(a5 g).seen⟩:ax)) (p:=(⟨ga.prog,ga.written,ga.live,ga.seen⟩:c5)) iJ jO dO g_ d53 d54 d55 d56 d57 d58 (je.x (d:=(bG g.prog g.aw)) (l4 (az.prog (d:=g) (S.arg aJ)) g.aw)) i40 i47 i48 i49
  exact cy S (show gx g=(⟨(a5 g).prog,(bG g.prog g.aw).x,(a5 g).aw,(a5 g).written,(a5 g).live,(a5 g).aN,(a5 g).aC,(a5 g).exit,(a5 g).halted,(a5 g).seen⟩:ax) from tI) rfl hJ
 refine S.aI 9 .nil ((bG g.prog g.aw).eL==2) (fun ac w β adA RA S=>?_) (fun ac w β adA RA S=>?_)
 ·refine S.bo 20 (.cons (cc g.acc ((bG g.prog g.aw).x)) (.cons (o3 (x:=(g.acc+(bG g.prog g.aw).x)) (y:=100) (by decide)) .nil)) [GT.val (⟨(a5 g).prog,(Int.tmod (g.acc+(bG g.prog g.aw).x) 100),(a5 g).aw,(a5 g).written,(a5 g).live,(a5 g).aN,(a5 g).aC,(a5 g).exit,(a5 g).halted,(a5 g).seen⟩:ax) (⟨ga.prog,ga.written,ga.live,ga.seen⟩:c5)] fun ac w β S=>?_
  have wH:=hK (x:=(⟨(a5 g).prog,(Int.tmod (g.acc+(bG g.prog g.aw).x) 100),(a5 g).aw,(a5 g).written,(a5 g).live,(a5 g).aN,(a5 g).aC,(a5 g).exit,(a5 g).halted,(a5 g).seen⟩:ax)) (p:=(⟨ga.prog,ga.written,ga.live,ga.seen⟩:c5)) iJ jO dO g_ d53 d54 d55 d56 d57 d58 (Wl (by decide)) i40 i47 i48 i49
  exact cy S (show gx g=(⟨(a5 g).prog,(Int.tmod (g.acc+(bG g.prog g.aw).x) 100),(a5 g).aw,(a5 g).written,(a5 g).live,(a5 g).aN,(a5 g).aC,(a5 g).exit,(a5 g).halted,(a5 g).seen⟩:ax) from tI) rfl wH
 refine S.aI 7 .nil ((bG g.prog g.aw).eL==8) (fun ac w β El I1 S=>?_) (fun ac w β El I1 S=>?_)
 ·refine S.aI 7 .nil (g.acc==0) (fun ac w β Jh RB S=>?_) (fun ac w β Jh RB S=>?_)
  ·refine S.bo 16 .nil [GT.val (⟨(a5 g).prog,(a5 g).acc,(bG g.prog g.aw).x,(a5 g).written,(a5 g).live,(a5 g).aN,(a5 g).aC,(a5 g).exit,(a5 g).halted,(a5 g).seen⟩:ax) (⟨ga.prog,ga.written,ga.live,ga.seen⟩:c5)] fun ac w β S=>?_
   have n3:=hK (x:=(⟨(a5 g).prog,(a5 g).acc,(bG g.prog g.aw).x,(a5 g).written,(a5 g).live,(a5 g).aN,(a5 g).aC,(a5 g).exit,(a5 g).halted,(a5 g).seen⟩:ax)) (p:=(⟨ga.prog,ga.written,ga.live,ga.seen⟩:c5)) iJ jO dO g_ d53 d54 d55 d56 d57 d58 i39 (je.x (d:=(bG g.prog g.aw)) (l4 (az.prog (d:=g) (S.arg aJ)) g.aw)) i47 i48 i49
   exact cy S (show gx g=(⟨(a5 g).prog,(a5 g).acc,(bG g.prog g.aw).x,(a5 g).written,(a5 g).live,(a5 g).aN,(a5 g).aC,(a5 g).exit,(a5 g).halted,(a5 g).seen⟩:ax) from tI) rfl n3
  refine S.bo 11 .nil [GT.val (a5 g) ga] fun ac w β S=>?_
  have qy:=hK (x:=(a5 g)) (p:=ga) iJ jO dO g_ d53 d54 d55 d56 d57 d58 i39 i40 i47 i48 i49
  exact cy S (show gx g=(a5 g) from tI) rfl qy
 refine S.bo 18 .nil [GT.val (a5 g) ga] fun ac w β S=>?_
 have nm:=hK (x:=(a5 g)) (p:=ga) iJ jO dO g_ d53 d54 d55 d56 d57 d58 i39 i40 i47 i48 i49
 exact cy S (show gx g=(a5 g) from tI) rfl nm
theorem Yy (w0:World) (n:Int) (cY:a_ n):Calls Tryz.prog 150 [aa n].toArray w0 (fun e w'=>e= .returned (GT.val (mm n) ())/\bB ab w0 w'):=by
 refine Calls.run ab Tryz.func150 ?_
 intro ac β S
 have yD:=cY.lo;have yv:=cY.hi
 exact S.aq 13 (.cons (fY (s:=Instr.build 68 [(0,aa 2),(3,aa n)].toArray) (v:= .agg [aa 2,aa 0,B false,aa n].toArray) (fun w=>by kernel_rfl)) .nil) [GT.val (⟨2,0,false,n⟩:dg) ()] (hX (p:=()) (by clear S;rfl))
theorem TC {p:Prop} (h:p:=by clear S;(first|(unfold ln;rw [if_pos (by omega)];done)|(unfold ln;rw [if_pos (by omega)];first|rfl|(simp;done))|(unfold ln;rw [if_neg (by omega)];done)|(unfold ln;rw [if_neg (by omega)];first|rfl|(simp;done)))):p:=h
theorem YT (w0:World) (b:cP) (bD:jd) (hb:bQ w0 b bD) (n:Int) (cY:a_ n):Calls Tryz.prog 152 [GT.val b bD,aa n].toArray w0 (dw ab w0 (ln b n:cP)):=by
 refine Calls.run ab Tryz.func152 ?_
 intro ac β S
 have yz:b.mem.length<=4194304:=ae.le (fK.mem (d:=b) hb)
 have yy:b.U.length<=4194304:=ae.le (fK.U (d:=b) hb)
 have yA:b.outs.length<=4194304:=ae.le (fK.outs (d:=b) hb)
 have yD:=cY.lo;have yv:=cY.hi
 refine S.go 9 .nil fun ac w β S=>S.cJ (r:=b) (d:=7) (z0 w b bD (S.rd (S.arg hb))) fun ac w N af br S up aA d4=>?_
 clear up d4
 have i14:a_ b.aC:=fK.aC (d:=b) aA.ak
 obtain⟨dU,e7,eh,bL,bF,bA,_,_,_,d15,d16,d17⟩:=Gr aA
 refine S.aI 13 .nil (decide ((b.outs.length:Int)<40)) (fun ac w β nX x_ S=>?_) (fun ac w β nX x_ S=>?_)
 ·refine S.go 5 .nil fun ac w β S=>S.h3 (α:=Int) (x:=n) (p:=()) (F:=ab) cY (fun b h=>False.elim h) (fun b h=>False.elim h) (d:=15) fun ac w N c4 o0 S up fr d23=>?_
  replace bL:=bL.up up
  replace bF:=bF.up up
  replace bA:=bA.up up
  clear up d23
  refine S.kq (α:=Int) bA fr.ak (fun _ _ h=>h) (by':=8) (d:=16) (lx:=b.outs.length) (ly:=1) rfl rfl (show _<=4194304 by simp only [List.length_append,List.length_cons,List.length_nil];omega) fun ac w N e9 ob S up kL d30=>?_
  have d31:=d30 _ d16 bL.sub
  have d32:=d30 _ d17 bF.sub
  replace bL:=bL.bk d16 up
  replace bF:=bF.bk d17 up
  clear up d30
  refine S.bo 11 .nil [GT.val (⟨b.mem,b.U,(b.outs++[n]),b.aC⟩:cP) (⟨af.mem,af.U,e9⟩:jd)] fun ac w β S=>?_
  have im:=wI (x:=(⟨b.mem,b.U,(b.outs++[n]),b.aC⟩:cP)) (p:=(⟨af.mem,af.U,e9⟩:jd)) bL bF kL d15 d31 d32 i14
  exact cy S (show ln b n=(⟨b.mem,b.U,(b.outs++[n]),b.aC⟩:cP) from TC) rfl im
 refine S.bo 10 .nil [GT.val b af] fun ac w β S=>?_
 have BX:=wI (x:=b) (p:=af) bL bF bA d15 d16 d17 i14
 exact cy S (show ln b n=b from TC) rfl BX
theorem pA {p:Prop} (h:p:=by clear S;(first|(rw [xx (.inl (by assumption))];done)|(rw [xx (.inr (.inl (by assumption)))];done)|(rw [xx (.inr (.inr (by omega)))];done)|(rw [O6 (by assumption) (by assumption) (by omega)];first|(rw [Dq (by omega),sZ (by assumption)];first|done|rfl)|(rw [Dq (by omega),lD (by assumption) rfl];first|done|rfl)|(rw [Dq (by omega),lD (by assumption) (sO _ _)];first|done|rfl)|(rw [Dr (by omega),sZ (by assumption)];first|done|rfl)|(rw [Dr (by omega),lD (by assumption) rfl];first|done|rfl)|(rw [Dr (by omega),lD (by assumption) (sO _ _)];first|done|rfl)|(rw [Lo (by omega) (by assumption),sZ (by assumption)];first|done|rfl)|(rw [Lo (by omega) (by assumption),lD (by assumption) rfl];first|done|rfl)|(rw [Lo (by omega) (by assumption),lD (by assumption) (sO _ _)];first|done|rfl)|(rw [Lp (by omega) (by assumption),sZ (by assumption)];first|done|rfl)|(rw [Lp (by omega) (by assumption),lD (by assumption) rfl];first|done|rfl)|(rw [Lp (by omega) (by assumption),lD (by assumption) (sO _ _)];first|done|rfl)|(rw [Ln (by omega) (by assumption),sZ (by assumption)];first|done|rfl)|(rw [Ln (by omega) (by assumption),lD (by assumption) rfl];first|done|rfl)|(rw [Ln (by omega) (by assumption),lD (by assumption) (sO _ _)];first|done|rfl)|(rw [FH (by omega),sZ (by assumption)];first|done|rfl)|(rw [FH (by omega),lD (by assumption) rfl];first|done|rfl)|(rw [FH (by omega),lD (by assumption) (sO _ _)];first|done|rfl)|(rw [Mq (by omega) (by assumption),sZ (by assumption)];first|done|rfl)|(rw [Mq (by omega) (by assumption),lD (by assumption) rfl];first|done|rfl)|(rw [Mq (by omega) (by assumption),lD (by assumption) (sO _ _)];first|done|rfl)|(rw [Mp (by omega) (by assumption),sZ (by assumption)];first|done|rfl)|(rw [Mp (by omega) (by assumption),lD (by assumption) rfl];first|done|rfl)|(rw [Mp (by omega) (by assumption),lD (by assumption) (sO _ _)];first|done|rfl)|(rw [Mn (by omega) (by assumption),sZ (by assumption)];first|done|rfl)|(rw [Mn (by omega) (by assumption),lD (by assumption) rfl];first|done|rfl)|(rw [Mn (by omega) (by assumption),lD (by assumption) (sO _ _)];first|done|rfl)))):p:=h
theorem pB {p:Prop} (h:p:=by clear S;(first|(rw [xx (.inl (by assumption))];done)|(rw [xx (.inr (.inl (by assumption)))];done)|(rw [xx (.inr (.inr (by omega)))];done)|(rw [O6 (by assumption) (by assumption) (by omega)];done))):p:=h
theorem Yw (w0:World) (b:cP) (bD:jd) (hb:bQ w0 b bD) (g:Int):Calls Tryz.prog 55 [GT.val b bD,aa g].toArray w0 (o4 ab w0 ((eZ b g).1:cP) ((eZ b g).2:Bool)):=by
 refine Calls.run ab Tryz.func55 ?_
 intro ac β S
 have yz:b.mem.length<=4194304:=ae.le (fK.mem (d:=b) hb)
 have yy:b.U.length<=4194304:=ae.le (fK.U (d:=b) hb)
 have yA:b.outs.length<=4194304:=ae.le (fK.outs (d:=b) hb)
 refine S.go 11 .nil fun ac w β S=>S.qN (r:=(a2 b g).1) (r':=(a2 b g).2) (d:=17) (YJ w b bD (S.rd (S.arg hb)) g) fun ac w N af gB ei fg S up bX bL d7 d8 d9=>?_
 clear up d7
 clear d8
 have Dn:=uz (a2 b g).1
 refine S.bd 22 (.cons (aE fun w hw=>zZ w (a2 b g).1 af (bJ bX.ak hw)) (.cons (aE fun w hw=>Yv w b bD (bJ (S.arg hb) hw)) .nil)) (!(jC b)) (fun ac w β eS S=>?_) (fun ac w β eS S=>?_)
 ·have ec:=cm eS
  refine S.go 13 .nil fun ac w β S=>S.cJ (r:=b) (d:=34) (z0 w b bD (S.rd (S.arg hb))) fun ac w N j5 e6 S up ba d16=>?_
  clear up d16
  refine S.bo 5 .nil [GT.val b j5,B false] fun ac w β S=>?_
  exact gb (p':=()) S (show(eZ b g).1=b from pA) (show(eZ b g).2=false from pB) rfl rfl ba trivial
 have jH:=b9 eS
 have po:=Yc jH
 refine S.bd 4 .nil (!(a2 b g).2) (fun ac w β hU S=>?_) (fun ac w β hU S=>?_)
 ·have hp:=cm hU
  have IV:=ac2 hp
  refine S.go 9 .nil fun ac w β S=>S.cJ (r:=b) (d:=34) (z0 w b bD (S.rd (S.arg hb))) fun ac w N uf s4 S up j3 d25=>?_
  clear up d25
  refine S.bo 5 .nil [GT.val b uf,B false] fun ac w β S=>?_
  exact gb (p':=()) S (show(eZ b g).1=b from pA) (show(eZ b g).2=false from pB) rfl rfl j3 trivial
 have gS:=b9 hU
 have tw:=ac3 gS
 refine S.aI 5 .nil ((bY (a2 b g).1)==0) (fun ac w β hD lQ S=>?_) (fun ac w β hD lQ S=>?_)
 ·refine S.go 4 .nil fun ac w β S=>S.cJ (r:=b) (d:=34) (z0 w b bD (S.rd (S.arg hb))) fun ac w N mN qI S up fZ d33=>?_
  clear up d33
  refine S.bo 5 .nil [GT.val b mN,B false] fun ac w β S=>?_
  exact gb (p':=()) S (show(eZ b g).1=b from pA) (show(eZ b g).2=false from pB) rfl rfl fZ trivial
 refine S.aI 34 (.cons (aE fun w hw=>Pl w (a2 b g).1 af (bJ bX.ak hw)) (.cons (aE fun w hw=>uS w (a2 b g).1.prog af.prog (bJ (az.prog (d:=(a2 b g).1) bX.ak) hw) (a2 b g).1.aw) .nil)) ((bY (a2 b g).1)==1) (fun ac w β vj IW S=>?_) (fun ac w β vj IW S=>?_)
 ·refine S.go 2 .nil fun ac w β S=>?_
  refine dI ?_
  refine S.dR (f:=7) 5 (by kernel_rfl) (by kernel_rfl) fun w S=>?_
  refine S.hm 4 [0,1,2] [] [(45,.v (GT.val b bD)),(46,.v (aa g)),(47,.v (GT.val (a2 b g).1 af))] .nil fun ac S=>?_
  refine ar.one (i:=3) (by kernel_rfl) ?_
  refine id (S.dB 48 (YM w (a2 b g).1 af (S.rd bX.ak)) fun ac w N Cg C_ S up lv d39=>?_)
  refine ar.next S up (by kernel_rfl) ?_
  replace bX:=bX.up up
  clear up d39
  refine ar.one (i:=4) (by kernel_rfl) ?_
  refine id (S.dB 49 (rU w b bD (S.rd (S.arg hb)) g (jt (a2 b g).1) Cg (S.rd lv.ak)) fun ac w N oT zA S up k7 d44=>?_)
  refine ar.next S up (by kernel_rfl) ?_
  replace bX:=bX.up up
  clear up d44
  refine S.c_ 5 [] [] 4 [(1,GT.cells (gG b g (jt (a2 b g).1)) oT)] .nil fun ac w β S=>?_
  refine S.c_ 6 [] [(5,.v (B true))] 4 [] .nil fun ac w β S=>?_
  refine ar.done (by kernel_rfl) ?_ _
  refine S.ex fun S=>?_
  refine S.bo 2 .nil [GT.val (gG b g (jt (a2 b g).1)) oT,B true] fun ac w β S=>?_
  exact gb (p':=()) S (show(eZ b g).1=(gG b g (jt (a2 b g).1)) from pA) (show(eZ b g).2=true from pB) rfl rfl k7 trivial
 refine S.aI 7 .nil ((bY (a2 b g).1)==2) (fun ac w β r_ Ee S=>?_) (fun ac w β r_ Ee S=>?_)
 ·refine S.go 2 .nil fun ac w β S=>?_
  refine dI ?_
  refine S.dR (f:=7) 5 (by kernel_rfl) (by kernel_rfl) fun w S=>?_
  refine S.hm 4 [0,1,2] [] [(52,.v (GT.val b bD)),(53,.v (aa g)),(54,.v (GT.val (a2 b g).1 af))] .nil fun ac S=>?_
  refine ar.one (i:=3) (by kernel_rfl) ?_
  refine id (S.dB 55 (YR w (a2 b g).1 af (S.rd bX.ak)) fun ac w N Cj qK S up g_ d52=>?_)
  refine ar.next S up (by kernel_rfl) ?_
  replace bX:=bX.up up
  clear up d52
  refine ar.one (i:=4) (by kernel_rfl) ?_
  refine id (S.dB 56 (rU w b bD (S.rd (S.arg hb)) g (gx (a2 b g).1) Cj (S.rd g_.ak)) fun ac w N gm qL S up kM d57=>?_)
  refine ar.next S up (by kernel_rfl) ?_
  replace bX:=bX.up up
  clear up d57
  refine S.c_ 5 [] [] 4 [(1,GT.cells (gG b g (gx (a2 b g).1)) gm)] .nil fun ac w β S=>?_
  refine S.c_ 6 [] [(5,.v (B true))] 4 [] .nil fun ac w β S=>?_
  refine ar.done (by kernel_rfl) ?_ _
  refine S.ex fun S=>?_
  refine S.bo 2 .nil [GT.val (gG b g (gx (a2 b g).1)) gm,B true] fun ac w β S=>?_
  exact gb (p':=()) S (show(eZ b g).1=(gG b g (gx (a2 b g).1)) from pA) (show(eZ b g).2=true from pB) rfl rfl kM trivial
 refine S.go 8 .nil fun ac w β S=>?_
 refine S.p5 ⟨[(1,.v (aa g)),(2,.p 0 0),(4,.p 1 0),(6,.p 2 0),(8,.v (aa (bY (a2 b g).1))),(9,.v (aa (bn (a2 b g).1))),(10,.p 3 0),(42,.v (aa (bY (a2 b g).1))),(57,.v (B (((bY (a2 b g).1)==3)||((bY (a2 b g).1)==4))))],[GT.cells b bD,cg cP,GT.cells (a2 b g).1 af,GT.cells (bG (a2 b g).1.prog (a2 b g).1.aw) ()]⟩ ?_ ?_
 ·clear S;intro S
  refine S.aI 0 .nil ((bY (a2 b g).1)==3) (fun ac w β AB yd S=>?_) (fun ac w β AB yd S=>?_)
  ·exact S.dG 2 .nil fun ac w β S=>⟨rfl,_,by rw [AB];exact S.z⟩
  exact S.dG 5 .nil fun ac w β S=>⟨rfl,_,by rw [AB];exact S.z⟩
 clear S;intro ac w β S
 refine S.bd 1 .nil (((bY (a2 b g).1)==3)||((bY (a2 b g).1)==4)) (fun ac w β vl S=>?_) (fun ac w β vl S=>?_)
 ·have Eh:=D2 vl
  refine S.bd 20 (.cons (aE fun w hw=>zX w (bn (a2 b g).1) (j1 bX.ak)) (.cons (aE fun w hw=>HC w ((bY (a2 b g).1)==4)) (.cons (aE fun w hw=>PH w (a2 b g).1.live af.live (bJ (az.live (d:=(a2 b g).1) bX.ak) hw) (ct (bn (a2 b g).1)) (dD ((bY (a2 b g).1)==4))) .nil))) (!(cW (a2 b g).1.live (ct (bn (a2 b g).1)) (dD ((bY (a2 b g).1)==4))).2) (fun ac w β AE S=>?_) (fun ac w β AE S=>?_)
  ·have Ek:=cm AE
   refine S.go 2 .nil fun ac w β S=>?_
   refine dI ?_
   refine S.dR (f:=11) 9 (by kernel_rfl) (by kernel_rfl) fun w S=>?_
   refine S.hm 6 [0,1,2,3,5] [] [(75,.v (GT.val b bD)),(76,.v (aa g)),(77,.v (GT.val (a2 b g).1 af)),(78,.v (aa (bn (a2 b g).1))),(80,.v (B ((bY (a2 b g).1)==4)))] .nil fun ac S=>?_
   refine S.iN 4 [] [(79,.v (aa (ct (bn (a2 b g).1))))] 4 [] (.cons (aE fun w hw=>zX w (bn (a2 b g).1) (j1 bX.ak)) .nil) fun ac w β S=>?_
   refine S.iN 6 [] [(81,.v (GT.val (gY (ct (bn (a2 b g).1)) ((bY (a2 b g).1)==4)) ()))] 4 [] (.cons (aE fun w hw=>Pq w (ct (bn (a2 b g).1)) (rS (j1 bX.ak)) ((bY (a2 b g).1)==4)) .nil) fun ac w β S=>?_
   refine ar.one (i:=7) (by kernel_rfl) ?_
   refine id (S.dB 82 (zY w (a2 b g).1 af (S.rd bX.ak) (gY (ct (bn (a2 b g).1)) ((bY (a2 b g).1)==4)) (IK (rS (j1 bX.ak)) ((bY (a2 b g).1)==4))) fun ac w N y8 xj S up rp d69=>?_)
   refine ar.next S up (by kernel_rfl) ?_
   replace bX:=bX.up up
   clear up d69
   refine ar.one (i:=8) (by kernel_rfl) ?_
   refine id (S.dB 83 (rU w b bD (S.rd (S.arg hb)) g ({(a2 b g).1 with exit:=(gY (ct (bn (a2 b g).1)) ((bY (a2 b g).1)==4))}:ax) y8 (S.rd rp.ak)) fun ac w N k_ o2 S up hJ d74=>?_)
   refine ar.next S up (by kernel_rfl) ?_
   replace bX:=bX.up up
   clear up d74
   refine S.c_ 9 [] [] 4 [(1,GT.cells (gG b g ({(a2 b g).1 with exit:=(gY (ct (bn (a2 b g).1)) ((bY (a2 b g).1)==4))}:ax)) k_)] .nil fun ac w β S=>?_
   refine S.c_ 10 [] [(5,.v (B true))] 4 [] .nil fun ac w β S=>?_
   refine ar.done (by kernel_rfl) ?_ _
   refine S.ex fun S=>?_
   refine S.bo 2 .nil [GT.val (gG b g ({(a2 b g).1 with exit:=(gY (ct (bn (a2 b g).1)) ((bY (a2 b g).1)==4))}:ax)) k_,B true] fun ac w β S=>?_
   exact gb (p':=()) S (show(eZ b g).1=(gG b g ({(a2 b g).1 with exit:=(gY (ct (bn (a2 b g).1)) ((bY (a2 b g).1)==4))}:ax)) from pA) (show(eZ b g).2=true from pB) rfl rfl hJ trivial
  have El:=b9 AE
  refine S.aI 7 .nil ((bY (a2 b g).1)==4) (fun ac w β AG acR S=>?_) (fun ac w β AG acR S=>?_)
  ·refine S.go 2 .nil fun ac w β S=>?_
   refine dI ?_
   refine S.dR (f:=10) 9 (by kernel_rfl) (by kernel_rfl) fun w S=>?_
   refine S.hm 4 [0,1,2,3,5,6] [] [(87,.v (R b.mem.length bD.mem.1)),(88,.v (aa (cW (a2 b g).1.live (ct (bn (a2 b g).1)) (dD ((bY (a2 b g).1)==4))).1)),(89,.v (aa (bn (a2 b g).1))),(92,.v (aa (a2 b g).1.acc))] .nil fun ac S=>?_
   refine S.iN 4 [] [(90,.v (aa (ds (bn (a2 b g).1))))] 4 [] (.cons (aE fun w hw=>Dx w (bn (a2 b g).1) (j1 bX.ak)) .nil) fun ac w β S=>?_
   refine ar.one (i:=7) (by kernel_rfl) ?_
   refine id (S.dB 93 (PI w b.mem bD.mem (S.rd (fK.mem (d:=b) (S.arg hb))) (cW (a2 b g).1.live (ct (bn (a2 b g).1)) (dD ((bY (a2 b g).1)==4))).1 (ds (bn (a2 b g).1)) (a2 b g).1.acc (az.acc (d:=(a2 b g).1) bX.ak)) fun ac w N uk Dg S up qy d83=>?_)
   refine ar.next S up (by kernel_rfl) ?_
   replace bX:=bX.up up
   clear up d83
   refine S.a9 8 [8] [] [(94,.p 0 0)] .nil fun ac S=>?_
   refine S.c_ 9 [] [] 4 [(0,[R (gh b.mem (cW (a2 b g).1.live (ct (bn (a2 b g).1)) (dD ((bY (a2 b g).1)==4))).1 (ds (bn (a2 b g).1)) (a2 b g).1.acc).length uk.1,R b.U.length bD.U.1,R b.outs.length bD.outs.1,aa b.aC])] .nil fun ac w β S=>?_
   refine ar.done (by kernel_rfl) ?_ _
   refine S.ex fun S=>?_
   refine S.go 2 .nil fun ac w β S=>?_
   refine dI ?_
   refine S.dR (f:=7) 5 (by kernel_rfl) (by kernel_rfl) fun w S=>?_
   refine S.hm 4 [0,1,2] [] [(95,.v (GT.val (⟨(gh b.mem (cW (a2 b g).1.live (ct (bn (a2 b g).1)) (dD ((bY (a2 b g).1)==4))).1 (ds (bn (a2 b g).1)) (a2 b g).1.acc),b.U,b.outs,b.aC⟩:cP) (⟨uk,bD.U,bD.outs⟩:jd))),(96,.v (aa g)),(97,.v (GT.val (a2 b g).1 af))] .nil fun ac S=>?_
   refine ar.one (i:=3) (by kernel_rfl) ?_
   refine id (S.dB 98 (PE w (a2 b g).1 af (S.rd bX.ak)) fun ac w N dP dX S up hW d88=>?_)
   refine ar.next S up (by kernel_rfl) ?_
   replace bX:=bX.up up
   replace qy:=qy.up up
   clear up d88
   refine ar.one (i:=4) (by kernel_rfl) ?_
   refine id (S.dB 99 (rU w (⟨(gh b.mem (cW (a2 b g).1.live (ct (bn (a2 b g).1)) (dD ((bY (a2 b g).1)==4))).1 (ds (bn (a2 b g).1)) (a2 b g).1.acc),b.U,b.outs,b.aC⟩:cP) (⟨uk,bD.U,bD.outs⟩:jd) (S.rd (show GT.rd b6 _ _ (⟨(gh b.mem (cW (a2 b g).1.live (ct (bn (a2 b g).1)) (dD ((bY (a2 b g).1)==4))).1 (ds (bn (a2 b g).1)) (a2 b g).1.acc),b.U,b.outs,b.aC⟩:cP) (⟨uk,bD.U,bD.outs⟩:jd) from⟨qy.ak,(fK.U (p:=bD) (d:=b) (S.arg hb)),(fK.outs (p:=bD) (d:=b) (S.arg hb)),(fK.aC (d:=b) (S.arg hb))⟩)) g (a5 (a2 b g).1) dP (S.rd hW.ak)) fun ac w N e5 od S up gk d94=>?_)
   refine ar.next S up (by kernel_rfl) ?_
   replace bX:=bX.up up
   clear up d94
   refine S.c_ 5 [] [] 4 [(1,GT.cells (gG (⟨(gh b.mem (cW (a2 b g).1.live (ct (bn (a2 b g).1)) (dD ((bY (a2 b g).1)==4))).1 (ds (bn (a2 b g).1)) (a2 b g).1.acc),b.U,b.outs,b.aC⟩:cP) g (a5 (a2 b g).1)) e5)] .nil fun ac w β S=>?_
   refine S.c_ 6 [] [(5,.v (B true))] 4 [] .nil fun ac w β S=>?_
   refine ar.done (by kernel_rfl) ?_ _
   refine S.ex fun S=>?_
   refine S.bo 2 .nil [GT.val (gG (⟨(gh b.mem (cW (a2 b g).1.live (ct (bn (a2 b g).1)) (dD ((bY (a2 b g).1)==4))).1 (ds (bn (a2 b g).1)) (a2 b g).1.acc),b.U,b.outs,b.aC⟩:cP) g (a5 (a2 b g).1)) e5,B true] fun ac w β S=>?_
   exact gb (p':=()) S (show(eZ b g).1=(gG (⟨(gh b.mem (cW (a2 b g).1.live (ct (bn (a2 b g).1)) (dD ((bY (a2 b g).1)==4))).1 (ds (bn (a2 b g).1)) (a2 b g).1.acc),b.U,b.outs,b.aC⟩:cP) g (a5 (a2 b g).1)) from pA) (show(eZ b g).2=true from pB) rfl rfl gk trivial
  refine S.go 5 .nil fun ac w β S=>?_
  refine dI ?_
  refine S.dR (f:=13) 11 (by kernel_rfl) (by kernel_rfl) fun w S=>?_
  refine S.hm 6 [0,1,2,3,4,5,6] [] [(100,.v (GT.val b bD)),(101,.v (aa g)),(102,.v (GT.val (a2 b g).1 af)),(104,.v (R b.mem.length bD.mem.1)),(105,.v (aa (cW (a2 b g).1.live (ct (bn (a2 b g).1)) (dD ((bY (a2 b g).1)==4))).1)),(106,.v (aa (bn (a2 b g).1)))] .nil fun ac S=>?_
  refine S.iN 7 [] [(107,.v (aa (ds (bn (a2 b g).1))))] 4 [] (.cons (aE fun w hw=>Dx w (bn (a2 b g).1) (j1 bX.ak)) .nil) fun ac w β S=>?_
  refine S.iN 8 [] [(108,.v (aa (fI b.mem (cW (a2 b g).1.live (ct (bn (a2 b g).1)) (dD ((bY (a2 b g).1)==4))).1 (ds (bn (a2 b g).1)))))] 4 [] (.cons (aE fun w hw=>Pp w b.mem bD.mem (bJ (fK.mem (d:=b) (S.arg hb)) hw) (cW (a2 b g).1.live (ct (bn (a2 b g).1)) (dD ((bY (a2 b g).1)==4))).1 (ds (bn (a2 b g).1))) .nil) fun ac w β S=>?_
  refine ar.one (i:=9) (by kernel_rfl) ?_
  refine id (S.dB 109 (Py w (a2 b g).1 af (S.rd bX.ak) (fI b.mem (cW (a2 b g).1.live (ct (bn (a2 b g).1)) (dD ((bY (a2 b g).1)==4))).1 (ds (bn (a2 b g).1))) (HS (fK.mem (d:=b) (S.arg hb)) (cW (a2 b g).1.live (ct (bn (a2 b g).1)) (dD ((bY (a2 b g).1)==4))).1 (ds (bn (a2 b g).1)))) fun ac w N rD OC S up BL d101=>?_)
  refine ar.next S up (by kernel_rfl) ?_
  replace bX:=bX.up up
  clear up d101
  refine ar.one (i:=10) (by kernel_rfl) ?_
  refine id (S.dB 110 (rU w b bD (S.rd (S.arg hb)) g (ia (a2 b g).1 (fI b.mem (cW (a2 b g).1.live (ct (bn (a2 b g).1)) (dD ((bY (a2 b g).1)==4))).1 (ds (bn (a2 b g).1)))) rD (S.rd BL.ak)) fun ac w N rv iQ S up n0 d106=>?_)
  refine ar.next S up (by kernel_rfl) ?_
  replace bX:=bX.up up
  clear up d106
  refine S.c_ 11 [] [] 4 [(1,GT.cells (gG b g (ia (a2 b g).1 (fI b.mem (cW (a2 b g).1.live (ct (bn (a2 b g).1)) (dD ((bY (a2 b g).1)==4))).1 (ds (bn (a2 b g).1))))) rv)] .nil fun ac w β S=>?_
  refine S.c_ 12 [] [(5,.v (B true))] 4 [] .nil fun ac w β S=>?_
  refine ar.done (by kernel_rfl) ?_ _
  refine S.ex fun S=>?_
  refine S.bo 2 .nil [GT.val (gG b g (ia (a2 b g).1 (fI b.mem (cW (a2 b g).1.live (ct (bn (a2 b g).1)) (dD ((bY (a2 b g).1)==4))).1 (ds (bn (a2 b g).1))))) rv,B true] fun ac w β S=>?_
  exact gb (p':=()) S (show(eZ b g).1=(gG b g (ia (a2 b g).1 (fI b.mem (cW (a2 b g).1.live (ct (bn (a2 b g).1)) (dD ((bY (a2 b g).1)==4))).1 (ds (bn (a2 b g).1))))) from pA) (show(eZ b g).2=true from pB) rfl rfl n0 trivial
 obtain⟨Aw,ac7⟩:=n4 vl
 have an7:¬((bY (a2 b g).1)=3):=ne_of_beq_false Aw
 have an8:¬((bY (a2 b g).1)=4):=ne_of_beq_false ac7
 refine S.aI 7 .nil ((bY (a2 b g).1)==6) (fun ac w β ac8 acn S=>?_) (fun ac w β ac8 acn S=>?_)
 ·refine S.go 2 .nil fun ac w β S=>?_
  refine dI ?_
  refine S.dR (f:=10) 8 (by kernel_rfl) (by kernel_rfl) fun w S=>?_
  refine S.hm 5 [0,1,2,3,4] [] [(113,.v (GT.val b bD)),(114,.v (aa g)),(115,.v (GT.val (a2 b g).1 af)),(117,.v (aa (bG (a2 b g).1.prog (a2 b g).1.aw).x))] .nil fun ac S=>?_
  refine S.iN 5 [] [(118,.v (GT.val (mm (bG (a2 b g).1.prog (a2 b g).1.aw).x) ()))] 4 [] (.cons (aE fun w hw=>Yy w (bG (a2 b g).1.prog (a2 b g).1.aw).x (je.x (d:=(bG (a2 b g).1.prog (a2 b g).1.aw)) (l4 (az.prog (d:=(a2 b g).1) bX.ak) (a2 b g).1.aw))) .nil) fun ac w β S=>?_
  refine ar.one (i:=6) (by kernel_rfl) ?_
  refine id (S.dB 119 (zY w (a2 b g).1 af (S.rd bX.ak) (mm (bG (a2 b g).1.prog (a2 b g).1.aw).x) (Ql (je.x (d:=(bG (a2 b g).1.prog (a2 b g).1.aw)) (l4 (az.prog (d:=(a2 b g).1) bX.ak) (a2 b g).1.aw)))) fun ac w N y4 Oe S up BN d118=>?_)
  refine ar.next S up (by kernel_rfl) ?_
  replace bX:=bX.up up
  clear up d118
  refine ar.one (i:=7) (by kernel_rfl) ?_
  refine id (S.dB 120 (rU w b bD (S.rd (S.arg hb)) g ({(a2 b g).1 with exit:=(mm (bG (a2 b g).1.prog (a2 b g).1.aw).x)}:ax) y4 (S.rd BN.ak)) fun ac w N Vy alG S up LG d123=>?_)
  refine ar.next S up (by kernel_rfl) ?_
  replace bX:=bX.up up
  clear up d123
  refine S.c_ 8 [] [] 4 [(1,GT.cells (gG b g ({(a2 b g).1 with exit:=(mm (bG (a2 b g).1.prog (a2 b g).1.aw).x)}:ax)) Vy)] .nil fun ac w β S=>?_
  refine S.c_ 9 [] [(5,.v (B true))] 4 [] .nil fun ac w β S=>?_
  refine ar.done (by kernel_rfl) ?_ _
  refine S.ex fun S=>?_
  refine S.bo 2 .nil [GT.val (gG b g ({(a2 b g).1 with exit:=(mm (bG (a2 b g).1.prog (a2 b g).1.aw).x)}:ax)) Vy,B true] fun ac w β S=>?_
  exact gb (p':=()) S (show(eZ b g).1=(gG b g ({(a2 b g).1 with exit:=(mm (bG (a2 b g).1.prog (a2 b g).1.aw).x)}:ax)) from pA) (show(eZ b g).2=true from pB) rfl rfl LG trivial
 refine S.bd 9 (.cons (aE fun w hw=>PL w (bY (a2 b g).1)) (.cons (aE fun w hw=>HA w (a2 b g).1.aN.aY (fR (bY (a2 b g).1))) .nil)) (hR (a2 b g).1.aN.aY (fR (bY (a2 b g).1))) (fun ac w β adb S=>?_) (fun ac w β adb S=>?_)
 ·refine S.go 2 .nil fun ac w β S=>?_
  refine dI ?_
  refine S.dR (f:=8) 6 (by kernel_rfl) (by kernel_rfl) fun w S=>?_
  refine S.hm 4 [0,1,2,3] [] [(128,.v (GT.val b bD)),(129,.v (aa g)),(130,.v (GT.val (a2 b g).1 af)),(131,.v (aa (bY (a2 b g).1)))] .nil fun ac S=>?_
  refine ar.one (i:=4) (by kernel_rfl) ?_
  refine id (S.dB 132 (PM w (a2 b g).1 af (S.rd bX.ak) (bY (a2 b g).1)) fun ac w N ajd rM S up gv d130=>?_)
  refine ar.next S up (by kernel_rfl) ?_
  replace bX:=bX.up up
  clear up d130
  refine ar.one (i:=5) (by kernel_rfl) ?_
  refine id (S.dB 133 (rU w b bD (S.rd (S.arg hb)) g (mv (a2 b g).1 (bY (a2 b g).1)) ajd (S.rd gv.ak)) fun ac w N MJ Oi S up ahD d135=>?_)
  refine ar.next S up (by kernel_rfl) ?_
  replace bX:=bX.up up
  clear up d135
  refine S.c_ 6 [] [] 4 [(1,GT.cells (gG b g (mv (a2 b g).1 (bY (a2 b g).1))) MJ)] .nil fun ac w β S=>?_
  refine S.c_ 7 [] [(5,.v (B true))] 4 [] .nil fun ac w β S=>?_
  refine ar.done (by kernel_rfl) ?_ _
  refine S.ex fun S=>?_
  refine S.bo 2 .nil [GT.val (gG b g (mv (a2 b g).1 (bY (a2 b g).1))) MJ,B true] fun ac w β S=>?_
  exact gb (p':=()) S (show(eZ b g).1=(gG b g (mv (a2 b g).1 (bY (a2 b g).1))) from pA) (show(eZ b g).2=true from pB) rfl rfl ahD trivial
 refine S.aI 8 .nil ((bY (a2 b g).1)==5) (fun ac w β ade acy S=>?_) (fun ac w β ade acy S=>?_)
 ·refine S.go 2 .nil fun ac w β S=>?_
  refine dI ?_
  refine S.dR (f:=10) 8 (by kernel_rfl) (by kernel_rfl) fun w S=>?_
  refine S.hm 5 [0,1,2,4,5] [] [(137,.v (GT.val b bD)),(139,.v (aa (bG (a2 b g).1.prog (a2 b g).1.aw).x)),(141,.v (aa g)),(142,.v (GT.val (a2 b g).1 af))] .nil fun ac S=>?_
  refine ar.one (i:=3) (by kernel_rfl) ?_
  refine id (S.dB 140 (YT w b bD (S.rd (S.arg hb)) (bG (a2 b g).1.prog (a2 b g).1.aw).x (je.x (d:=(bG (a2 b g).1.prog (a2 b g).1.aw)) (l4 (az.prog (d:=(a2 b g).1) bX.ak) (a2 b g).1.aw))) fun ac w N kl jU S up hI d143=>?_)
  refine ar.next S up (by kernel_rfl) ?_
  replace bX:=bX.up up
  clear up d143
  refine ar.one (i:=6) (by kernel_rfl) ?_
  refine id (S.dB 143 (xA w (a2 b g).1 af (S.rd bX.ak)) fun ac w N ajg C7 S up rk d148=>?_)
  refine ar.next S up (by kernel_rfl) ?_
  replace bX:=bX.up up
  replace hI:=hI.up up
  clear up d148
  refine ar.one (i:=7) (by kernel_rfl) ?_
  refine id (S.dB 144 (rU w (ln b (bG (a2 b g).1.prog (a2 b g).1.aw).x) kl (S.rd hI.ak) g (a5 (a2 b g).1) ajg (S.rd rk.ak)) fun ac w N g2 WG S up LI d154=>?_)
  refine ar.next S up (by kernel_rfl) ?_
  replace bX:=bX.up up
  clear up d154
  refine S.c_ 8 [] [] 4 [(1,GT.cells (gG (ln b (bG (a2 b g).1.prog (a2 b g).1.aw).x) g (a5 (a2 b g).1)) g2)] .nil fun ac w β S=>?_
  refine S.c_ 9 [] [(5,.v (B true))] 4 [] .nil fun ac w β S=>?_
  refine ar.done (by kernel_rfl) ?_ _
  refine S.ex fun S=>?_
  refine S.bo 2 .nil [GT.val (gG (ln b (bG (a2 b g).1.prog (a2 b g).1.aw).x) g (a5 (a2 b g).1)) g2,B true] fun ac w β S=>?_
  exact gb (p':=()) S (show(eZ b g).1=(gG (ln b (bG (a2 b g).1.prog (a2 b g).1.aw).x) g (a5 (a2 b g).1)) from pA) (show(eZ b g).2=true from pB) rfl rfl LI trivial
 refine S.go 5 .nil fun ac w β S=>?_
 refine dI ?_
 refine S.dR (f:=7) 5 (by kernel_rfl) (by kernel_rfl) fun w S=>?_
 refine S.hm 4 [0,1,2] [] [(145,.v (GT.val b bD)),(146,.v (aa g)),(147,.v (GT.val (a2 b g).1 af))] .nil fun ac S=>?_
 refine ar.one (i:=3) (by kernel_rfl) ?_
 refine id (S.dB 148 (Pv w (a2 b g).1 af (S.rd bX.ak)) fun ac w N pL lH S up ahF d161=>?_)
 refine ar.next S up (by kernel_rfl) ?_
 clear up d161
 refine ar.one (i:=4) (by kernel_rfl) ?_
 refine id (S.dB 149 (rU w b bD (S.rd (S.arg hb)) g (jD (a2 b g).1) pL (S.rd ahF.ak)) fun ac w N VE Om S up sE d166=>?_)
 refine ar.next S up (by kernel_rfl) ?_
 clear up d166
 refine S.c_ 5 [] [] 4 [(1,GT.cells (gG b g (jD (a2 b g).1)) VE)] .nil fun ac w β S=>?_
 refine S.c_ 6 [] [(5,.v (B true))] 4 [] .nil fun ac w β S=>?_
 refine ar.done (by kernel_rfl) ?_ _
 refine S.ex fun S=>?_
 refine S.bo 2 .nil [GT.val (gG b g (jD (a2 b g).1)) VE,B true] fun ac w β S=>?_
 exact gb (p':=()) S (show(eZ b g).1=(gG b g (jD (a2 b g).1)) from pA) (show(eZ b g).2=true from pB) rfl rfl sE trivial
end Go.Proofs.YtjlocpdfcanlhaaGreat
