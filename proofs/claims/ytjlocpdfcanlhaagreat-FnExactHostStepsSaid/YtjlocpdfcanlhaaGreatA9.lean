/- The walks: what each function that the laws reach computes (part 5). -/
import Derived.Test.YtjlocpdfcanlhaaGreatA8
import Derived.Test.YtjlocpdfcanlhaaGreatProg
import Derived.KernelRfl
namespace Go.Proofs.YtjlocpdfcanlhaaGreat
open Go
set_option linter.unusedVariables false
set_option linter.unusedSimpArgs false
set_option maxRecDepth 100000
set_option maxHeartbeats 2000000
theorem KA {p:Prop} (h:p:=by clear S;subst hq;(first|(rw [EK (by assumption)];done)|(rw [EL (by assumption)];done)|(rw [EM (by assumption) (by assumption)];done)|(rw [EN (by assumption) (by assumption)];done)|(rw [Th (by assumption) (by assumption) (by assumption) (by omega)];done)|(rw [Tg (by assumption) (by assumption) (by assumption) (by omega)];done)|(rw [yK (by assumption) (by assumption) (by assumption) (by assumption)];first|rfl|(simp only [EH (show bY (el (aK h m).1.U g.toNat)=3\/bY (el (aK h m).1.U g.toNat)=4 by omega),mu,mn,qc];simp_all;done)))):p:=h
theorem yU {p:Prop} (h:p:=by clear S;(first|(rw [EK (by assumption)];done)|(rw [EL (by assumption)];done)|(rw [EM (by assumption) (by assumption)];done)|(rw [EN (by assumption) (by assumption)];done)|(rw [Th (by assumption) (by assumption) (by assumption) (by omega)];done)|(rw [Tg (by assumption) (by assumption) (by assumption) (by omega)];done)|(rw [yK (by assumption) (by assumption) (by assumption) (by assumption)];first|rfl|(simp only [EH (show bY (el (aK h m).1.U g.toNat)=3\/bY (el (aK h m).1.U g.toNat)=4 by omega),mu,mn,qc];simp_all;done)))):p:=h
theorem K_ {p:Prop} (h:p:=by clear S;subst hq;(first|(rw [EK (by assumption)];done)|(rw [EL (by assumption)];done)|(rw [EM (by assumption) (by assumption)];done)|(rw [EN (by assumption) (by assumption)];done)|(rw [yK (by assumption) (by assumption) (by assumption) (by assumption)];done))):p:=h
theorem yV {p:Prop} (h:p:=by clear S;(first|(rw [EK (by assumption)];done)|(rw [EL (by assumption)];done)|(rw [EM (by assumption) (by assumption)];done)|(rw [EN (by assumption) (by assumption)];done)|(rw [yK (by assumption) (by assumption) (by assumption) (by assumption)];done))):p:=h
theorem YK (w0:World) (h:ah) (ai:b_) (aX:bQ w0 h ai) (m:Int) (g:Int):Calls Tryz.prog 9 [GT.val h ai,aa m,aa g].toArray w0 (o4 ab w0 ((dN h m g).1:ah) ((dN h m g).2:Bool)):=by
 refine Calls.run ab Tryz.func9 ?_
 intro ac β S
 have lZ:h.mem.length<=4194304:=ae.le (bu.mem (d:=h) aX)
 have l0:h.I.length<=4194304:=ae.le (bu.I (d:=h) aX)
 have lX:h.buf.length<=4194304:=ae.le (bu.buf (d:=h) aX)
 have lY:h.ag.length<=4194304:=ae.le (bu.ag (d:=h) aX)
 refine S.go 10 .nil fun ac w β S=>S.cJ (r:=h) (d:=21) (HH w h ai (S.rd (S.arg aX))) fun ac w N af br S up aA d4=>?_
 clear up d4
 obtain⟨dU,e7,eh,e6,bL,bF,bA,ba,_,_,_,_,d17,d18,d19,d20,d21,d22⟩:=jR aA
 refine S.go 8 .nil fun ac w β S=>S.qN (r:=(aK h m).1) (r':=(aK h m).2) (d:=25) (HB w h ai (S.rd (S.arg aX)) m) fun ac w N fe dd ck lI S up dT g9 d29 d30 d31=>?_
 replace bL:=bL.up up
 replace bF:=bF.up up
 replace bA:=bA.up up
 replace ba:=ba.up up
 clear up d29
 clear d30
 refine S.bd 15 (.cons (aE fun w hw=>Pw w h ai (bJ (S.arg aX) hw)) .nil) (!(eJ h)) (fun ac w β lU S=>?_) (fun ac w β lU S=>?_)
 ·have pt:=cm lU
  refine S.bo 31 .nil [GT.val h af,B false] fun ac w β S=>?_
  have jO:=fs (x:=h) (p:=af) bL bF bA ba d17 d18 d19 d20 d21 d22
  exact gb (p':=()) S (show(dN h m g).1=h from yU) (show(dN h m g).2=false from yV) rfl rfl jO trivial
 have yq:=b9 lU
 have acL:=sq yq
 refine S.bd 4 .nil (!(aK h m).2) (fun ac w β qg S=>?_) (fun ac w β qg S=>?_)
 ·have oA:=cm qg
  refine S.bo 27 .nil [GT.val h af,B false] fun ac w β S=>?_
  have BZ:=fs (x:=h) (p:=af) bL bF bA ba d17 d18 d19 d20 d21 d22
  exact gb (p':=()) S (show(dN h m g).1=h from yU) (show(dN h m g).2=false from yV) rfl rfl BZ trivial
 have Ay:=b9 qg
 have aom:=wv Ay
 refine S.bd 8 (.cons (aE fun w hw=>js w g ((aK h m).1.U.length:Int) (by omega)) .nil) (!(a3 g 0 (((aK h m).1.U.length:Int)-1))) (fun ac w β Az S=>?_) (fun ac w β Az S=>?_)
 ·have adv:=cm Az
  have aon:=dn adv
  refine S.bo 19 .nil [GT.val h af,B false] fun ac w β S=>?_
  have rm:=fs (x:=h) (p:=af) bL bF bA ba d17 d18 d19 d20 d21 d22
  exact gb (p':=()) S (show(dN h m g).1=h from yU) (show(dN h m g).2=false from yV) rfl rfl rm trivial
 have adw:=b9 Az
 have aop:=cV adw
 have amS:=uz (el (aK h m).1.U g.toNat)
 refine S.aI 10 (.cons (cq (aU.U (d:=(aK h m).1) dT.ak) g Tryz.underlying71) (.cons (dz (aU.U (d:=(aK h m).1) dT.ak) 70 g.toNat) (.cons (aE fun w hw=>zZ w (el (aK h m).1.U g.toNat) (fe.U.2 g.toNat) (bJ (ae.el (aU.U (d:=(aK h m).1) dT.ak) g.toNat (by omega)) hw)) .nil))) ((bY (el (aK h m).1.U g.toNat))==0) (fun ac w β AA tx S=>?_) (fun ac w β AA tx S=>?_)
 ·refine S.bo 9 .nil [GT.val h af,B false] fun ac w β S=>?_
  have e8:=fs (x:=h) (p:=af) bL bF bA ba d17 d18 d19 d20 d21 d22
  exact gb (p':=()) S (show(dN h m g).1=h from yU) (show(dN h m g).2=false from yV) rfl rfl e8 trivial
 have amT:=uz (el (aK h m).1.U g.toNat)
 refine S.go 42 (.cons (cq (aU.U (d:=(aK h m).1) dT.ak) g Tryz.underlying71) (.cons (dz (aU.U (d:=(aK h m).1) dT.ak) 70 g.toNat) (.cons (aE fun w hw=>zZ w (el (aK h m).1.U g.toNat) (fe.U.2 g.toNat) (bJ (ae.el (aU.U (d:=(aK h m).1) dT.ak) g.toNat (by omega)) hw)) (.cons (aE fun w hw=>Pl w (el (aK h m).1.U g.toNat) (fe.U.2 g.toNat) (bJ (ae.el (aU.U (d:=(aK h m).1) dT.ak) g.toNat (by omega)) hw)) .nil)))) fun ac w β S=>?_
 refine S.p5 ⟨[(1,.v (aa m)),(2,.v (aa g)),(3,.p 0 0),(6,.p 1 0),(8,.p 2 0),(11,.p 4 0),(12,.v (aa (bY (el (aK h m).1.U g.toNat)))),(13,.v (aa (bn (el (aK h m).1.U g.toNat)))),(62,.v (aa (bY (el (aK h m).1.U g.toNat)))),(63,.v (B (((bY (el (aK h m).1.U g.toNat))==3)||((bY (el (aK h m).1.U g.toNat))==4))))],[GT.cells h ai,cg ah,[R h.mem.length af.mem.1,R h.I.length af.I.1,R h.buf.length af.buf.1,R h.ag.length af.ag.1],GT.cells (aK h m).1 fe,GT.cells (el (aK h m).1.U g.toNat) (fe.U.2 g.toNat)]⟩ ?_ ?_
 ·clear S;intro S
  refine S.aI 0 .nil ((bY (el (aK h m).1.U g.toNat))==3) (fun ac w β AD Rz S=>?_) (fun ac w β AD Rz S=>?_)
  ·exact S.dG 2 .nil fun ac w β S=>⟨rfl,_,by rw [AD];exact S.z⟩
  exact S.dG 5 .nil fun ac w β S=>⟨rfl,_,by rw [AD];exact S.z⟩
 clear S;intro ac w β S
 refine S.bd 1 .nil (((bY (el (aK h m).1.U g.toNat))==3)||((bY (el (aK h m).1.U g.toNat))==4)) (fun ac w β oB S=>?_) (fun ac w β oB S=>?_)
 ·have I0:=D2 oB
  refine S.go 9 .nil fun ac w β S=>?_
  refine dI ?_
  let lF:b3:=⟨[(1,.v (aa m)),(2,.v (aa g)),(3,.p 0 0),(6,.p 1 0),(11,.p 4 0),(13,.v (aa (bn (el (aK h m).1.U g.toNat)))),(14,.v (B ((bY (el (aK h m).1.U g.toNat))==4)))],[GT.cells h ai,cg ah,[R h.mem.length af.mem.1,R h.I.length af.I.1,R h.buf.length af.buf.1,R h.ag.length af.ag.1],GT.cells (aK h m).1 fe,GT.cells (el (aK h m).1.U g.toNat) (fe.U.2 g.toNat)]⟩
  obtain⟨bw,bt,bP,S,bL,bF,bA,ba,dT⟩:∃bw bt bP,aj Tryz.prog Tryz.f9.ntmps w0 ab bw bt bP lF ac w/\ad w0 ab bw bt dU h.mem af.mem/\ad w0 ab bw bt e7 h.I af.I/\ad w0 ab bw bt eh h.buf af.buf/\ad w0 ab bw bt e6 h.ag af.ag/\ad w0 ab bw bt ck (aK h m).1 fe:=⟨_,_,_,S.z,bL,bF,bA,ba,dT⟩
  obtain⟨av,hq⟩:∃z,z=cN h m g (ct (bn (el (aK h m).1.U g.toNat))) (dD ((bY (el (aK h m).1.U g.toNat))==4)) false:=⟨_,rfl⟩
  have agi:=Ll (congrArg Prod.fst hq) (EO (by assumption) (by assumption) (by assumption))
  try dsimp only at agi
  obtain⟨av,hq⟩:∃z,z=cN h m g (ct (bn (el (aK h m).1.U g.toNat))) (dD ((bY (el (aK h m).1.U g.toNat))==4)) false:=⟨_,rfl⟩
  have agl:=Ll (congrArg Prod.fst hq) (EO (by assumption) (by assumption) (by assumption))
  try dsimp only at agl
  refine me (fun ac w=>∃kP j_ kQ hO kl jU fw j9 u N β,aj Tryz.prog Tryz.f9.ntmps w0 ab u N β (lF.dl [3] [(15,.p 5 0),(16,.v (aa av.2.1)),(17,.v (B av.2.2))] 6 [(5,[R av.1.mem.length kl.1,R av.1.I.length fw.1,R av.1.buf.length kP.1,R av.1.ag.length kQ.1])]) ac w/\ad w0 ab u N dU h.mem af.mem/\ad w0 ab u N e7 h.I af.I/\ad w0 ab u N eh h.buf af.buf/\ad w0 ab u N e6 h.ag af.ag/\ad w0 ab u N ck (aK h m).1 fe/\ad w0 ab u N j_ av.1.buf kP/\ad w0 ab u N hO av.1.ag kQ/\ad w0 ab u N jU av.1.mem kl/\ad w0 ab u N j9 av.1.I fw/\J dU j_/\J dU hO/\J dU jU/\J dU j9/\J e7 j_/\J e7 hO/\J e7 jU/\J e7 j9/\J eh j_/\J eh hO/\J eh jU/\J eh j9/\J e6 j_/\J e6 hO/\J e6 jU/\J e6 j9/\J ck j_/\J ck hO/\J ck jU/\J ck j9/\J j_ hO/\J j_ jU/\J j_ j9/\J hO jU/\J hO j9/\J jU j9/\a_ av.2.1) ?_ ?_
  ·refine S.dR (f:=16) 13 (by kernel_rfl) (by kernel_rfl) fun w S=>?_
   refine S.hm 11 [0,1,2,3,5] [] [(69,.v (GT.val h ai)),(70,.v (aa m)),(71,.v (aa g)),(72,.v (aa (bn (el (aK h m).1.U g.toNat)))),(74,.v (B ((bY (el (aK h m).1.U g.toNat))==4)))] .nil fun ac S=>?_
   refine ar.mH fun W aG=>?_
   refine ar.mj (l':=cp 16 [0,1,2,3,5]) (by kernel_rfl) ?_
   have adV ac w kP j_ kQ hO kl jU fw j9 u N β (S:aj Tryz.prog Tryz.f9.ntmps w0 ab u N β (lF.dl [3] [(15,.p 5 0),(16,.v (aa av.2.1)),(17,.v (B av.2.2))] 6 [(5,[R av.1.mem.length kl.1,R av.1.I.length fw.1,R av.1.buf.length kP.1,R av.1.ag.length kQ.1])]) ac w) (bL:ad w0 ab u N dU h.mem af.mem) (bF:ad w0 ab u N e7 h.I af.I) (bA:ad w0 ab u N eh h.buf af.buf) (ba:ad w0 ab u N e6 h.ag af.ag) (dT:ad w0 ab u N ck (aK h m).1 fe) (g0:ad w0 ab u N j_ av.1.buf kP) (iV:ad w0 ab u N hO av.1.ag kQ) (jN:ad w0 ab u N jU av.1.mem kl) (hI:ad w0 ab u N j9 av.1.I fw) (d152:J dU j_) (d153:J dU hO) (d154:J dU jU) (d155:J dU j9) (d156:J e7 j_) (d157:J e7 hO) (d158:J e7 jU) (d159:J e7 j9) (d160:J eh j_) (d161:J eh hO) (d162:J eh jU) (d163:J eh j9) (d164:J e6 j_) (d165:J e6 hO) (d166:J e6 jU) (d167:J e6 j9) (d168:J ck j_) (d169:J ck hO) (d170:J ck jU) (d171:J ck j9) (d172:J j_ hO) (d173:J j_ jU) (d174:J j_ j9) (d175:J hO jU) (d176:J hO j9) (d177:J jU j9) (i108:a_ av.2.1):W 0 (cp 16 [0,1,2,3,4,5,6,7,8,9,10,11,12,13,14,15]) ac w:=by
    exact mL aG ⟨rfl,kP,j_,kQ,hO,kl,jU,fw,j9,_,_,_,S.z,bL,bF,bA,ba,dT,g0,iV,jN,hI,d152,d153,d154,d155,d156,d157,d158,d159,d160,d161,d162,d163,d164,d165,d166,d167,d168,d169,d170,d171,d172,d173,d174,d175,d176,d177,i108⟩
   have RO ac w rv iQ ry iu gV gg mM jy u N β (S:aj Tryz.prog Tryz.f9.ntmps w0 ab u N β (lF.dl [3] [(15,.p 5 0),(77,.v (GT.val av.1 (⟨gV,mM,rv,ry⟩:b_))),(78,.v (aa av.2.1)),(79,.v (B av.2.2))] 6 [(5,cg ah)]) ac w) (bL:ad w0 ab u N dU h.mem af.mem) (bF:ad w0 ab u N e7 h.I af.I) (bA:ad w0 ab u N eh h.buf af.buf) (ba:ad w0 ab u N e6 h.ag af.ag) (dT:ad w0 ab u N ck (aK h m).1 fe) (oM:ad w0 ab u N iQ av.1.buf rv) (n0:ad w0 ab u N iu av.1.ag ry) (gM:ad w0 ab u N gg av.1.mem gV) (mK:ad w0 ab u N jy av.1.I mM) (d179:J dU iQ) (d180:J dU iu) (d181:J dU gg) (d182:J dU jy) (d183:J e7 iQ) (d184:J e7 iu) (d185:J e7 gg) (d186:J e7 jy) (d187:J eh iQ) (d188:J eh iu) (d189:J eh gg) (d190:J eh jy) (d191:J e6 iQ) (d192:J e6 iu) (d193:J e6 gg) (d194:J e6 jy) (d195:J ck iQ) (d196:J ck iu) (d197:J ck gg) (d198:J ck jy) (d199:J iQ iu) (d200:J iQ gg) (d201:J iQ jy) (d202:J iu gg) (d203:J iu jy) (d204:J gg jy) (i108:a_ av.2.1) (al:d_ bt bw N u) (aP:cR lF.aM.length bP β):W 3 (cp 16 [0,1,2,3,4,5,6,7,8,9,10,11,12]) ac w:=by
    exact eo aG 13 (S.wl aG [14,15] .nil fun _ _ _ S=>adV _ _ rv iQ ry iu gV gg mM jy _ _ _ S bL bF bA ba dT oM n0 gM mK d179 d180 d181 d182 d183 d184 d185 d186 d187 d188 d189 d190 d191 d192 d193 d194 d195 d196 d197 d198 d199 d200 d201 d202 d203 d204 i108)
   have Em ac w rv iQ ry iu gV gg mM jy u N β (S:aj Tryz.prog Tryz.f9.ntmps w0 ab u N β (lF.dl [3] [(77,.v (GT.val av.1 (⟨gV,mM,rv,ry⟩:b_))),(78,.v (aa av.2.1)),(79,.v (B av.2.2))] 5 []) ac w) (bL:ad w0 ab u N dU h.mem af.mem) (bF:ad w0 ab u N e7 h.I af.I) (bA:ad w0 ab u N eh h.buf af.buf) (ba:ad w0 ab u N e6 h.ag af.ag) (dT:ad w0 ab u N ck (aK h m).1 fe) (oM:ad w0 ab u N iQ av.1.buf rv) (n0:ad w0 ab u N iu av.1.ag ry) (gM:ad w0 ab u N gg av.1.mem gV) (mK:ad w0 ab u N jy av.1.I mM) (d206:J dU iQ) (d207:J dU iu) (d208:J dU gg) (d209:J dU jy) (d210:J e7 iQ) (d211:J e7 iu) (d212:J e7 gg) (d213:J e7 jy) (d214:J eh iQ) (d215:J eh iu) (d216:J eh gg) (d217:J eh jy) (d218:J e6 iQ) (d219:J e6 iu) (d220:J e6 gg) (d221:J e6 jy) (d222:J ck iQ) (d223:J ck iu) (d224:J ck gg) (d225:J ck jy) (d226:J iQ iu) (d227:J iQ gg) (d228:J iQ jy) (d229:J iu gg) (d230:J iu jy) (d231:J gg jy) (i108:a_ av.2.1) (al:d_ bt bw N u) (aP:cR lF.aM.length bP β):W 4 (cp 16 [0,1,2,3,4,5,6,7,8,9,10,11]) ac w:=by
    exact eo aG 12 (S.e_ aG al aP [] .nil fun _ _ _ S cb=>RO _ _ rv iQ ry iu gV gg mM jy _ _ _ S bL bF bA ba dT oM n0 gM mK d206 d207 d208 d209 d210 d211 d212 d213 d214 d215 d216 d217 d218 d219 d220 d221 d222 d223 d224 d225 d226 d227 d228 d229 d230 d231 i108 al cb)
   have RS ac w u N β (S:aj Tryz.prog Tryz.f9.ntmps w0 ab u N β (lF.dl [3] [(15,.p 5 0),(69,.v (GT.val h ai)),(70,.v (aa m)),(71,.v (aa g)),(73,.v (aa (ct (bn (el (aK h m).1.U g.toNat))))),(75,.v (aa (dD ((bY (el (aK h m).1.U g.toNat))==4))))] 6 [(5,cg ah)]) ac w) (bL:ad w0 ab u N dU h.mem af.mem) (bF:ad w0 ab u N e7 h.I af.I) (bA:ad w0 ab u N eh h.buf af.buf) (ba:ad w0 ab u N e6 h.ag af.ag) (dT:ad w0 ab u N ck (aK h m).1 fe) (al:d_ bt bw N u) (aP:cR lF.aM.length bP β):W 8 (cp 16 [0,1,2,3,4,5,6,12]) ac w:=by
    refine eo aG 7 ?_
    refine id (S.call3 (r:=av.1) (r':=av.2.1) (r'':=av.2.2) (d:=76) (by rw [hq];exact Pz w h ai (S.rd (S.arg aX)) m g (ct (bn (el (aK h m).1.U g.toNat))) (rS (j1 (ae.el (aU.U (d:=(aK h m).1) dT.ak) g.toNat (by omega)))) (dD ((bY (el (aK h m).1.U g.toNat))==4))) (by kernel_rfl) rfl fun ac w N hL jo S up gL d237 i238=>?_)
    have Ss:=fun b h=>(⟨(up b (al b h).1).1,(up b (al b h).1).2.trans (al b h).2⟩:_/\_)
    refine ar.de S Ss aP fun bj=>?_
    have d240:=J.w d237 bL.sub
    have d241:=J.w d237 bF.sub
    have d242:=J.w d237 bA.sub
    have d243:=J.w d237 ba.sub
    have d244:=J.w d237 dT.sub
    replace bL:=bL.up up
    replace bF:=bF.up up
    replace bA:=bA.up up
    replace ba:=ba.up up
    replace dT:=dT.up up
    clear up d237
    obtain⟨WQ,WR,WS,GM,ahU,ahV,ahW,BV,Cw,Cx,Cy,Cz,d257,d258,d259,d260,d261,d262⟩:=jR gL
    exact S.cX aG [8,9,10,11] bj fun _ S=>RO _ _ hL.buf WS hL.ag GM hL.mem WQ hL.I WR _ _ _ S bL bF bA ba dT ahW BV ahU ahV (J.symm (J.part (J.symm d240) Cy)) (J.symm (J.part (J.symm d240) Cz)) (J.symm (J.part (J.symm d240) Cw)) (J.symm (J.part (J.symm d240) Cx)) (J.symm (J.part (J.symm d241) Cy)) (J.symm (J.part (J.symm d241) Cz)) (J.symm (J.part (J.symm d241) Cw)) (J.symm (J.part (J.symm d241) Cx)) (J.symm (J.part (J.symm d242) Cy)) (J.symm (J.part (J.symm d242) Cz)) (J.symm (J.part (J.symm d242) Cw)) (J.symm (J.part (J.symm d242) Cx)) (J.symm (J.part (J.symm d243) Cy)) (J.symm (J.part (J.symm d243) Cz)) (J.symm (J.part (J.symm d243) Cw)) (J.symm (J.part (J.symm d243) Cx)) (J.symm (J.part (J.symm d244) Cy)) (J.symm (J.part (J.symm d244) Cz)) (J.symm (J.part (J.symm d244) Cw)) (J.symm (J.part (J.symm d244) Cx)) d262 (J.symm d258) (J.symm d260) (J.symm d259) (J.symm d261) d257 i238 Ss aP
   have Jn ac w u N β (S:aj Tryz.prog Tryz.f9.ntmps w0 ab u N β (lF.dl [3] [(69,.v (GT.val h ai)),(70,.v (aa m)),(71,.v (aa g)),(73,.v (aa (ct (bn (el (aK h m).1.U g.toNat))))),(75,.v (aa (dD ((bY (el (aK h m).1.U g.toNat))==4))))] 5 []) ac w) (bL:ad w0 ab u N dU h.mem af.mem) (bF:ad w0 ab u N e7 h.I af.I) (bA:ad w0 ab u N eh h.buf af.buf) (ba:ad w0 ab u N e6 h.ag af.ag) (dT:ad w0 ab u N ck (aK h m).1 fe) (al:d_ bt bw N u) (aP:cR lF.aM.length bP β):W 9 (cp 16 [0,1,2,3,4,5,6]) ac w:=by
    refine gA aG 7 12 ?_ (S.e_ aG al aP [] .nil fun _ _ _ S cb=>RS _ _ _ _ _ S bL bF bA ba dT al cb)
    refine id (S.call3 (r:=av.1) (r':=av.2.1) (r'':=av.2.2) (d:=76) (by rw [hq];exact Pz w h ai (S.rd (S.arg aX)) m g (ct (bn (el (aK h m).1.U g.toNat))) (rS (j1 (ae.el (aU.U (d:=(aK h m).1) dT.ak) g.toNat (by omega)))) (dD ((bY (el (aK h m).1.U g.toNat))==4))) (by kernel_rfl) rfl fun ac w N F8 al1 S up ahX d268 i269=>?_)
    have Su:=fun b h=>(⟨(up b (al b h).1).1,(up b (al b h).1).2.trans (al b h).2⟩:_/\_)
    refine ar.de S Su aP fun bj=>?_
    have d271:=J.w d268 bL.sub
    have d272:=J.w d268 bF.sub
    have d273:=J.w d268 bA.sub
    have d274:=J.w d268 ba.sub
    have d275:=J.w d268 dT.sub
    replace bL:=bL.up up
    replace bF:=bF.up up
    replace bA:=bA.up up
    replace ba:=ba.up up
    replace dT:=dT.up up
    clear up d268
    obtain⟨zz,WT,WU,WV,BW,ahY,ahZ,ah0,CA,CB,CC,CD,d288,d289,d290,d291,d292,d293⟩:=jR ahX
    exact S.cX aG [8,9,10,11] bj fun _ S=>Em _ _ F8.buf WU F8.ag WV F8.mem zz F8.I WT _ _ _ S bL bF bA ba dT ahZ ah0 BW ahY (J.symm (J.part (J.symm d271) CC)) (J.symm (J.part (J.symm d271) CD)) (J.symm (J.part (J.symm d271) CA)) (J.symm (J.part (J.symm d271) CB)) (J.symm (J.part (J.symm d272) CC)) (J.symm (J.part (J.symm d272) CD)) (J.symm (J.part (J.symm d272) CA)) (J.symm (J.part (J.symm d272) CB)) (J.symm (J.part (J.symm d273) CC)) (J.symm (J.part (J.symm d273) CD)) (J.symm (J.part (J.symm d273) CA)) (J.symm (J.part (J.symm d273) CB)) (J.symm (J.part (J.symm d274) CC)) (J.symm (J.part (J.symm d274) CD)) (J.symm (J.part (J.symm d274) CA)) (J.symm (J.part (J.symm d274) CB)) (J.symm (J.part (J.symm d275) CC)) (J.symm (J.part (J.symm d275) CD)) (J.symm (J.part (J.symm d275) CA)) (J.symm (J.part (J.symm d275) CB)) d293 (J.symm d289) (J.symm d291) (J.symm d290) (J.symm d292) d288 i269 Su aP
   have RT ac w u N β (S:aj Tryz.prog Tryz.f9.ntmps w0 ab u N β (lF.dl [3] [(15,.p 5 0),(69,.v (GT.val h ai)),(70,.v (aa m)),(71,.v (aa g)),(73,.v (aa (ct (bn (el (aK h m).1.U g.toNat))))),(74,.v (B ((bY (el (aK h m).1.U g.toNat))==4)))] 6 [(5,cg ah)]) ac w) (bL:ad w0 ab u N dU h.mem af.mem) (bF:ad w0 ab u N e7 h.I af.I) (bA:ad w0 ab u N eh h.buf af.buf) (ba:ad w0 ab u N e6 h.ag af.ag) (dT:ad w0 ab u N ck (aK h m).1 fe) (al:d_ bt bw N u) (aP:cR lF.aM.length bP β):W 9 (cp 16 [0,1,2,3,4,5,12]) ac w:=by
    exact eo aG 6 (S.e_ aG al aP [] (.cons (aE fun w hw=>HC w ((bY (el (aK h m).1.U g.toNat))==4)) .nil) fun _ _ _ S cb=>RS _ _ _ _ _ S bL bF bA ba dT al cb)
   have aec ac w u N β (S:aj Tryz.prog Tryz.f9.ntmps w0 ab u N β (lF.dl [3] [(69,.v (GT.val h ai)),(70,.v (aa m)),(71,.v (aa g)),(73,.v (aa (ct (bn (el (aK h m).1.U g.toNat))))),(74,.v (B ((bY (el (aK h m).1.U g.toNat))==4)))] 5 []) ac w) (bL:ad w0 ab u N dU h.mem af.mem) (bF:ad w0 ab u N e7 h.I af.I) (bA:ad w0 ab u N eh h.buf af.buf) (ba:ad w0 ab u N e6 h.ag af.ag) (dT:ad w0 ab u N ck (aK h m).1 fe) (al:d_ bt bw N u) (aP:cR lF.aM.length bP β):W 10 (cp 16 [0,1,2,3,4,5]) ac w:=by
    exact gA aG 6 12 (S.e_ aG al aP [] (.cons (aE fun w hw=>HC w ((bY (el (aK h m).1.U g.toNat))==4)) .nil) fun _ _ _ S cb=>Jn _ _ _ _ _ S bL bF bA ba dT al cb) (S.e_ aG al aP [] .nil fun _ _ _ S cb=>RT _ _ _ _ _ S bL bF bA ba dT al cb)
   have aed ac w u N β (S:aj Tryz.prog Tryz.f9.ntmps w0 ab u N β (lF.dl [3] [(15,.p 5 0),(69,.v (GT.val h ai)),(70,.v (aa m)),(71,.v (aa g)),(72,.v (aa (bn (el (aK h m).1.U g.toNat)))),(74,.v (B ((bY (el (aK h m).1.U g.toNat))==4)))] 6 [(5,cg ah)]) ac w) (bL:ad w0 ab u N dU h.mem af.mem) (bF:ad w0 ab u N e7 h.I af.I) (bA:ad w0 ab u N eh h.buf af.buf) (ba:ad w0 ab u N e6 h.ag af.ag) (dT:ad w0 ab u N ck (aK h m).1 fe) (al:d_ bt bw N u) (aP:cR lF.aM.length bP β):W 10 (cp 16 [0,1,2,3,5,12]) ac w:=by
    exact eo aG 4 (S.e_ aG al aP [] (.cons (aE fun w hw=>zX w (bn (el (aK h m).1.U g.toNat)) (j1 (ae.el (aU.U (d:=(aK h m).1) dT.ak) g.toNat (by omega)))) .nil) fun _ _ _ S cb=>RT _ _ _ _ _ S bL bF bA ba dT al cb)
   have al:d_ bt bw bt bw:=fun b h=>⟨h,rfl⟩
   have aP:cR lF.aM.length bP bP:=fun _ _=>rfl
   exact gA aG 4 12 (S.e_ aG al aP [] (.cons (aE fun w hw=>zX w (bn (el (aK h m).1.U g.toNat)) (j1 (ae.el (aU.U (d:=(aK h m).1) dT.ak) g.toNat (by omega)))) .nil) fun _ _ _ S cb=>aec _ _ _ _ _ S bL bF bA ba dT al cb) (S.e_ aG al aP [] .nil fun _ _ _ S cb=>aed _ _ _ _ _ S bL bF bA ba dT al cb)
  clear S bL bF bA ba dT
  rintro ac w ⟨kP,j_,kQ,hO,kl,jU,fw,j9,u,N,β,S,bL,bF,bA,ba,dT,g0,iV,jN,hI,d297,d298,d299,d300,d301,d302,d303,d304,d305,d306,d307,d308,d309,d310,d311,d312,d313,d314,d315,d316,d317,d318,d319,d320,d321,d322,i108⟩
  refine S.ex fun S=>?_
  refine S.bd 10 .nil (!av.2.2) (fun ac w β Jb S=>?_) (fun ac w β Jb S=>?_)
  ·have aoC:=cm Jb
   refine S.go 1 .nil fun ac w β S=>?_
   refine dI ?_
   refine S.dR (f:=7) 6 (by kernel_rfl) (by kernel_rfl) fun w S=>?_
   refine S.hm 4 [0,1,3] [] [(91,.v (GT.val (el (aK h m).1.U g.toNat) (fe.U.2 g.toNat))),(92,.v (aa (bn (el (aK h m).1.U g.toNat)))),(94,.v (B ((bY (el (aK h m).1.U g.toNat))==4)))] .nil fun ac S=>?_
   refine S.iN 2 [] [(93,.v (aa (ct (bn (el (aK h m).1.U g.toNat)))))] 6 [] (.cons (aE fun w hw=>zX w (bn (el (aK h m).1.U g.toNat)) (j1 (ae.el (aU.U (d:=(aK h m).1) dT.ak) g.toNat (by omega)))) .nil) fun ac w β S=>?_
   refine S.iN 4 [] [(95,.v (GT.val (gY (ct (bn (el (aK h m).1.U g.toNat))) ((bY (el (aK h m).1.U g.toNat))==4)) ()))] 6 [] (.cons (aE fun w hw=>Pq w (ct (bn (el (aK h m).1.U g.toNat))) (rS (j1 (ae.el (aU.U (d:=(aK h m).1) dT.ak) g.toNat (by omega)))) ((bY (el (aK h m).1.U g.toNat))==4)) .nil) fun ac w β S=>?_
   refine ar.one (i:=5) (by kernel_rfl) ?_
   refine id (S.dB 96 (zY w (el (aK h m).1.U g.toNat) (fe.U.2 g.toNat) (S.rd (ae.el (aU.U (d:=(aK h m).1) dT.ak) g.toNat (by omega))) (gY (ct (bn (el (aK h m).1.U g.toNat))) ((bY (el (aK h m).1.U g.toNat))==4)) (IK (rS (j1 (ae.el (aU.U (d:=(aK h m).1) dT.ak) g.toNat (by omega)))) ((bY (el (aK h m).1.U g.toNat))==4))) fun ac w N y5 WX S up ah2 d328=>?_)
   refine ar.next S up (by kernel_rfl) ?_
   have d334:=J.w d328 jN.sub
   have d335:=J.w d328 hI.sub
   have d336:=J.w d328 g0.sub
   have d337:=J.w d328 iV.sub
   replace bL:=bL.up up
   replace bF:=bF.up up
   replace bA:=bA.up up
   replace ba:=ba.up up
   replace dT:=dT.up up
   replace jN:=jN.up up
   replace hI:=hI.up up
   replace g0:=g0.up up
   replace iV:=iV.up up
   clear up d328
   refine S.c_ 6 [] [] 6 [(4,GT.cells ({(el (aK h m).1.U g.toNat) with exit:=(gY (ct (bn (el (aK h m).1.U g.toNat))) ((bY (el (aK h m).1.U g.toNat))==4))}:ax) y5)] .nil fun ac w β S=>?_
   refine ar.done (by kernel_rfl) ?_ _
   refine S.ex fun S=>?_
   refine S.go 3 .nil fun ac w β S=>?_
   refine dI ?_
   refine S.dR (f:=10) 9 (by kernel_rfl) (by kernel_rfl) fun w S=>?_
   refine S.hm 1 [0,1,2,3,4,5,6,7,8] [] [(117,.v (GT.val ({(el (aK h m).1.U g.toNat) with exit:=(gY (ct (bn (el (aK h m).1.U g.toNat))) ((bY (el (aK h m).1.U g.toNat))==4))}:ax) y5)),(118,.v (bh (fw.2 m.toNat).U.1.b ((fw.2 m.toNat).U.1.off+g.toNat*15)))] (.cons (cq hI.ak m Tryz.underlying28) (.cons (cA hI.ak 71 m.toNat 3 (R (el av.1.I m.toNat).U.length (fw.2 m.toNat).U.1)) (.cons (cq (aU.U (d:=(el av.1.I m.toNat)) (ae.el hI.ak m.toNat (by omega))) g Tryz.underlying71) .nil))) fun ac S=>?_
   refine ar.one (i:=9) (by kernel_rfl) ?_
   obtain⟨al4,FC,pO,XV⟩:=pk hI (k:=m.toNat) (show m.toNat<av.1.I.length by omega)
   have apQ:=ae.le FC.ak
   have ahk:=FC.sub
   refine id (S.kU (α:=ax) FC (t:=70) (k:=g.toNat) (off:=(fw.2 m.toNat).U.1.off+g.toNat*15) ah2 (J.symm (J.symm (J.part d335 pO))) fun w N al5 aqA S up UQ d347 aj9 Ur=>?_)
   refine ar.last (by kernel_rfl) ?_
   have d355:=d347 _ (J.symm (J.part (J.symm d322) pO)) d334 jN.sub
   have d356:=d347 _ (J.symm (J.part (J.symm d319) pO)) d336 g0.sub
   have d357:=d347 _ (J.symm (J.part (J.symm d321) pO)) d337 iV.sub
   replace bL:=bL.bk (J.symm (J.part (J.symm d300) pO)) up
   replace bF:=bF.bk (J.symm (J.part (J.symm d304) pO)) up
   replace bA:=bA.bk (J.symm (J.part (J.symm d308) pO)) up
   replace ba:=ba.bk (J.symm (J.part (J.symm d312) pO)) up
   replace dT:=dT.bk (J.symm (J.part (J.symm d316) pO)) up
   replace jN:=jN.bk (J.symm (J.part (J.symm d322) pO)) up
   replace g0:=g0.bk (J.symm (J.part (J.symm d319) pO)) up
   replace iV:=iV.bk (J.symm (J.part (J.symm d321) pO)) up
   clear d347 FC
   obtain⟨Vf,ah3,am2⟩:=XV _ _ _ _ _ WX up UQ aj9 d335 (by show [R _ _]=[R _ _];rw [List.length_set]) (fun b h=>Ur b (ahk b h))
   clear up UQ Ur
   have apS:(av.1.I.set m.toNat ({el av.1.I m.toNat with U:=((el av.1.I m.toNat).U.set g.toNat ({(el (aK h m).1.U g.toNat) with exit:=(gY (ct (bn (el (aK h m).1.U g.toNat))) ((bY (el (aK h m).1.U g.toNat))==4))}:ax))})).length=av.1.I.length:=List.length_set
   replace S:=S.z (σ':=⟨[(6,.p 1 0),(15,.p 5 0),(117,.v (GT.val ({(el (aK h m).1.U g.toNat) with exit:=(gY (ct (bn (el (aK h m).1.U g.toNat))) ((bY (el (aK h m).1.U g.toNat))==4))}:ax) y5)),(118,.v (bh (fw.2 m.toNat).U.1.b ((fw.2 m.toNat).U.1.off+g.toNat*15)))],[GT.cells h ai,cg ah,[R h.mem.length af.mem.1,R h.I.length af.I.1,R h.buf.length af.buf.1,R h.ag.length af.ag.1],GT.cells (aK h m).1 fe,GT.cells ({(el (aK h m).1.U g.toNat) with exit:=(gY (ct (bn (el (aK h m).1.U g.toNat))) ((bY (el (aK h m).1.U g.toNat))==4))}:ax) y5,[R av.1.mem.length kl.1,R av.1.I.length fw.1,R av.1.buf.length kP.1,R av.1.ag.length kQ.1]]⟩)
   replace S:=S.cast (σ':=⟨[(6,.p 1 0),(15,.p 5 0),(117,.v (GT.val ({(el (aK h m).1.U g.toNat) with exit:=(gY (ct (bn (el (aK h m).1.U g.toNat))) ((bY (el (aK h m).1.U g.toNat))==4))}:ax) y5)),(118,.v (bh (fw.2 m.toNat).U.1.b ((fw.2 m.toNat).U.1.off+g.toNat*15)))],[GT.cells h ai,cg ah,[R h.mem.length af.mem.1,R h.I.length af.I.1,R h.buf.length af.buf.1,R h.ag.length af.ag.1],GT.cells (aK h m).1 fe,GT.cells ({(el (aK h m).1.U g.toNat) with exit:=(gY (ct (bn (el (aK h m).1.U g.toNat))) ((bY (el (aK h m).1.U g.toNat))==4))}:ax) y5,[R av.1.mem.length kl.1,R (av.1.I.set m.toNat ({el av.1.I m.toNat with U:=((el av.1.I m.toNat).U.set g.toNat ({(el (aK h m).1.U g.toNat) with exit:=(gY (ct (bn (el (aK h m).1.U g.toNat))) ((bY (el (aK h m).1.U g.toNat))==4))}:ax))})).length fw.1,R av.1.buf.length kP.1,R av.1.ag.length kQ.1]]⟩) (by rw [show(av.1.I.set m.toNat ({el av.1.I m.toNat with U:=((el av.1.I m.toNat).U.set g.toNat ({(el (aK h m).1.U g.toNat) with exit:=(gY (ct (bn (el (aK h m).1.U g.toNat))) ((bY (el (aK h m).1.U g.toNat))==4))}:ax))})).length=av.1.I.length by omega])
   refine ar.done (by kernel_rfl) ?_ _
   refine S.ex fun S=>?_
   refine S.bo 9 .nil [GT.val (⟨av.1.mem,(av.1.I.set m.toNat ({el av.1.I m.toNat with U:=((el av.1.I m.toNat).U.set g.toNat ({(el (aK h m).1.U g.toNat) with exit:=(gY (ct (bn (el (aK h m).1.U g.toNat))) ((bY (el (aK h m).1.U g.toNat))==4))}:ax))})),av.1.buf,av.1.ag⟩:ah) (⟨kl,(fw.1,Vf),kP,kQ⟩:b_),B true] fun ac w β S=>?_
   have ah4:=fs (x:=(⟨av.1.mem,(av.1.I.set m.toNat ({el av.1.I m.toNat with U:=((el av.1.I m.toNat).U.set g.toNat ({(el (aK h m).1.U g.toNat) with exit:=(gY (ct (bn (el (aK h m).1.U g.toNat))) ((bY (el (aK h m).1.U g.toNat))==4))}:ax))})),av.1.buf,av.1.ag⟩:ah)) (p:=(⟨kl,(fw.1,Vf),kP,kQ⟩:b_)) jN ah3 g0 iV (J.symm (J.or (J.symm d322) (J.symm d355))) (J.symm d318) (J.symm d320) (J.symm (J.symm (J.or (J.symm d319) (J.symm d356)))) (J.symm (J.symm (J.or (J.symm d321) (J.symm d357)))) d317
   exact gb (p':=()) S (show(dN h m g).1=(⟨av.1.mem,(av.1.I.set m.toNat ({el av.1.I m.toNat with U:=((el av.1.I m.toNat).U.set g.toNat ({(el (aK h m).1.U g.toNat) with exit:=(gY (ct (bn (el (aK h m).1.U g.toNat))) ((bY (el (aK h m).1.U g.toNat))==4))}:ax))})),av.1.buf,av.1.ag⟩:ah) from KA) (show(dN h m g).2=true from K_) rfl rfl ah4 trivial
  have aoD:=b9 Jb
  refine S.aI 7 .nil ((bY (el (aK h m).1.U g.toNat))==4) (fun ac w β adq acK S=>?_) (fun ac w β adq acK S=>?_)
  ·refine S.go 2 .nil fun ac w β S=>?_
   refine dI ?_
   refine S.dR (f:=10) 9 (by kernel_rfl) (by kernel_rfl) fun w S=>?_
   refine S.hm 4 [0,1,2,3,5,6] [] [(100,.v (R av.1.mem.length kl.1)),(101,.v (aa av.2.1)),(102,.v (aa (bn (el (aK h m).1.U g.toNat)))),(105,.v (aa (el (aK h m).1.U g.toNat).acc))] .nil fun ac S=>?_
   refine S.iN 4 [] [(103,.v (aa (ds (bn (el (aK h m).1.U g.toNat)))))] 6 [] (.cons (aE fun w hw=>Dx w (bn (el (aK h m).1.U g.toNat)) (j1 (ae.el (aU.U (d:=(aK h m).1) dT.ak) g.toNat (by omega)))) .nil) fun ac w β S=>?_
   refine ar.one (i:=7) (by kernel_rfl) ?_
   refine id (S.dB 106 (PI w av.1.mem kl (S.rd jN.ak) av.2.1 (ds (bn (el (aK h m).1.U g.toNat))) (el (aK h m).1.U g.toNat).acc (az.acc (d:=(el (aK h m).1.U g.toNat)) (ae.el (aU.U (d:=(aK h m).1) dT.ak) g.toNat (by omega)))) fun ac w N Ch al6 S up wE DQ=>?_)
   refine ar.next S up (by kernel_rfl) ?_
   have rX:=J.w DQ hI.sub
   have aaO:=J.w DQ g0.sub
   have aaP:=J.w DQ iV.sub
   replace bL:=bL.up up
   replace bF:=bF.up up
   replace bA:=bA.up up
   replace ba:=ba.up up
   replace dT:=dT.up up
   replace jN:=jN.up up
   replace hI:=hI.up up
   replace g0:=g0.up up
   replace iV:=iV.up up
   clear up DQ
   refine S.a9 8 [8] [] [(107,.p 5 0)] .nil fun ac S=>?_
   refine S.c_ 9 [] [] 6 [(5,[R (gh av.1.mem av.2.1 (ds (bn (el (aK h m).1.U g.toNat))) (el (aK h m).1.U g.toNat).acc).length Ch.1,R av.1.I.length fw.1,R av.1.buf.length kP.1,R av.1.ag.length kQ.1])] .nil fun ac w β S=>?_
   refine ar.done (by kernel_rfl) ?_ _
   refine S.ex fun S=>?_
   refine S.go 3 .nil fun ac w β S=>S.cJ (r:=a5 (el (aK h m).1.U g.toNat)) (d:=109) (PE w (el (aK h m).1.U g.toNat) (fe.U.2 g.toNat) (S.rd (ae.el (aU.U (d:=(aK h m).1) dT.ak) g.toNat (by omega)))) fun ac w N Ci WY S up ah5 rZ=>?_
   have qR:=J.w rZ hI.sub
   have aaQ:=J.w rZ g0.sub
   have z9:=J.w rZ iV.sub
   have aaR:=J.w rZ wE.sub
   replace bL:=bL.up up
   replace bF:=bF.up up
   replace bA:=bA.up up
   replace ba:=ba.up up
   replace dT:=dT.up up
   replace hI:=hI.up up
   replace g0:=g0.up up
   replace iV:=iV.up up
   replace wE:=wE.up up
   clear up rZ
   refine S.go 5 .nil fun ac w β S=>?_
   refine dI ?_
   refine S.dR (f:=10) 9 (by kernel_rfl) (by kernel_rfl) fun w S=>?_
   refine S.hm 1 [0,1,2,3,4,5,6,7,8] [] [(117,.v (GT.val (a5 (el (aK h m).1.U g.toNat)) Ci)),(118,.v (bh (fw.2 m.toNat).U.1.b ((fw.2 m.toNat).U.1.off+g.toNat*15)))] (.cons (cq hI.ak m Tryz.underlying28) (.cons (cA hI.ak 71 m.toNat 3 (R (el av.1.I m.toNat).U.length (fw.2 m.toNat).U.1)) (.cons (cq (aU.U (d:=(el av.1.I m.toNat)) (ae.el hI.ak m.toNat (by omega))) g Tryz.underlying71) .nil))) fun ac S=>?_
   refine ar.one (i:=9) (by kernel_rfl) ?_
   obtain⟨Da,tV,pP,XX⟩:=pk hI (k:=m.toNat) (show m.toNat<av.1.I.length by omega)
   have apT:=ae.le tV.ak
   have ahm:=tV.sub
   refine id (S.kU (α:=ax) tV (t:=70) (k:=g.toNat) (off:=(fw.2 m.toNat).U.1.off+g.toNat*15) ah5 (J.symm (J.symm (J.part qR pP))) fun w N al7 aqB S up UR DR akb Us=>?_)
   refine ar.last (by kernel_rfl) ?_
   have aaU:=DR _ (J.symm (J.part (J.symm d319) pP)) aaQ g0.sub
   have u0:=DR _ (J.symm (J.part (J.symm d321) pP)) z9 iV.sub
   have aaV:=DR _ (J.symm (J.part rX pP)) aaR wE.sub
   replace bL:=bL.bk (J.symm (J.part (J.symm d300) pP)) up
   replace bF:=bF.bk (J.symm (J.part (J.symm d304) pP)) up
   replace bA:=bA.bk (J.symm (J.part (J.symm d308) pP)) up
   replace ba:=ba.bk (J.symm (J.part (J.symm d312) pP)) up
   replace dT:=dT.bk (J.symm (J.part (J.symm d316) pP)) up
   replace g0:=g0.bk (J.symm (J.part (J.symm d319) pP)) up
   replace iV:=iV.bk (J.symm (J.part (J.symm d321) pP)) up
   replace wE:=wE.bk (J.symm (J.part rX pP)) up
   clear DR tV
   obtain⟨Vg,ah6,am3⟩:=XX _ _ _ _ _ WY up UR akb qR (by show [R _ _]=[R _ _];rw [List.length_set]) (fun b h=>Us b (ahm b h))
   clear up UR Us
   have apV:(av.1.I.set m.toNat ({el av.1.I m.toNat with U:=((el av.1.I m.toNat).U.set g.toNat (a5 (el (aK h m).1.U g.toNat)))})).length=av.1.I.length:=List.length_set
   replace S:=S.z (σ':=⟨[(6,.p 1 0),(15,.p 5 0),(117,.v (GT.val (a5 (el (aK h m).1.U g.toNat)) Ci)),(118,.v (bh (fw.2 m.toNat).U.1.b ((fw.2 m.toNat).U.1.off+g.toNat*15)))],[GT.cells h ai,cg ah,[R h.mem.length af.mem.1,R h.I.length af.I.1,R h.buf.length af.buf.1,R h.ag.length af.ag.1],GT.cells (aK h m).1 fe,GT.cells (a5 (el (aK h m).1.U g.toNat)) Ci,[R (gh av.1.mem av.2.1 (ds (bn (el (aK h m).1.U g.toNat))) (el (aK h m).1.U g.toNat).acc).length Ch.1,R av.1.I.length fw.1,R av.1.buf.length kP.1,R av.1.ag.length kQ.1]]⟩)
   replace S:=S.cast (σ':=⟨[(6,.p 1 0),(15,.p 5 0),(117,.v (GT.val (a5 (el (aK h m).1.U g.toNat)) Ci)),(118,.v (bh (fw.2 m.toNat).U.1.b ((fw.2 m.toNat).U.1.off+g.toNat*15)))],[GT.cells h ai,cg ah,[R h.mem.length af.mem.1,R h.I.length af.I.1,R h.buf.length af.buf.1,R h.ag.length af.ag.1],GT.cells (aK h m).1 fe,GT.cells (a5 (el (aK h m).1.U g.toNat)) Ci,[R (gh av.1.mem av.2.1 (ds (bn (el (aK h m).1.U g.toNat))) (el (aK h m).1.U g.toNat).acc).length Ch.1,R (av.1.I.set m.toNat ({el av.1.I m.toNat with U:=((el av.1.I m.toNat).U.set g.toNat (a5 (el (aK h m).1.U g.toNat)))})).length fw.1,R av.1.buf.length kP.1,R av.1.ag.length kQ.1]]⟩) (by rw [show(av.1.I.set m.toNat ({el av.1.I m.toNat with U:=((el av.1.I m.toNat).U.set g.toNat (a5 (el (aK h m).1.U g.toNat)))})).length=av.1.I.length by omega])
   refine ar.done (by kernel_rfl) ?_ _
   refine S.ex fun S=>?_
   refine S.bo 9 .nil [GT.val (⟨(gh av.1.mem av.2.1 (ds (bn (el (aK h m).1.U g.toNat))) (el (aK h m).1.U g.toNat).acc),(av.1.I.set m.toNat ({el av.1.I m.toNat with U:=((el av.1.I m.toNat).U.set g.toNat (a5 (el (aK h m).1.U g.toNat)))})),av.1.buf,av.1.ag⟩:ah) (⟨Ch,(fw.1,Vg),kP,kQ⟩:b_),B true] fun ac w β S=>?_
   have ah7:=fs (x:=(⟨(gh av.1.mem av.2.1 (ds (bn (el (aK h m).1.U g.toNat))) (el (aK h m).1.U g.toNat).acc),(av.1.I.set m.toNat ({el av.1.I m.toNat with U:=((el av.1.I m.toNat).U.set g.toNat (a5 (el (aK h m).1.U g.toNat)))})),av.1.buf,av.1.ag⟩:ah)) (p:=(⟨Ch,(fw.1,Vg),kP,kQ⟩:b_)) wE ah6 g0 iV (J.symm (J.or rX (J.symm aaV))) (J.symm aaO) (J.symm aaP) (J.symm (J.symm (J.or (J.symm d319) (J.symm aaU)))) (J.symm (J.symm (J.or (J.symm d321) (J.symm u0)))) d317
   exact gb (p':=()) S (show(dN h m g).1=(⟨(gh av.1.mem av.2.1 (ds (bn (el (aK h m).1.U g.toNat))) (el (aK h m).1.U g.toNat).acc),(av.1.I.set m.toNat ({el av.1.I m.toNat with U:=((el av.1.I m.toNat).U.set g.toNat (a5 (el (aK h m).1.U g.toNat)))})),av.1.buf,av.1.ag⟩:ah) from KA) (show(dN h m g).2=true from K_) rfl rfl ah7 trivial
  refine S.go 1 .nil fun ac w β S=>?_
  refine dI ?_
  refine S.dR (f:=9) 8 (by kernel_rfl) (by kernel_rfl) fun w S=>?_
  refine S.hm 4 [0,1,2,3,4] [] [(80,.v (GT.val (el (aK h m).1.U g.toNat) (fe.U.2 g.toNat))),(82,.v (R av.1.mem.length kl.1)),(83,.v (aa av.2.1)),(84,.v (aa (bn (el (aK h m).1.U g.toNat))))] .nil fun ac S=>?_
  refine S.iN 5 [] [(85,.v (aa (ds (bn (el (aK h m).1.U g.toNat)))))] 6 [] (.cons (aE fun w hw=>Dx w (bn (el (aK h m).1.U g.toNat)) (j1 (ae.el (aU.U (d:=(aK h m).1) dT.ak) g.toNat (by omega)))) .nil) fun ac w β S=>?_
  refine S.iN 6 [] [(86,.v (aa (fI av.1.mem av.2.1 (ds (bn (el (aK h m).1.U g.toNat))))))] 6 [] (.cons (aE fun w hw=>Pp w av.1.mem kl (bJ jN.ak hw) av.2.1 (ds (bn (el (aK h m).1.U g.toNat)))) .nil) fun ac w β S=>?_
  refine ar.one (i:=7) (by kernel_rfl) ?_
  refine id (S.dB 87 (Py w (el (aK h m).1.U g.toNat) (fe.U.2 g.toNat) (S.rd (ae.el (aU.U (d:=(aK h m).1) dT.ak) g.toNat (by omega))) (fI av.1.mem av.2.1 (ds (bn (el (aK h m).1.U g.toNat)))) (HS jN.ak av.2.1 (ds (bn (el (aK h m).1.U g.toNat))))) fun ac w N y7 WZ S up ah8 Aa=>?_)
  refine ar.next S up (by kernel_rfl) ?_
  have aaW:=J.w Aa jN.sub
  have Qt:=J.w Aa hI.sub
  have aaX:=J.w Aa g0.sub
  have r0:=J.w Aa iV.sub
  replace bL:=bL.up up
  replace bF:=bF.up up
  replace bA:=bA.up up
  replace ba:=ba.up up
  replace jN:=jN.up up
  replace hI:=hI.up up
  replace g0:=g0.up up
  replace iV:=iV.up up
  clear up Aa
  refine S.c_ 8 [] [] 6 [(4,GT.cells (ia (el (aK h m).1.U g.toNat) (fI av.1.mem av.2.1 (ds (bn (el (aK h m).1.U g.toNat))))) y7)] .nil fun ac w β S=>?_
  refine ar.done (by kernel_rfl) ?_ _
  refine S.ex fun S=>?_
  refine S.go 3 .nil fun ac w β S=>?_
  refine dI ?_
  refine S.dR (f:=10) 9 (by kernel_rfl) (by kernel_rfl) fun w S=>?_
  refine S.hm 1 [0,1,2,3,4,5,6,7,8] [] [(117,.v (GT.val (ia (el (aK h m).1.U g.toNat) (fI av.1.mem av.2.1 (ds (bn (el (aK h m).1.U g.toNat))))) y7)),(118,.v (bh (fw.2 m.toNat).U.1.b ((fw.2 m.toNat).U.1.off+g.toNat*15)))] (.cons (cq hI.ak m Tryz.underlying28) (.cons (cA hI.ak 71 m.toNat 3 (R (el av.1.I m.toNat).U.length (fw.2 m.toNat).U.1)) (.cons (cq (aU.U (d:=(el av.1.I m.toNat)) (ae.el hI.ak m.toNat (by omega))) g Tryz.underlying71) .nil))) fun ac S=>?_
  refine ar.one (i:=9) (by kernel_rfl) ?_
  obtain⟨al9,FD,qC,XZ⟩:=pk hI (k:=m.toNat) (show m.toNat<av.1.I.length by omega)
  have apW:=ae.le FD.ak
  have aho:=FD.sub
  refine id (S.kU (α:=ax) FD (t:=70) (k:=g.toNat) (off:=(fw.2 m.toNat).U.1.off+g.toNat*15) ah8 (J.symm (J.symm (J.part Qt qC))) fun w N al_ aqC S up US DS akc Ut=>?_)
  refine ar.last (by kernel_rfl) ?_
  have aaY:=DS _ (J.symm (J.part (J.symm d322) qC)) aaW jN.sub
  have aaZ:=DS _ (J.symm (J.part (J.symm d319) qC)) aaX g0.sub
  have u4:=DS _ (J.symm (J.part (J.symm d321) qC)) r0 iV.sub
  replace bL:=bL.bk (J.symm (J.part (J.symm d300) qC)) up
  replace bF:=bF.bk (J.symm (J.part (J.symm d304) qC)) up
  replace bA:=bA.bk (J.symm (J.part (J.symm d308) qC)) up
  replace ba:=ba.bk (J.symm (J.part (J.symm d312) qC)) up
  replace jN:=jN.bk (J.symm (J.part (J.symm d322) qC)) up
  replace g0:=g0.bk (J.symm (J.part (J.symm d319) qC)) up
  replace iV:=iV.bk (J.symm (J.part (J.symm d321) qC)) up
  clear DS FD
  obtain⟨Vh,ah9,am4⟩:=XZ _ _ _ _ _ WZ up US akc Qt (by show [R _ _]=[R _ _];rw [List.length_set]) (fun b h=>Ut b (aho b h))
  clear up US Ut
  have apY:(av.1.I.set m.toNat ({el av.1.I m.toNat with U:=((el av.1.I m.toNat).U.set g.toNat (ia (el (aK h m).1.U g.toNat) (fI av.1.mem av.2.1 (ds (bn (el (aK h m).1.U g.toNat))))))})).length=av.1.I.length:=List.length_set
  replace S:=S.z (σ':=⟨[(6,.p 1 0),(15,.p 5 0),(117,.v (GT.val (ia (el (aK h m).1.U g.toNat) (fI av.1.mem av.2.1 (ds (bn (el (aK h m).1.U g.toNat))))) y7)),(118,.v (bh (fw.2 m.toNat).U.1.b ((fw.2 m.toNat).U.1.off+g.toNat*15)))],[GT.cells h ai,cg ah,[R h.mem.length af.mem.1,R h.I.length af.I.1,R h.buf.length af.buf.1,R h.ag.length af.ag.1],GT.cells (aK h m).1 fe,GT.cells (ia (el (aK h m).1.U g.toNat) (fI av.1.mem av.2.1 (ds (bn (el (aK h m).1.U g.toNat))))) y7,[R av.1.mem.length kl.1,R av.1.I.length fw.1,R av.1.buf.length kP.1,R av.1.ag.length kQ.1]]⟩)
  replace S:=S.cast (σ':=⟨[(6,.p 1 0),(15,.p 5 0),(117,.v (GT.val (ia (el (aK h m).1.U g.toNat) (fI av.1.mem av.2.1 (ds (bn (el (aK h m).1.U g.toNat))))) y7)),(118,.v (bh (fw.2 m.toNat).U.1.b ((fw.2 m.toNat).U.1.off+g.toNat*15)))],[GT.cells h ai,cg ah,[R h.mem.length af.mem.1,R h.I.length af.I.1,R h.buf.length af.buf.1,R h.ag.length af.ag.1],GT.cells (aK h m).1 fe,GT.cells (ia (el (aK h m).1.U g.toNat) (fI av.1.mem av.2.1 (ds (bn (el (aK h m).1.U g.toNat))))) y7,[R av.1.mem.length kl.1,R (av.1.I.set m.toNat ({el av.1.I m.toNat with U:=((el av.1.I m.toNat).U.set g.toNat (ia (el (aK h m).1.U g.toNat) (fI av.1.mem av.2.1 (ds (bn (el (aK h m).1.U g.toNat))))))})).length fw.1,R av.1.buf.length kP.1,R av.1.ag.length kQ.1]]⟩) (by rw [show(av.1.I.set m.toNat ({el av.1.I m.toNat with U:=((el av.1.I m.toNat).U.set g.toNat (ia (el (aK h m).1.U g.toNat) (fI av.1.mem av.2.1 (ds (bn (el (aK h m).1.U g.toNat))))))})).length=av.1.I.length by omega])
  refine ar.done (by kernel_rfl) ?_ _
  refine S.ex fun S=>?_
  refine S.bo 9 .nil [GT.val (⟨av.1.mem,(av.1.I.set m.toNat ({el av.1.I m.toNat with U:=((el av.1.I m.toNat).U.set g.toNat (ia (el (aK h m).1.U g.toNat) (fI av.1.mem av.2.1 (ds (bn (el (aK h m).1.U g.toNat))))))})),av.1.buf,av.1.ag⟩:ah) (⟨kl,(fw.1,Vh),kP,kQ⟩:b_),B true] fun ac w β S=>?_
  have BY:=fs (x:=(⟨av.1.mem,(av.1.I.set m.toNat ({el av.1.I m.toNat with U:=((el av.1.I m.toNat).U.set g.toNat (ia (el (aK h m).1.U g.toNat) (fI av.1.mem av.2.1 (ds (bn (el (aK h m).1.U g.toNat))))))})),av.1.buf,av.1.ag⟩:ah)) (p:=(⟨kl,(fw.1,Vh),kP,kQ⟩:b_)) jN ah9 g0 iV (J.symm (J.or (J.symm d322) (J.symm aaY))) (J.symm d318) (J.symm d320) (J.symm (J.symm (J.or (J.symm d319) (J.symm aaZ)))) (J.symm (J.symm (J.or (J.symm d321) (J.symm u4)))) d317
  exact gb (p':=()) S (show(dN h m g).1=(⟨av.1.mem,(av.1.I.set m.toNat ({el av.1.I m.toNat with U:=((el av.1.I m.toNat).U.set g.toNat (ia (el (aK h m).1.U g.toNat) (fI av.1.mem av.2.1 (ds (bn (el (aK h m).1.U g.toNat))))))})),av.1.buf,av.1.ag⟩:ah) from KA) (show(dN h m g).2=true from K_) rfl rfl BY trivial
 obtain⟨adr,ads⟩:=n4 oB
 have aoh:¬((bY (el (aK h m).1.U g.toNat))=3):=ne_of_beq_false adr
 have aoi:¬((bY (el (aK h m).1.U g.toNat))=4):=ne_of_beq_false ads
 refine S.go 8 .nil fun ac w β S=>?_
 refine S.p5 ⟨[(1,.v (aa m)),(2,.v (aa g)),(3,.p 0 0),(6,.p 1 0),(8,.p 2 0),(12,.v (aa (bY (el (aK h m).1.U g.toNat)))),(120,.v (B (((bY (el (aK h m).1.U g.toNat))==5)||((bY (el (aK h m).1.U g.toNat))==7))))],[GT.cells h ai,cg ah,[R h.mem.length af.mem.1,R h.I.length af.I.1,R h.buf.length af.buf.1,R h.ag.length af.ag.1]]⟩ ?_ ?_
 ·clear S;intro S
  refine S.aI 0 .nil ((bY (el (aK h m).1.U g.toNat))==5) (fun ac w β Jd acM S=>?_) (fun ac w β Jd acM S=>?_)
  ·exact S.dG 2 .nil fun ac w β S=>⟨rfl,_,by rw [Jd];exact S.z⟩
  exact S.dG 5 .nil fun ac w β S=>⟨rfl,_,by rw [Jd];exact S.z⟩
 clear S;intro ac w β S
 refine S.bd 1 .nil (((bY (el (aK h m).1.U g.toNat))==5)||((bY (el (aK h m).1.U g.toNat))==7)) (fun ac w β Je S=>?_) (fun ac w β Je S=>?_)
 ·have aoj:=D2 Je
  refine S.go 9 (.cons (cq bF.ak m Tryz.underlying28) .nil) fun ac w β S=>S.Xa (d:=129) bF (Y2 w h.I af.I m.toNat (by omega) e7 (S.fP bF) (fun b hb=>(S.sep b (bF.sub b hb)).1) g (bY (el (aK h m).1.U g.toNat)) (by(first|omega|assumption)) (by(first|omega|assumption))) fun ac w N Vi ama S up ah_ DT=>?_
  have aa0:=DT _ d17 bL.sub
  have r1:=DT _ (J.symm d20) bA.sub
  have aa1:=DT _ (J.symm d21) ba.sub
  replace bL:=bL.bk d17 up
  replace bA:=bA.bk (J.symm d20) up
  replace ba:=ba.bk (J.symm d21) up
  clear up DT bF
  have apZ:(h.I.set m.toNat (ju (el h.I m.toNat) g (el (el h.I m.toNat).U g.toNat) (bY (el (aK h m).1.U g.toNat)))).length=h.I.length:=List.length_set
  replace S:=S.z (σ':=⟨[(6,.p 1 0),(8,.p 2 0),(126,.v (bh af.I.1.b (af.I.1.off+m.toNat*9))),(127,.v (aa g)),(128,.v (aa (bY (el (aK h m).1.U g.toNat))))],[GT.cells h ai,cg ah,[R h.mem.length af.mem.1,R h.I.length af.I.1,R h.buf.length af.buf.1,R h.ag.length af.ag.1]]⟩)
  replace S:=S.cast (σ':=⟨[(6,.p 1 0),(8,.p 2 0),(126,.v (bh af.I.1.b (af.I.1.off+m.toNat*9))),(127,.v (aa g)),(128,.v (aa (bY (el (aK h m).1.U g.toNat))))],[GT.cells h ai,cg ah,[R h.mem.length af.mem.1,R (h.I.set m.toNat (ju (el h.I m.toNat) g (el (el h.I m.toNat).U g.toNat) (bY (el (aK h m).1.U g.toNat)))).length af.I.1,R h.buf.length af.buf.1,R h.ag.length af.ag.1]]⟩) (by rw [show(h.I.set m.toNat (ju (el h.I m.toNat) g (el (el h.I m.toNat).U g.toNat) (bY (el (aK h m).1.U g.toNat)))).length=h.I.length by omega])
  refine S.is fun S=>?_
  refine S.bo 10 .nil [GT.val (⟨h.mem,(h.I.set m.toNat (ju (el h.I m.toNat) g (el (el h.I m.toNat).U g.toNat) (bY (el (aK h m).1.U g.toNat)))),h.buf,h.ag⟩:ah) (⟨af.mem,((af.I.1,Vi):aD aO),af.buf,af.ag⟩:b_),B true] fun ac w β S=>?_
  have aia:=fs (x:=(⟨h.mem,(h.I.set m.toNat (ju (el h.I m.toNat) g (el (el h.I m.toNat).U g.toNat) (bY (el (aK h m).1.U g.toNat)))),h.buf,h.ag⟩:ah)) (p:=(⟨af.mem,((af.I.1,Vi):aD aO),af.buf,af.ag⟩:b_)) bL ah_ bA ba aa0 d18 d19 (J.symm r1) (J.symm aa1) d22
  exact gb (p':=()) S (show(dN h m g).1=(⟨h.mem,(h.I.set m.toNat (ju (el h.I m.toNat) g (el (el h.I m.toNat).U g.toNat) (bY (el (aK h m).1.U g.toNat)))),h.buf,h.ag⟩:ah) from yU) (show(dN h m g).2=true from yV) rfl rfl aia trivial
 obtain⟨adt,adu⟩:=n4 Je
 have aok:¬((bY (el (aK h m).1.U g.toNat))=5):=ne_of_beq_false adt
 have aol:¬((bY (el (aK h m).1.U g.toNat))=7):=ne_of_beq_false adu
 refine S.go 8 .nil fun ac w β S=>S.cJ (r:=fk h m) (d:=134) (YU w h ai (S.rd (S.arg aX)) m) fun ac w N VH amb S up UT aa2=>?_
 replace bL:=bL.up up
 replace bF:=bF.up up
 replace bA:=bA.up up
 replace ba:=ba.up up
 clear up aa2
 have afE:a_ (fk h m).aC:=fK.aC (d:=(fk h m)) UT.ak
 obtain⟨amc,amd,ame,aib,aic,aid,_,_,_,_,_,_⟩:=Gr UT
 refine S.go 1 .nil fun ac w β S=>S.qN (r:=(eZ (fk h m) g).1) (r':=(eZ (fk h m) g).2) (d:=136) (Yw w (fk h m) VH (S.rd (show GT.rd b6 _ _ (fk h m) VH from⟨aib.ak,aic.ak,aid.ak,afE⟩)) g) fun ac w N n7 aqD amf amg S up aie aqo r2 Ah am9=>?_
 have aa4:=J.w r2 bL.sub
 have Qv:=J.w r2 bF.sub
 have aa5:=J.w r2 bA.sub
 have aa6:=J.w r2 ba.sub
 replace bL:=bL.up up
 replace bF:=bF.up up
 replace bA:=bA.up up
 replace ba:=ba.up up
 clear up r2
 clear Ah
 obtain⟨amh,ami,amj,aqp,Mf,aqq,_,CJ,_,_,_,_⟩:=Gr aie
 refine S.go 17 (.cons (cq bF.ak m Tryz.underlying28) .nil) fun ac w β S=>S.Xp (α:=aO) bF (t:=71) (k:=m.toNat) (j:=3) (off:=af.I.1.off+m.toNat*9+3) (v:=R (eZ (fk h m) g).1.U.length n7.U.1) (y:=({el h.I m.toNat with U:=(eZ (fk h m) g).1.U}:aO)) (q:=({af.I.2 m.toNat with U:=n7.U}:ft)) (fun G fv qf=>⟨_,aiM fv Mf.own (fun b h an=>(J.symm (J.part (J.symm Qv) CJ)) b (qf b h) an),fun _ h=>h⟩) (J.symm (J.part (J.symm Qv) CJ)) Mf.sub Mf.dM fun w N amk VL S up aif tf aqP ahs=>?_
 have aa7:=tf _ d17 (J.symm (J.part (J.symm aa4) CJ)) bL.sub
 have aa8:=tf _ (J.symm d20) (J.symm (J.part (J.symm aa5) CJ)) bA.sub
 have aa9:=tf _ (J.symm d21) (J.symm (J.part (J.symm aa6) CJ)) ba.sub
 replace bL:=bL.bk d17 up
 replace bA:=bA.bk (J.symm d20) up
 replace ba:=ba.bk (J.symm d21) up
 clear up tf bF ahs
 have ap4:(h.I.set m.toNat ({el h.I m.toNat with U:=(eZ (fk h m) g).1.U})).length=h.I.length:=List.length_set
 replace S:=S.z (σ':=⟨[(6,.p 1 0),(8,.p 2 0),(143,.v (R (eZ (fk h m) g).1.U.length n7.U.1)),(145,.v (bh af.I.1.b (af.I.1.off+m.toNat*9+3)))],[GT.cells h ai,cg ah,[R h.mem.length af.mem.1,R h.I.length af.I.1,R h.buf.length af.buf.1,R h.ag.length af.ag.1],[R (eZ (fk h m) g).1.mem.length n7.mem.1,R (eZ (fk h m) g).1.U.length n7.U.1,R (eZ (fk h m) g).1.outs.length n7.outs.1,aa (eZ (fk h m) g).1.aC]]⟩)
 replace S:=S.cast (σ':=⟨[(6,.p 1 0),(8,.p 2 0),(143,.v (R (eZ (fk h m) g).1.U.length n7.U.1)),(145,.v (bh af.I.1.b (af.I.1.off+m.toNat*9+3)))],[GT.cells h ai,cg ah,[R h.mem.length af.mem.1,R (h.I.set m.toNat ({el h.I m.toNat with U:=(eZ (fk h m) g).1.U})).length af.I.1,R h.buf.length af.buf.1,R h.ag.length af.ag.1],[R (eZ (fk h m) g).1.mem.length n7.mem.1,R (eZ (fk h m) g).1.U.length n7.U.1,R (eZ (fk h m) g).1.outs.length n7.outs.1,aa (eZ (fk h m) g).1.aC]]⟩) (by rw [show(h.I.set m.toNat ({el h.I m.toNat with U:=(eZ (fk h m) g).1.U})).length=h.I.length by omega])
 refine S.is fun S=>?_
 refine S.bo 10 .nil [GT.val (⟨h.mem,(h.I.set m.toNat ({el h.I m.toNat with U:=(eZ (fk h m) g).1.U})),h.buf,h.ag⟩:ah) (⟨af.mem,(af.I.1,VL),af.buf,af.ag⟩:b_),B true] fun ac w β S=>?_
 have aih:=fs (x:=(⟨h.mem,(h.I.set m.toNat ({el h.I m.toNat with U:=(eZ (fk h m) g).1.U})),h.buf,h.ag⟩:ah)) (p:=(⟨af.mem,(af.I.1,VL),af.buf,af.ag⟩:b_)) bL aif bA ba aa7 d18 d19 (J.symm aa8) (J.symm aa9) d22
 exact gb (p':=()) S (show(dN h m g).1=(⟨h.mem,(h.I.set m.toNat ({el h.I m.toNat with U:=(eZ (fk h m) g).1.U})),h.buf,h.ag⟩:ah) from yU) (show(dN h m g).2=true from yV) rfl rfl aih trivial
theorem Px (w0:World) (h:ah) (ai:b_) (aX:bQ w0 h ai) (m:Int) (order:List Int) (ud:aD Int) (wa:bQ w0 order ud):Calls Tryz.prog 15 [GT.val h ai,aa m,R order.length ud.1].toArray w0 (o4 ab w0 ((ef h m order).1:ah) ((ef h m order).2:List Bool)):=by
 refine Calls.run ab Tryz.func15 ?_
 intro ac β S
 have lZ:h.mem.length<=4194304:=ae.le (bu.mem (d:=h) aX)
 have l0:h.I.length<=4194304:=ae.le (bu.I (d:=h) aX)
 have lX:h.buf.length<=4194304:=ae.le (bu.buf (d:=h) aX)
 have lY:h.ag.length<=4194304:=ae.le (bu.ag (d:=h) aX)
 have ae6:order.length<=4194304:=ae.le wa
 refine S.go 10 .nil fun ac w β S=>S.cJ (r:=h) (d:=15) (HH w h ai (S.rd (S.arg aX))) fun ac w N af br S up aA d4=>?_
 clear up d4
 refine S.gE (α:=Bool) (d:=16) fun ac w N bM cT S up ao d8=>?_
 have d9:=J.w d8 aA.sub
 replace aA:=aA.up up
 clear up d8
 refine S.go 14 .nil fun ac w β S=>?_
 refine c8 (fun a4 ac w=>∃(k:Nat) (Y:ah) (acc:List Bool) (eM:_) (eh:_) (j5:_) (e6:_) (u:_) (N:_) (β:_),a4=order.length-k/\(k<=order.length)/\(acc.length=k)/\((Y,acc)=ef h m (order.take k))/\aj Tryz.prog Tryz.f15.ntmps w0 ab u N β ⟨[(1,.v (aa m)),(6,.p 1 0),(8,.p 2 0),(9,.v (R acc.length eM.1)),(17,.v (R order.length ud.1)),(18,.v (aa (order.length:Int))),(19,.v (aa (k:Int)))],[GT.cells h ai,cg ah,GT.cells Y j5]⟩ ac w/\ad w0 ab u N eh acc eM/\ad w0 ab u N e6 Y j5/\J eh e6) _ ⟨0,h,([]:List Bool),bM,cT,af,br,_,_,_,rfl,cw,(by rfl),(by rfl),S.z,ao,aA,(J.symm d9)⟩ ?_
 clear S aA ao
 rintro f17 a4 JJ ac w ⟨k,Y,acc,eM,eh,j5,e6,u,N,β,rfl,hk,hl,bc,S,bA,ba,d16⟩
 refine S.rs fun S=>?_
 refine S.aI 6 .nil (decide ((k:Int)<(order.length:Int))) (fun ac w β hU m9 S=>?_) (fun ac w β hU m9 S=>?_)
 ·refine S.go 17 (.cons (b5 (S.arg wa) k Tryz.underlying38) (.cons (cj (S.arg wa) 3 k) .nil)) fun ac w β S=>S.qN (r:=(dN Y m (el order k)).1) (r':=(dN Y m (el order k)).2) (d:=27) (YK w Y j5 (S.rd ba.ak) m (el order k)) fun ac w N c9 uf s4 mf S up dm aqn d27 d28 d29=>?_
  have d32:=J.w d27 bA.sub
  replace bA:=bA.up up
  replace ba:=ba.up up
  clear up d27
  clear d28
  refine S.go 17 .nil fun ac w β S=>S.h3 (α:=Bool) (x:=(dN Y m (el order k)).2) (p:=()) (F:=ab) trivial (fun b h=>False.elim h) (fun b h=>False.elim h) (d:=33) fun ac w N jx mg S up e3 d37=>?_
  replace bA:=bA.up up
  replace dm:=dm.up up
  clear up d37
  refine S.kq (α:=Bool) bA e3.ak (fun _ _ h=>h) (by':=1) (d:=34) (lx:=acc.length) (ly:=1) rfl rfl (show _<=4194304 by simp only [List.length_append,List.length_cons,List.length_nil];omega) fun ac w N y6 mS S up jO d43=>?_
  have d44:=d43 _ (J.symm d32) dm.sub
  replace dm:=dm.bk (J.symm d32) up
  clear up d43
  refine S.ge 8 (.cons (cc (k:Int) 1) .nil) f17 fun ac w β S=>JJ.of (order.length-(k+1)) _ _ (by omega) ⟨k+1,(dN Y m (el order k)).1,(acc++[(dN Y m (el order k)).2]),y6,mS,c9,s4,_,_,_,rfl,?_,?_,?_,S.z,jO,dm,(J.symm d44)⟩
  ·exact cK
  ·clear S;(simp;omega)
  ·clear S;exact Wa (by omega) bc
 refine S.bo 15 .nil [GT.val Y j5,R acc.length eM.1] fun ac w β S=>?_
 exact VT S (show(ef h m order).1=Y by clear S;(rw [Gs (by omega) bc];done)) (show(ef h m order).2=acc by clear S;(rw [Gs (by omega) bc];done)) rfl rfl ba bA (J.symm d16)
theorem KJ {p:Prop} (h:p:=by clear S;first|(simp;intro e;subst e;simp_all;done)|(simp;rw [ff (by omega),ff (by omega)] at he;exact he)|(simp;exact sY (by simp_all))):p:=h
theorem DD (w0:World) (a:List Int) (pa:aD Int) (ay:bQ w0 a pa) (b:List Int) (bD:aD Int) (hb:bQ w0 b bD):Calls Tryz.prog 17 [R a.length pa.1,R b.length bD.1].toArray w0 (fun e w'=>e= .returned (B (decide (a=b)))/\bB ab w0 w'):=by
 refine Calls.run ab Tryz.func17 ?_
 intro ac β S
 have fG:a.length<=4194304:=ae.le ay
 have kG:b.length<=4194304:=ae.le hb
 refine S.aI 15 .nil ((a.length:Int) != (b.length:Int)) (fun ac w β h1 a8 S=>?_) (fun ac w β h1 a8 S=>?_)
 ·exact S.aq 7 .nil [B false] (a6 KJ)
 refine S.go 10 .nil fun ac w β S=>?_
 refine c8 (fun a4 ac w=>∃(k:Nat) (u:_) (N:_) (β:_),a4=a.length-k/\(k<=a.length)/\(a.length=b.length)/\(a.take k=b.take k)/\aj Tryz.prog Tryz.f17.ntmps w0 ab u N β ⟨[(0,.v (R a.length pa.1)),(1,.v (R b.length bD.1)),(5,.v (aa (k:Int)))],[]⟩ ac w) _ ⟨0,_,_,_,rfl,cw,cw,(by simp),S.z⟩ ?_
 clear S
 rintro f3 a4 iC ac w ⟨k,u,N,β,rfl,hk,ki,he,S⟩
 refine S.rs fun S=>?_
 refine S.aI 9 .nil (decide ((k:Int)<(a.length:Int))) (fun ac w β bm c6 S=>?_) (fun ac w β bm c6 S=>?_)
 ·refine S.aI 8 (.cons (b5 (S.arg ay) k Tryz.underlying38) (.cons (cj (S.arg ay) 3 k) (.cons (b5 (S.arg hb) k Tryz.underlying38) (.cons (cj (S.arg hb) 3 k) .nil)))) ((el a k) != (el b k)) (fun ac w β cE fl S=>?_) (fun ac w β cE fl S=>?_)
  ·exact S.aq 7 .nil [B false] (a6 KJ)
  refine S.ge 9 (.cons (cc (k:Int) 1) .nil) f3 fun ac w β S=>iC.of (a.length-(k+1)) _ _ (by omega) ⟨k+1,_,_,_,rfl,?_,?_,?_,S.z⟩
  ·exact cK
  ·exact cK
  ·clear S;exact sX (by omega) (by omega) he (by simp_all)
 exact S.aq 12 .nil [B true] (a6 KJ)
theorem KK {p:Prop} (h:p:=by clear S;first|(simp;intro e;subst e;simp_all;done)|(simp;rw [ff (by omega),ff (by omega)] at he;exact he)|(simp;exact sY (by simp_all))):p:=h
theorem PO (w0:World) (a:List (List Int)) (pa:aD (List Int)) (ay:bQ w0 a pa) (b:List (List Int)) (bD:aD (List Int)) (hb:bQ w0 b bD):Calls Tryz.prog 57 [R a.length pa.1,R b.length bD.1].toArray w0 (fun e w'=>e= .returned (B (decide (a=b)))/\bB ab w0 w'):=by
 refine Calls.run ab Tryz.func57 ?_
 intro ac β S
 have fG:a.length<=4194304:=ae.le ay
 have kG:b.length<=4194304:=ae.le hb
 refine S.aI 15 .nil ((a.length:Int) != (b.length:Int)) (fun ac w β h1 a8 S=>?_) (fun ac w β h1 a8 S=>?_)
 ·exact S.aq 7 .nil [B false] (a6 KK)
 refine S.go 10 .nil fun ac w β S=>?_
 refine c8 (fun a4 ac w=>∃(k:Nat) (u:_) (N:_) (β:_),a4=a.length-k/\(k<=a.length)/\(a.length=b.length)/\(a.take k=b.take k)/\aj Tryz.prog Tryz.f57.ntmps w0 ab u N β ⟨[(0,.v (R a.length pa.1)),(1,.v (R b.length bD.1)),(5,.v (aa (k:Int)))],[]⟩ ac w) _ ⟨0,_,_,_,rfl,cw,cw,(by simp),S.z⟩ ?_
 clear S
 rintro f3 a4 iC ac w ⟨k,u,N,β,rfl,hk,ki,he,S⟩
 refine S.rs fun S=>?_
 refine S.aI 9 .nil (decide ((k:Int)<(a.length:Int))) (fun ac w β bm c6 S=>?_) (fun ac w β bm c6 S=>?_)
 ·refine S.bd 8 (.cons (b5 (S.arg ay) k Tryz.underlying22) (.cons (cj (S.arg ay) 38 k) (.cons (b5 (S.arg hb) k Tryz.underlying22) (.cons (cj (S.arg hb) 38 k) (.cons (aE fun w hw=>DD w (el a k) (pa.2 k) (bJ (ae.el (S.arg ay) k (by omega)) hw) (el b k) (bD.2 k) (bJ (ae.el (S.arg hb) k (by omega)) hw)) .nil))))) (!(decide ((el a k)=(el b k)))) (fun ac w β cE S=>?_) (fun ac w β cE S=>?_)
  ·have dc:=cm cE
   have fF:=of_decide_eq_false dc
   exact S.aq 7 .nil [B false] (a6 KK)
  have c2:=b9 cE
  have eb:=of_decide_eq_true c2
  refine S.ge 9 (.cons (cc (k:Int) 1) .nil) f3 fun ac w β S=>iC.of (a.length-(k+1)) _ _ (by omega) ⟨k+1,_,_,_,rfl,?_,?_,?_,S.z⟩
  ·exact cK
  ·exact cK
  ·clear S;exact sX (by omega) (by omega) he (by simp_all)
 exact S.aq 12 .nil [B true] (a6 KK)
theorem KO {p:Prop} (h:p:=by clear S;first|(simp [aR.ext_iff, *];done)|(simp_all [aR.ext_iff];done)):p:=h
theorem Zk (w0:World) (a:aR) (b:aR):Calls Tryz.prog 315 [GT.val a (),GT.val b ()].toArray w0 (fun e w'=>e= .returned (B (decide (a=b)))/\bB ab w0 w'):=by
 refine Calls.run ab Tryz.func315 ?_
 intro ac β S
 refine S.aI 17 .nil (a.page != b.page) (fun ac w β h1 a8 S=>?_) (fun ac w β h1 a8 S=>?_)
 ·exact S.aq 7 .nil [B false] (a6 KO)
 refine S.aI 13 .nil (a.bg != b.bg) (fun ac w β aF cC S=>?_) (fun ac w β aF cC S=>?_)
 ·exact S.aq 7 .nil [B false] (a6 KO)
 exact S.aq 9 .nil [B true] (a6 KO)
theorem KP {p:Prop} (h:p:=by clear S;first|(simp;intro e;subst e;simp_all;done)|(simp;rw [ff (by omega),ff (by omega)] at he;exact he)|(simp;exact sY (by simp_all))):p:=h
theorem DE (w0:World) (a:List aR) (pa:aD aR) (ay:bQ w0 a pa) (b:List aR) (bD:aD aR) (hb:bQ w0 b bD):Calls Tryz.prog 258 [R a.length pa.1,R b.length bD.1].toArray w0 (fun e w'=>e= .returned (B (decide (a=b)))/\bB ab w0 w'):=by
 refine Calls.run ab Tryz.func258 ?_
 intro ac β S
 have fG:a.length<=4194304:=ae.le ay
 have kG:b.length<=4194304:=ae.le hb
 refine S.aI 15 .nil ((a.length:Int) != (b.length:Int)) (fun ac w β h1 a8 S=>?_) (fun ac w β h1 a8 S=>?_)
 ·exact S.aq 7 .nil [B false] (a6 KP)
 refine S.go 10 .nil fun ac w β S=>?_
 refine c8 (fun a4 ac w=>∃(k:Nat) (u:_) (N:_) (β:_),a4=a.length-k/\(k<=a.length)/\(a.length=b.length)/\(a.take k=b.take k)/\aj Tryz.prog Tryz.f258.ntmps w0 ab u N β ⟨[(0,.v (R a.length pa.1)),(1,.v (R b.length bD.1)),(5,.v (aa (k:Int)))],[]⟩ ac w) _ ⟨0,_,_,_,rfl,cw,cw,(by simp),S.z⟩ ?_
 clear S
 rintro f3 a4 iC ac w ⟨k,u,N,β,rfl,hk,ki,he,S⟩
 refine S.rs fun S=>?_
 refine S.aI 9 .nil (decide ((k:Int)<(a.length:Int))) (fun ac w β bm c6 S=>?_) (fun ac w β bm c6 S=>?_)
 ·refine S.bd 8 (.cons (b5 (S.arg ay) k Tryz.underlying64) (.cons (dz (S.arg ay) 111 k) (.cons (b5 (S.arg hb) k Tryz.underlying64) (.cons (dz (S.arg hb) 111 k) (.cons (aE fun w hw=>Zk w (el a k) (el b k)) .nil))))) (!(decide ((el a k)=(el b k)))) (fun ac w β cE S=>?_) (fun ac w β cE S=>?_)
  ·have dc:=cm cE
   have fF:=of_decide_eq_false dc
   exact S.aq 7 .nil [B false] (a6 KP)
  have c2:=b9 cE
  have eb:=of_decide_eq_true c2
  refine S.ge 9 (.cons (cc (k:Int) 1) .nil) f3 fun ac w β S=>iC.of (a.length-(k+1)) _ _ (by omega) ⟨k+1,_,_,_,rfl,?_,?_,?_,S.z⟩
  ·exact cK
  ·exact cK
  ·clear S;exact sX (by omega) (by omega) he (by simp_all)
 exact S.aq 12 .nil [B true] (a6 KP)
theorem KE {p:Prop} (h:p:=by clear S;first|(simp;intro e;subst e;simp_all;done)|(simp;rw [ff (by omega),ff (by omega)] at he;exact he)|(simp;exact sY (by simp_all))):p:=h
theorem z1 (w0:World) (a:List Bool) (pa:aD Bool) (ay:bQ w0 a pa) (b:List Bool) (bD:aD Bool) (hb:bQ w0 b bD):Calls Tryz.prog 16 [R a.length pa.1,R b.length bD.1].toArray w0 (fun e w'=>e= .returned (B (decide (a=b)))/\bB ab w0 w'):=by
 refine Calls.run ab Tryz.func16 ?_
 intro ac β S
 have fG:a.length<=4194304:=ae.le ay
 have kG:b.length<=4194304:=ae.le hb
 refine S.aI 15 .nil ((a.length:Int) != (b.length:Int)) (fun ac w β h1 a8 S=>?_) (fun ac w β h1 a8 S=>?_)
 ·exact S.aq 7 .nil [B false] (a6 KE)
 refine S.go 10 .nil fun ac w β S=>?_
 refine c8 (fun a4 ac w=>∃(k:Nat) (u:_) (N:_) (β:_),a4=a.length-k/\(k<=a.length)/\(a.length=b.length)/\(a.take k=b.take k)/\aj Tryz.prog Tryz.f16.ntmps w0 ab u N β ⟨[(0,.v (R a.length pa.1)),(1,.v (R b.length bD.1)),(5,.v (aa (k:Int)))],[]⟩ ac w) _ ⟨0,_,_,_,rfl,cw,cw,(by simp),S.z⟩ ?_
 clear S
 rintro f3 a4 iC ac w ⟨k,u,N,β,rfl,hk,ki,he,S⟩
 refine S.rs fun S=>?_
 refine S.aI 9 .nil (decide ((k:Int)<(a.length:Int))) (fun ac w β bm c6 S=>?_) (fun ac w β bm c6 S=>?_)
 ·refine S.bd 8 (.cons (b5 (S.arg ay) k Tryz.underlying39) (.cons (cj (S.arg ay) 4 k) (.cons (b5 (S.arg hb) k Tryz.underlying39) (.cons (cj (S.arg hb) 4 k) .nil)))) (!((el a k)==(el b k))) (fun ac w β cE S=>?_) (fun ac w β cE S=>?_)
  ·have dc:=cm cE
   have fF:¬((el a k)=(el b k)):=ne_of_beq_false dc
   exact S.aq 7 .nil [B false] (a6 KE)
  have c2:=b9 cE
  have eb:(el a k)=(el b k):=eq_of_beq c2
  refine S.ge 9 (.cons (cc (k:Int) 1) .nil) f3 fun ac w β S=>iC.of (a.length-(k+1)) _ _ (by omega) ⟨k+1,_,_,_,rfl,?_,?_,?_,S.z⟩
  ·exact cK
  ·exact cK
  ·clear S;exact sX (by omega) (by omega) he (by simp_all)
 exact S.aq 12 .nil [B true] (a6 KE)
theorem KH {p:Prop} (h:p:=by clear S;first|(simp [da.ext_iff, *];done)|(simp_all [da.ext_iff];done)):p:=h
theorem Ze (w0:World) (a:da) (b:da):Calls Tryz.prog 349 [GT.val a (),GT.val b ()].toArray w0 (fun e w'=>e= .returned (B (decide (a=b)))/\bB ab w0 w'):=by
 refine Calls.run ab Tryz.func349 ?_
 intro ac β S
 refine S.aI 17 .nil (a.eL != b.eL) (fun ac w β h1 a8 S=>?_) (fun ac w β h1 a8 S=>?_)
 ·exact S.aq 7 .nil [B false] (a6 KH)
 refine S.aI 13 .nil (a.x != b.x) (fun ac w β aF cC S=>?_) (fun ac w β aF cC S=>?_)
 ·exact S.aq 7 .nil [B false] (a6 KH)
 exact S.aq 9 .nil [B true] (a6 KH)
theorem KI {p:Prop} (h:p:=by clear S;first|(simp;intro e;subst e;simp_all;done)|(simp;rw [ff (by omega),ff (by omega)] at he;exact he)|(simp;exact sY (by simp_all))):p:=h
theorem Zf (w0:World) (a:List da) (pa:aD da) (ay:bQ w0 a pa) (b:List da) (bD:aD da) (hb:bQ w0 b bD):Calls Tryz.prog 343 [R a.length pa.1,R b.length bD.1].toArray w0 (fun e w'=>e= .returned (B (decide (a=b)))/\bB ab w0 w'):=by
 refine Calls.run ab Tryz.func343 ?_
 intro ac β S
 have fG:a.length<=4194304:=ae.le ay
 have kG:b.length<=4194304:=ae.le hb
 refine S.aI 15 .nil ((a.length:Int) != (b.length:Int)) (fun ac w β h1 a8 S=>?_) (fun ac w β h1 a8 S=>?_)
 ·exact S.aq 7 .nil [B false] (a6 KI)
 refine S.go 10 .nil fun ac w β S=>?_
 refine c8 (fun a4 ac w=>∃(k:Nat) (u:_) (N:_) (β:_),a4=a.length-k/\(k<=a.length)/\(a.length=b.length)/\(a.take k=b.take k)/\aj Tryz.prog Tryz.f343.ntmps w0 ab u N β ⟨[(0,.v (R a.length pa.1)),(1,.v (R b.length bD.1)),(5,.v (aa (k:Int)))],[]⟩ ac w) _ ⟨0,_,_,_,rfl,cw,cw,(by simp),S.z⟩ ?_
 clear S
 rintro f3 a4 iC ac w ⟨k,u,N,β,rfl,hk,ki,he,S⟩
 refine S.rs fun S=>?_
 refine S.aI 9 .nil (decide ((k:Int)<(a.length:Int))) (fun ac w β bm c6 S=>?_) (fun ac w β bm c6 S=>?_)
 ·refine S.bd 8 (.cons (b5 (S.arg ay) k Tryz.underlying63) (.cons (dz (S.arg ay) 128 k) (.cons (b5 (S.arg hb) k Tryz.underlying63) (.cons (dz (S.arg hb) 128 k) (.cons (aE fun w hw=>Ze w (el a k) (el b k)) .nil))))) (!(decide ((el a k)=(el b k)))) (fun ac w β cE S=>?_) (fun ac w β cE S=>?_)
  ·have dc:=cm cE
   have fF:=of_decide_eq_false dc
   exact S.aq 7 .nil [B false] (a6 KI)
  have c2:=b9 cE
  have eb:=of_decide_eq_true c2
  refine S.ge 9 (.cons (cc (k:Int) 1) .nil) f3 fun ac w β S=>iC.of (a.length-(k+1)) _ _ (by omega) ⟨k+1,_,_,_,rfl,?_,?_,?_,S.z⟩
  ·exact cK
  ·exact cK
  ·clear S;exact sX (by omega) (by omega) he (by simp_all)
 exact S.aq 12 .nil [B true] (a6 KI)
theorem E4 {p:Prop} (h:p:=by clear S;first|(simp [fy.ext_iff, *];done)|(simp_all [fy.ext_iff];done)):p:=h
theorem Y_ (w0:World) (a:fy) (b:fy):Calls Tryz.prog 344 [GT.val a (),GT.val b ()].toArray w0 (fun e w'=>e= .returned (B (decide (a=b)))/\bB ab w0 w'):=by
 refine Calls.run ab Tryz.func344 ?_
 intro ac β S
 refine S.aI 17 .nil (a.aY != b.aY) (fun ac w β h1 a8 S=>?_) (fun ac w β h1 a8 S=>?_)
 ·exact S.aq 7 .nil [B false] (a6 E4)
 refine S.aI 13 .nil (a.post != b.post) (fun ac w β aF cC S=>?_) (fun ac w β aF cC S=>?_)
 ·exact S.aq 7 .nil [B false] (a6 E4)
 refine S.bd 13 .nil (!(a.e4==b.e4)) (fun ac w β bm S=>?_) (fun ac w β bm S=>?_)
 ·have cS:=cm bm
  have gH:¬(a.e4=b.e4):=ne_of_beq_false cS
  exact S.aq 7 .nil [B false] (a6 E4)
 have dc:=b9 bm
 have fF:a.e4=b.e4:=eq_of_beq dc
 exact S.aq 9 .nil [B true] (a6 E4)
theorem Bu {p:Prop} (h:p:=by clear S;first|(simp [dg.ext_iff, *];done)|(simp_all [dg.ext_iff];done)):p:=h
theorem Zb (w0:World) (a:dg) (b:dg):Calls Tryz.prog 345 [GT.val a (),GT.val b ()].toArray w0 (fun e w'=>e= .returned (B (decide (a=b)))/\bB ab w0 w'):=by
 refine Calls.run ab Tryz.func345 ?_
 intro ac β S
 refine S.aI 17 .nil (a.kind != b.kind) (fun ac w β h1 a8 S=>?_) (fun ac w β h1 a8 S=>?_)
 ·exact S.aq 7 .nil [B false] (a6 Bu)
 refine S.aI 13 .nil (a.page != b.page) (fun ac w β aF cC S=>?_) (fun ac w β aF cC S=>?_)
 ·exact S.aq 7 .nil [B false] (a6 Bu)
 refine S.bd 13 .nil (!(a.wr==b.wr)) (fun ac w β bm S=>?_) (fun ac w β bm S=>?_)
 ·have cS:=cm bm
  have gH:¬(a.wr=b.wr):=ne_of_beq_false cS
  exact S.aq 7 .nil [B false] (a6 Bu)
 have dc:=b9 bm
 have fF:a.wr=b.wr:=eq_of_beq dc
 refine S.aI 13 .nil (a.n != b.n) (fun ac w β c2 eb S=>?_) (fun ac w β c2 eb S=>?_)
 ·exact S.aq 7 .nil [B false] (a6 Bu)
 exact S.aq 9 .nil [B true] (a6 Bu)
theorem qp {p:Prop} (h:p:=by clear S;first|(simp [ax.ext_iff, *];done)|(simp_all [ax.ext_iff];done)):p:=h
theorem Zc (w0:World) (a:ax) (pa:c5) (ay:bQ w0 a pa) (b:ax) (bD:c5) (hb:bQ w0 b bD):Calls Tryz.prog 316 [GT.val a pa,GT.val b bD].toArray w0 (fun e w'=>e= .returned (B (decide (a=b)))/\bB ab w0 w'):=by
 refine Calls.run ab Tryz.func316 ?_
 intro ac β S
 have ae1:a.prog.length<=4194304:=ae.le (az.prog (d:=a) ay)
 have ae5:a.written.length<=4194304:=ae.le (az.written (d:=a) ay)
 have aeX:a.live.length<=4194304:=ae.le (az.live (d:=a) ay)
 have ae2:a.seen.length<=4194304:=ae.le (az.seen (d:=a) ay)
 have ao2:b.prog.length<=4194304:=ae.le (az.prog (d:=b) hb)
 have ao6:b.written.length<=4194304:=ae.le (az.written (d:=b) hb)
 have aoY:b.live.length<=4194304:=ae.le (az.live (d:=b) hb)
 have ao3:b.seen.length<=4194304:=ae.le (az.seen (d:=b) hb)
 refine S.bd 18 (.cons (aE fun w hw=>Zf w a.prog pa.prog (bJ (az.prog (d:=a) (S.arg ay)) hw) b.prog bD.prog (bJ (az.prog (d:=b) (S.arg hb)) hw)) .nil) (!(decide (a.prog=b.prog))) (fun ac w β h1 S=>?_) (fun ac w β h1 S=>?_)
 ·have an:=cm h1
  have b7:=of_decide_eq_false an
  exact S.aq 7 .nil [B false] (a6 qp)
 have b1:=b9 h1
 have dJ:=of_decide_eq_true b1
 refine S.aI 13 .nil (a.acc != b.acc) (fun ac w β cS gH S=>?_) (fun ac w β cS gH S=>?_)
 ·exact S.aq 7 .nil [B false] (a6 qp)
 refine S.aI 13 .nil (a.aw != b.aw) (fun ac w β dc fF S=>?_) (fun ac w β dc fF S=>?_)
 ·exact S.aq 7 .nil [B false] (a6 qp)
 refine S.bd 14 (.cons (aE fun w hw=>DE w a.written pa.written (bJ (az.written (d:=a) (S.arg ay)) hw) b.written bD.written (bJ (az.written (d:=b) (S.arg hb)) hw)) .nil) (!(decide (a.written=b.written))) (fun ac w β c2 S=>?_) (fun ac w β c2 S=>?_)
 ·have eS:=cm c2
  have ie:=of_decide_eq_false eS
  exact S.aq 7 .nil [B false] (a6 qp)
 have jG:=b9 c2
 have nV:=of_decide_eq_true jG
 refine S.bd 14 (.cons (aE fun w hw=>DE w a.live pa.live (bJ (az.live (d:=a) (S.arg ay)) hw) b.live bD.live (bJ (az.live (d:=b) (S.arg hb)) hw)) .nil) (!(decide (a.live=b.live))) (fun ac w β oz S=>?_) (fun ac w β oz S=>?_)
 ·have lR:=cm oz
  have IU:=of_decide_eq_false lR
  exact S.aq 7 .nil [B false] (a6 qp)
 have nX:=b9 oz
 have x_:=of_decide_eq_true nX
 refine S.bd 14 (.cons (aE fun w hw=>Y_ w a.aN b.aN) .nil) (!(decide (a.aN=b.aN))) (fun ac w β hp S=>?_) (fun ac w β hp S=>?_)
 ·have lp:=cm hp
  have ve:=of_decide_eq_false lp
  exact S.aq 7 .nil [B false] (a6 qp)
 have r9:=b9 hp
 have aof:=of_decide_eq_true r9
 refine S.aI 13 .nil (a.aC != b.aC) (fun ac w β yo qe S=>?_) (fun ac w β yo qe S=>?_)
 ·exact S.aq 7 .nil [B false] (a6 qp)
 refine S.bd 14 (.cons (aE fun w hw=>Zb w a.exit b.exit) .nil) (!(decide (a.exit=b.exit))) (fun ac w β lS S=>?_) (fun ac w β lS S=>?_)
 ·have hD:=cm lS
  have lQ:=of_decide_eq_false hD
  exact S.aq 7 .nil [B false] (a6 qp)
 have lq:=b9 lS
 have ya:=of_decide_eq_true lq
 refine S.bd 13 .nil (!(a.halted==b.halted)) (fun ac w β ps S=>?_) (fun ac w β ps S=>?_)
 ·have m_:=cm ps
  have r8:¬(a.halted=b.halted):=ne_of_beq_false m_
  exact S.aq 7 .nil [B false] (a6 qp)
 have kD:=b9 ps
 have pq:a.halted=b.halted:=eq_of_beq kD
 refine S.bd 14 (.cons (aE fun w hw=>DD w a.seen pa.seen (bJ (az.seen (d:=a) (S.arg ay)) hw) b.seen bD.seen (bJ (az.seen (d:=b) (S.arg hb)) hw)) .nil) (!(decide (a.seen=b.seen))) (fun ac w β k4 S=>?_) (fun ac w β k4 S=>?_)
 ·have tA:=cm k4
  have As:=of_decide_eq_false tA
  exact S.aq 7 .nil [B false] (a6 qp)
 have lU:=b9 k4
 have Rx:=of_decide_eq_true lU
 exact S.aq 9 .nil [B true] (a6 qp)
theorem KG {p:Prop} (h:p:=by clear S;first|(simp;intro e;subst e;simp_all;done)|(simp;rw [ff (by omega),ff (by omega)] at he;exact he)|(simp;exact sY (by simp_all))):p:=h
theorem Zd (w0:World) (a:List ax) (pa:aD ax) (ay:bQ w0 a pa) (b:List ax) (bD:aD ax) (hb:bQ w0 b bD):Calls Tryz.prog 259 [R a.length pa.1,R b.length bD.1].toArray w0 (fun e w'=>e= .returned (B (decide (a=b)))/\bB ab w0 w'):=by
 refine Calls.run ab Tryz.func259 ?_
 intro ac β S
 have fG:a.length<=4194304:=ae.le ay
 have kG:b.length<=4194304:=ae.le hb
 refine S.aI 15 .nil ((a.length:Int) != (b.length:Int)) (fun ac w β h1 a8 S=>?_) (fun ac w β h1 a8 S=>?_)
 ·exact S.aq 7 .nil [B false] (a6 KG)
 refine S.go 10 .nil fun ac w β S=>?_
 refine c8 (fun a4 ac w=>∃(k:Nat) (u:_) (N:_) (β:_),a4=a.length-k/\(k<=a.length)/\(a.length=b.length)/\(a.take k=b.take k)/\aj Tryz.prog Tryz.f259.ntmps w0 ab u N β ⟨[(0,.v (R a.length pa.1)),(1,.v (R b.length bD.1)),(5,.v (aa (k:Int)))],[]⟩ ac w) _ ⟨0,_,_,_,rfl,cw,cw,(by simp),S.z⟩ ?_
 clear S
 rintro f3 a4 iC ac w ⟨k,u,N,β,rfl,hk,ki,he,S⟩
 refine S.rs fun S=>?_
 refine S.aI 9 .nil (decide ((k:Int)<(a.length:Int))) (fun ac w β bm c6 S=>?_) (fun ac w β bm c6 S=>?_)
 ·refine S.bd 8 (.cons (b5 (S.arg ay) k Tryz.underlying71) (.cons (dz (S.arg ay) 70 k) (.cons (b5 (S.arg hb) k Tryz.underlying71) (.cons (dz (S.arg hb) 70 k) (.cons (aE fun w hw=>Zc w (el a k) (pa.2 k) (bJ (ae.el (S.arg ay) k (by omega)) hw) (el b k) (bD.2 k) (bJ (ae.el (S.arg hb) k (by omega)) hw)) .nil))))) (!(decide ((el a k)=(el b k)))) (fun ac w β cE S=>?_) (fun ac w β cE S=>?_)
  ·have dc:=cm cE
   have fF:=of_decide_eq_false dc
   exact S.aq 7 .nil [B false] (a6 KG)
  have c2:=b9 cE
  have eb:=of_decide_eq_true c2
  refine S.ge 9 (.cons (cc (k:Int) 1) .nil) f3 fun ac w β S=>iC.of (a.length-(k+1)) _ _ (by omega) ⟨k+1,_,_,_,rfl,?_,?_,?_,S.z⟩
  ·exact cK
  ·exact cK
  ·clear S;exact sX (by omega) (by omega) he (by simp_all)
 exact S.aq 12 .nil [B true] (a6 KG)
theorem KL {p:Prop} (h:p:=by clear S;first|(simp [bS.ext_iff, *];done)|(simp_all [bS.ext_iff];done)):p:=h
theorem Zg (w0:World) (a:bS) (pa:fx) (ay:bQ w0 a pa) (b:bS) (bD:fx) (hb:bQ w0 b bD):Calls Tryz.prog 317 [GT.val a pa,GT.val b bD].toArray w0 (fun e w'=>e= .returned (B (decide (a=b)))/\bB ab w0 w'):=by
 refine Calls.run ab Tryz.func317 ?_
 intro ac β S
 have aeW:a.known.length<=4194304:=ae.le (ey.known (d:=a) ay)
 have ae3:a.aZ.length<=4194304:=ae.le (ey.aZ (d:=a) ay)
 have aoX:b.known.length<=4194304:=ae.le (ey.known (d:=b) hb)
 have ao4:b.aZ.length<=4194304:=ae.le (ey.aZ (d:=b) hb)
 refine S.bd 18 (.cons (aE fun w hw=>z1 w a.known pa.known (bJ (ey.known (d:=a) (S.arg ay)) hw) b.known bD.known (bJ (ey.known (d:=b) (S.arg hb)) hw)) .nil) (!(decide (a.known=b.known))) (fun ac w β h1 S=>?_) (fun ac w β h1 S=>?_)
 ·have an:=cm h1
  have b7:=of_decide_eq_false an
  exact S.aq 7 .nil [B false] (a6 KL)
 have b1:=b9 h1
 have dJ:=of_decide_eq_true b1
 refine S.bd 14 (.cons (aE fun w hw=>DE w a.aZ pa.aZ (bJ (ey.aZ (d:=a) (S.arg ay)) hw) b.aZ bD.aZ (bJ (ey.aZ (d:=b) (S.arg hb)) hw)) .nil) (!(decide (a.aZ=b.aZ))) (fun ac w β cS S=>?_) (fun ac w β cS S=>?_)
 ·have cE:=cm cS
  have fl:=of_decide_eq_false cE
  exact S.aq 7 .nil [B false] (a6 KL)
 have ez:=b9 cS
 have iU:=of_decide_eq_true ez
 exact S.aq 9 .nil [B true] (a6 KL)
theorem KM {p:Prop} (h:p:=by clear S;first|(simp;intro e;subst e;simp_all;done)|(simp;rw [ff (by omega),ff (by omega)] at he;exact he)|(simp;exact sY (by simp_all))):p:=h
theorem Zh (w0:World) (a:List bS) (pa:aD bS) (ay:bQ w0 a pa) (b:List bS) (bD:aD bS) (hb:bQ w0 b bD):Calls Tryz.prog 260 [R a.length pa.1,R b.length bD.1].toArray w0 (fun e w'=>e= .returned (B (decide (a=b)))/\bB ab w0 w'):=by
 refine Calls.run ab Tryz.func260 ?_
 intro ac β S
 have fG:a.length<=4194304:=ae.le ay
 have kG:b.length<=4194304:=ae.le hb
 refine S.aI 15 .nil ((a.length:Int) != (b.length:Int)) (fun ac w β h1 a8 S=>?_) (fun ac w β h1 a8 S=>?_)
 ·exact S.aq 7 .nil [B false] (a6 KM)
 refine S.go 10 .nil fun ac w β S=>?_
 refine c8 (fun a4 ac w=>∃(k:Nat) (u:_) (N:_) (β:_),a4=a.length-k/\(k<=a.length)/\(a.length=b.length)/\(a.take k=b.take k)/\aj Tryz.prog Tryz.f260.ntmps w0 ab u N β ⟨[(0,.v (R a.length pa.1)),(1,.v (R b.length bD.1)),(5,.v (aa (k:Int)))],[]⟩ ac w) _ ⟨0,_,_,_,rfl,cw,cw,(by simp),S.z⟩ ?_
 clear S
 rintro f3 a4 iC ac w ⟨k,u,N,β,rfl,hk,ki,he,S⟩
 refine S.rs fun S=>?_
 refine S.aI 9 .nil (decide ((k:Int)<(a.length:Int))) (fun ac w β bm c6 S=>?_) (fun ac w β bm c6 S=>?_)
 ·refine S.bd 8 (.cons (b5 (S.arg ay) k Tryz.underlying72) (.cons (dz (S.arg ay) 165 k) (.cons (b5 (S.arg hb) k Tryz.underlying72) (.cons (dz (S.arg hb) 165 k) (.cons (aE fun w hw=>Zg w (el a k) (pa.2 k) (bJ (ae.el (S.arg ay) k (by omega)) hw) (el b k) (bD.2 k) (bJ (ae.el (S.arg hb) k (by omega)) hw)) .nil))))) (!(decide ((el a k)=(el b k)))) (fun ac w β cE S=>?_) (fun ac w β cE S=>?_)
  ·have dc:=cm cE
   have fF:=of_decide_eq_false dc
   exact S.aq 7 .nil [B false] (a6 KM)
  have c2:=b9 cE
  have eb:=of_decide_eq_true c2
  refine S.ge 9 (.cons (cc (k:Int) 1) .nil) f3 fun ac w β S=>iC.of (a.length-(k+1)) _ _ (by omega) ⟨k+1,_,_,_,rfl,?_,?_,?_,S.z⟩
  ·exact cK
  ·exact cK
  ·clear S;exact sX (by omega) (by omega) he (by simp_all)
 exact S.aq 12 .nil [B true] (a6 KM)
theorem q9 {p:Prop} (h:p:=by clear S;first|(simp [aO.ext_iff, *];done)|(simp_all [aO.ext_iff];done)):p:=h
theorem Zi (w0:World) (a:aO) (pa:ft) (ay:bQ w0 a pa) (b:aO) (bD:ft) (hb:bQ w0 b bD):Calls Tryz.prog 154 [GT.val a pa,GT.val b bD].toArray w0 (fun e w'=>e= .returned (B (decide (a=b)))/\bB ab w0 w'):=by
 refine Calls.run ab Tryz.func154 ?_
 intro ac β S
 have aeZ:a.outer.length<=4194304:=ae.le (aU.outer (d:=a) ay)
 have aeY:a.out.length<=4194304:=ae.le (aU.out (d:=a) ay)
 have aeU:a.aT.length<=4194304:=ae.le (aU.aT (d:=a) ay)
 have aeV:a.U.length<=4194304:=ae.le (aU.U (d:=a) ay)
 have ae0:a.outs.length<=4194304:=ae.le (aU.outs (d:=a) ay)
 have ae4:a.tables.length<=4194304:=ae.le (aU.tables (d:=a) ay)
 have ao1:b.outer.length<=4194304:=ae.le (aU.outer (d:=b) hb)
 have ao0:b.out.length<=4194304:=ae.le (aU.out (d:=b) hb)
 have aoV:b.aT.length<=4194304:=ae.le (aU.aT (d:=b) hb)
 have yy:b.U.length<=4194304:=ae.le (aU.U (d:=b) hb)
 have yA:b.outs.length<=4194304:=ae.le (aU.outs (d:=b) hb)
 have ao5:b.tables.length<=4194304:=ae.le (aU.tables (d:=b) hb)
 refine S.bd 18 (.cons (aE fun w hw=>DE w a.outer pa.outer (bJ (aU.outer (d:=a) (S.arg ay)) hw) b.outer bD.outer (bJ (aU.outer (d:=b) (S.arg hb)) hw)) .nil) (!(decide (a.outer=b.outer))) (fun ac w β h1 S=>?_) (fun ac w β h1 S=>?_)
 ·have an:=cm h1
  have b7:=of_decide_eq_false an
  exact S.aq 7 .nil [B false] (a6 q9)
 have b1:=b9 h1
 have dJ:=of_decide_eq_true b1
 refine S.bd 14 (.cons (aE fun w hw=>PO w a.out pa.out (bJ (aU.out (d:=a) (S.arg ay)) hw) b.out bD.out (bJ (aU.out (d:=b) (S.arg hb)) hw)) .nil) (!(decide (a.out=b.out))) (fun ac w β cS S=>?_) (fun ac w β cS S=>?_)
 ·have cE:=cm cS
  have fl:=of_decide_eq_false cE
  exact S.aq 7 .nil [B false] (a6 q9)
 have ez:=b9 cS
 have iU:=of_decide_eq_true ez
 refine S.bd 14 (.cons (aE fun w hw=>z1 w a.aT pa.aT (bJ (aU.aT (d:=a) (S.arg ay)) hw) b.aT bD.aT (bJ (aU.aT (d:=b) (S.arg hb)) hw)) .nil) (!(decide (a.aT=b.aT))) (fun ac w β eS S=>?_) (fun ac w β eS S=>?_)
 ·have ec:=cm eS
  have hC:=of_decide_eq_false ec
  exact S.aq 7 .nil [B false] (a6 q9)
 have ig:=b9 eS
 have lP:=of_decide_eq_true ig
 refine S.bd 14 (.cons (aE fun w hw=>Zd w a.U pa.U (bJ (aU.U (d:=a) (S.arg ay)) hw) b.U bD.U (bJ (aU.U (d:=b) (S.arg hb)) hw)) .nil) (!(decide (a.U=b.U))) (fun ac w β lR S=>?_) (fun ac w β lR S=>?_)
 ·have jH:=cm lR
  have po:=of_decide_eq_false jH
  exact S.aq 7 .nil [B false] (a6 q9)
 have hU:=b9 lR
 have m9:=of_decide_eq_true hU
 refine S.bd 14 (.cons (aE fun w hw=>DD w a.outs pa.outs (bJ (aU.outs (d:=a) (S.arg ay)) hw) b.outs bD.outs (bJ (aU.outs (d:=b) (S.arg hb)) hw)) .nil) (!(decide (a.outs=b.outs))) (fun ac w β lp S=>?_) (fun ac w β lp S=>?_)
 ·have pr:=cm lp
  have tv:=of_decide_eq_false pr
  exact S.aq 7 .nil [B false] (a6 q9)
 have gR:=b9 lp
 have jF:=of_decide_eq_true gR
 refine S.aI 13 .nil (a.aC != b.aC) (fun ac w β gS tw S=>?_) (fun ac w β gS tw S=>?_)
 ·exact S.aq 7 .nil [B false] (a6 q9)
 refine S.aI 13 .nil (a.aY != b.aY) (fun ac w β hD lQ S=>?_) (fun ac w β hD lQ S=>?_)
 ·exact S.aq 7 .nil [B false] (a6 q9)
 refine S.bd 14 (.cons (aE fun w hw=>Zh w a.tables pa.tables (bJ (aU.tables (d:=a) (S.arg ay)) hw) b.tables bD.tables (bJ (aU.tables (d:=b) (S.arg hb)) hw)) .nil) (!(decide (a.tables=b.tables))) (fun ac w β lq S=>?_) (fun ac w β lq S=>?_)
 ·have lT:=cm lq
  have vf:=of_decide_eq_false lT
  exact S.aq 7 .nil [B false] (a6 q9)
 have m_:=b9 lq
 have r8:=of_decide_eq_true m_
 refine S.aI 13 .nil (a.owned != b.owned) (fun ac w β kD pq S=>?_) (fun ac w β kD pq S=>?_)
 ·exact S.aq 7 .nil [B false] (a6 q9)
 exact S.aq 9 .nil [B true] (a6 q9)
theorem KN {p:Prop} (h:p:=by clear S;first|(simp;intro e;subst e;simp_all;done)|(simp;rw [ff (by omega),ff (by omega)] at he;exact he)|(simp;exact sY (by simp_all))):p:=h
theorem Zj (w0:World) (a:List aO) (pa:aD aO) (ay:bQ w0 a pa) (b:List aO) (bD:aD aO) (hb:bQ w0 b bD):Calls Tryz.prog 58 [R a.length pa.1,R b.length bD.1].toArray w0 (fun e w'=>e= .returned (B (decide (a=b)))/\bB ab w0 w'):=by
 refine Calls.run ab Tryz.func58 ?_
 intro ac β S
 have fG:a.length<=4194304:=ae.le ay
 have kG:b.length<=4194304:=ae.le hb
 refine S.aI 15 .nil ((a.length:Int) != (b.length:Int)) (fun ac w β h1 a8 S=>?_) (fun ac w β h1 a8 S=>?_)
 ·exact S.aq 7 .nil [B false] (a6 KN)
 refine S.go 10 .nil fun ac w β S=>?_
 refine c8 (fun a4 ac w=>∃(k:Nat) (u:_) (N:_) (β:_),a4=a.length-k/\(k<=a.length)/\(a.length=b.length)/\(a.take k=b.take k)/\aj Tryz.prog Tryz.f58.ntmps w0 ab u N β ⟨[(0,.v (R a.length pa.1)),(1,.v (R b.length bD.1)),(5,.v (aa (k:Int)))],[]⟩ ac w) _ ⟨0,_,_,_,rfl,cw,cw,(by simp),S.z⟩ ?_
 clear S
 rintro f3 a4 iC ac w ⟨k,u,N,β,rfl,hk,ki,he,S⟩
 refine S.rs fun S=>?_
 refine S.aI 9 .nil (decide ((k:Int)<(a.length:Int))) (fun ac w β bm c6 S=>?_) (fun ac w β bm c6 S=>?_)
 ·refine S.bd 8 (.cons (b5 (S.arg ay) k Tryz.underlying28) (.cons (dz (S.arg ay) 74 k) (.cons (b5 (S.arg hb) k Tryz.underlying28) (.cons (dz (S.arg hb) 74 k) (.cons (aE fun w hw=>Zi w (el a k) (pa.2 k) (bJ (ae.el (S.arg ay) k (by omega)) hw) (el b k) (bD.2 k) (bJ (ae.el (S.arg hb) k (by omega)) hw)) .nil))))) (!(decide ((el a k)=(el b k)))) (fun ac w β cE S=>?_) (fun ac w β cE S=>?_)
  ·have dc:=cm cE
   have fF:=of_decide_eq_false dc
   exact S.aq 7 .nil [B false] (a6 KN)
  have c2:=b9 cE
  have eb:=of_decide_eq_true c2
  refine S.ge 9 (.cons (cc (k:Int) 1) .nil) f3 fun ac w β S=>iC.of (a.length-(k+1)) _ _ (by omega) ⟨k+1,_,_,_,rfl,?_,?_,?_,S.z⟩
  ·exact cK
  ·exact cK
  ·clear S;exact sX (by omega) (by omega) he (by simp_all)
 exact S.aq 12 .nil [B true] (a6 KN)
theorem Bt {p:Prop} (h:p:=by clear S;first|(simp [aH.ext_iff, *];done)|(simp_all [aH.ext_iff];done)):p:=h
theorem Za (w0:World) (a:aH) (b:aH):Calls Tryz.prog 155 [GT.val a (),GT.val b ()].toArray w0 (fun e w'=>e= .returned (B (decide (a=b)))/\bB ab w0 w'):=by
 refine Calls.run ab Tryz.func155 ?_
 intro ac β S
 refine S.aI 17 .nil (a.tag != b.tag) (fun ac w β h1 a8 S=>?_) (fun ac w β h1 a8 S=>?_)
 ·exact S.aq 7 .nil [B false] (a6 Bt)
 refine S.aI 13 .nil (a.page != b.page) (fun ac w β aF cC S=>?_) (fun ac w β aF cC S=>?_)
 ·exact S.aq 7 .nil [B false] (a6 Bt)
 refine S.aI 13 .nil (a.host != b.host) (fun ac w β bm c6 S=>?_) (fun ac w β bm c6 S=>?_)
 ·exact S.aq 7 .nil [B false] (a6 Bt)
 refine S.aI 13 .nil (a.bg != b.bg) (fun ac w β cE fl S=>?_) (fun ac w β cE fl S=>?_)
 ·exact S.aq 7 .nil [B false] (a6 Bt)
 exact S.aq 9 .nil [B true] (a6 Bt)
theorem KF {p:Prop} (h:p:=by clear S;first|(simp;intro e;subst e;simp_all;done)|(simp;rw [ff (by omega),ff (by omega)] at he;exact he)|(simp;exact sY (by simp_all))):p:=h
theorem PN (w0:World) (a:List aH) (pa:aD aH) (ay:bQ w0 a pa) (b:List aH) (bD:aD aH) (hb:bQ w0 b bD):Calls Tryz.prog 59 [R a.length pa.1,R b.length bD.1].toArray w0 (fun e w'=>e= .returned (B (decide (a=b)))/\bB ab w0 w'):=by
 refine Calls.run ab Tryz.func59 ?_
 intro ac β S
 have fG:a.length<=4194304:=ae.le ay
 have kG:b.length<=4194304:=ae.le hb
 refine S.aI 15 .nil ((a.length:Int) != (b.length:Int)) (fun ac w β h1 a8 S=>?_) (fun ac w β h1 a8 S=>?_)
 ·exact S.aq 7 .nil [B false] (a6 KF)
 refine S.go 10 .nil fun ac w β S=>?_
 refine c8 (fun a4 ac w=>∃(k:Nat) (u:_) (N:_) (β:_),a4=a.length-k/\(k<=a.length)/\(a.length=b.length)/\(a.take k=b.take k)/\aj Tryz.prog Tryz.f59.ntmps w0 ab u N β ⟨[(0,.v (R a.length pa.1)),(1,.v (R b.length bD.1)),(5,.v (aa (k:Int)))],[]⟩ ac w) _ ⟨0,_,_,_,rfl,cw,cw,(by simp),S.z⟩ ?_
 clear S
 rintro f3 a4 iC ac w ⟨k,u,N,β,rfl,hk,ki,he,S⟩
 refine S.rs fun S=>?_
 refine S.aI 9 .nil (decide ((k:Int)<(a.length:Int))) (fun ac w β bm c6 S=>?_) (fun ac w β bm c6 S=>?_)
 ·refine S.bd 8 (.cons (b5 (S.arg ay) k Tryz.underlying29) (.cons (dz (S.arg ay) 138 k) (.cons (b5 (S.arg hb) k Tryz.underlying29) (.cons (dz (S.arg hb) 138 k) (.cons (aE fun w hw=>Za w (el a k) (el b k)) .nil))))) (!(decide ((el a k)=(el b k)))) (fun ac w β cE S=>?_) (fun ac w β cE S=>?_)
  ·have dc:=cm cE
   have fF:=of_decide_eq_false dc
   exact S.aq 7 .nil [B false] (a6 KF)
  have c2:=b9 cE
  have eb:=of_decide_eq_true c2
  refine S.ge 9 (.cons (cc (k:Int) 1) .nil) f3 fun ac w β S=>iC.of (a.length-(k+1)) _ _ (by omega) ⟨k+1,_,_,_,rfl,?_,?_,?_,S.z⟩
  ·exact cK
  ·exact cK
  ·clear S;exact sX (by omega) (by omega) he (by simp_all)
 exact S.aq 12 .nil [B true] (a6 KF)
theorem Bv {p:Prop} (h:p:=by clear S;first|(simp [ah.ext_iff, *];done)|(simp_all [ah.ext_iff];done)):p:=h
theorem DC (w0:World) (a:ah) (pa:b_) (ay:bQ w0 a pa) (b:ah) (bD:b_) (hb:bQ w0 b bD):Calls Tryz.prog 10 [GT.val a pa,GT.val b bD].toArray w0 (fun e w'=>e= .returned (B (decide (a=b)))/\bB ab w0 w'):=by
 refine Calls.run ab Tryz.func10 ?_
 intro ac β S
 have SR:a.mem.length<=4194304:=ae.le (bu.mem (d:=a) ay)
 have SS:a.I.length<=4194304:=ae.le (bu.I (d:=a) ay)
 have SP:a.buf.length<=4194304:=ae.le (bu.buf (d:=a) ay)
 have SQ:a.ag.length<=4194304:=ae.le (bu.ag (d:=a) ay)
 have yz:b.mem.length<=4194304:=ae.le (bu.mem (d:=b) hb)
 have aoZ:b.I.length<=4194304:=ae.le (bu.I (d:=b) hb)
 have aoU:b.buf.length<=4194304:=ae.le (bu.buf (d:=b) hb)
 have aoW:b.ag.length<=4194304:=ae.le (bu.ag (d:=b) hb)
 refine S.bd 18 (.cons (aE fun w hw=>PO w a.mem pa.mem (bJ (bu.mem (d:=a) (S.arg ay)) hw) b.mem bD.mem (bJ (bu.mem (d:=b) (S.arg hb)) hw)) .nil) (!(decide (a.mem=b.mem))) (fun ac w β h1 S=>?_) (fun ac w β h1 S=>?_)
 ·have an:=cm h1
  have b7:=of_decide_eq_false an
  exact S.aq 7 .nil [B false] (a6 Bv)
 have b1:=b9 h1
 have dJ:=of_decide_eq_true b1
 refine S.bd 14 (.cons (aE fun w hw=>Zj w a.I pa.I (bJ (bu.I (d:=a) (S.arg ay)) hw) b.I bD.I (bJ (bu.I (d:=b) (S.arg hb)) hw)) .nil) (!(decide (a.I=b.I))) (fun ac w β cS S=>?_) (fun ac w β cS S=>?_)
 ·have cE:=cm cS
  have fl:=of_decide_eq_false cE
  exact S.aq 7 .nil [B false] (a6 Bv)
 have ez:=b9 cS
 have iU:=of_decide_eq_true ez
 refine S.bd 14 (.cons (aE fun w hw=>PN w a.buf pa.buf (bJ (bu.buf (d:=a) (S.arg ay)) hw) b.buf bD.buf (bJ (bu.buf (d:=b) (S.arg hb)) hw)) .nil) (!(decide (a.buf=b.buf))) (fun ac w β eS S=>?_) (fun ac w β eS S=>?_)
 ·have ec:=cm eS
  have hC:=of_decide_eq_false ec
  exact S.aq 7 .nil [B false] (a6 Bv)
 have ig:=b9 eS
 have lP:=of_decide_eq_true ig
 refine S.bd 14 (.cons (aE fun w hw=>PN w a.ag pa.ag (bJ (bu.ag (d:=a) (S.arg ay)) hw) b.ag bD.ag (bJ (bu.ag (d:=b) (S.arg hb)) hw)) .nil) (!(decide (a.ag=b.ag))) (fun ac w β lR S=>?_) (fun ac w β lR S=>?_)
 ·have jH:=cm lR
  have po:=of_decide_eq_false jH
  exact S.aq 7 .nil [B false] (a6 Bv)
 have hU:=b9 lR
 have m9:=of_decide_eq_true hU
 exact S.aq 9 .nil [B true] (a6 Bv)
theorem DH (w0:World) (a:List Int) (pa:aD Int) (F:au) (ay:GT.own b6 F w0 a pa) (eT:∀b,F b->b<w0.heap.size) (k:Int) (fC:0<=k) (gU:k+16*(aS.aW a:Int)<=4611686018427387904):Calls Tryz.prog 18 [R a.length pa.1,aa k].toArray w0 (og aQ F w0 pa a k):=by
 refine Calls.run F Tryz.func18 ?_
 intro ac β S
 have iq:ad w0 F w0 (fc w0.heap.size) F a pa:=⟨ay,eT,fun b hb=> .inr hb⟩
 have ej:=Wc a
 have fG:a.length<=4194304:=g4.le ay
 refine S.go 12 .nil fun ac w β S=>?_
 refine c8 (fun a4 ac w=>∃(i:Nat) (acc:List Int) (j:Int) (af:_) (br:_) (u:_) (N:_) (β:_),a4=a.length-i/\(i<=a.length)/\(acc=ov i k++a.drop i)/\(j=k+1*(i:Int))/\aj Tryz.prog Tryz.f18.ntmps w0 F u N β ⟨[(0,.v (R a.length af.1)),(1,.v (aa j)),(5,.v (aa (i:Int)))],[]⟩ ac w/\ad w0 F u N br acc af/\af.1=pa.1/\(∀b,br b->F b)) _ ⟨0,a,k,pa,F,_,_,_,rfl,cw,(by simp [ov]),(by simp),S.z,iq,rfl,(fun _ h=>h)⟩ ?_
 clear S iq
 rintro f4 a4 lW ac w ⟨i,acc,j,af,br,u,N,β,rfl,hi,bz,bZ,S,aA,a9,hs⟩
 refine S.rs fun S=>?_
 have gI:acc.length=a.length:=by rw [bz];simp [ov];omega
 refine S.aI 9 .nil (decide ((i:Int)<(a.length:Int))) (fun ac w β cS gH S=>?_) (fun ac w β cS gH S=>?_)
 ·refine S.go 11 (.cons (eP aA.ak (l:=a.length) (k:=i) (i:=(i:Int)) (by rw [bz];simp [ov];omega) rfl (by omega) Tryz.underlying38 (by kernel_rfl)) .nil) fun ac w β S=>S.fQ (α:=Int) aA (t:=3) (k:=i) (j:=0) (off:=af.1.off+i*1) (v:=aa j) (y:=j) (q:=()) (fun _ _ _=>⟨ab,⟨by omega,by omega⟩,fun _ h=>False.elim h⟩) fun w N bV eM S up bO d11 Nw Lw=>?_
  have Nz:∀b,bV b->F b:=fun b h=>(Nw b h).elim (hs b) (fun h=>False.elim h)
  clear up d11 aA Lw
  have aga:(acc.set i j).length=acc.length:=List.length_set
  refine S.ge 14 (.cons (cc j 1) (.cons (cc (i:Int) 1) .nil)) f4 fun ac w β S=>lW.of (a.length-(i+1)) _ _ (by omega) ⟨i+1,(acc.set i j),(j+1),(af.1,eM),bV,_,_,_,rfl,?_,?_,?_,S.z,bO,a9,Nz⟩
  ·exact cK
  ·clear S;(have eW:i<acc.length:=(by omega));rw [bz,←agN (by omega) bZ];(first|rfl|(simp [yh,Int.add_assoc];done))
  ·clear S;omega
 refine S.bo 13 .nil [aa j] fun ac w β S=>?_
 have k6:aQ acc k=j:=by clear S;(have e:i=a.length:=(by omega));subst e;rw [bz,List.drop_length,List.append_nil,bZ];exact SC k (by omega) _ (by omega) id
 have hV:k<=j/\j<=k+16*((aS.aW a:Nat):Int):=by clear S;skip;constructor<;>omega
 exact rJ S k6 hV.1 hV.2 (by show [R _ _]=[R _ _];rw [gI,a9]) aA hs
theorem PV (w0:World) (a:List (List Int)) (pa:aD (List Int)) (F:au) (ay:GT.own b6 F w0 a pa) (eT:∀b,F b->b<w0.heap.size) (k:Int) (fC:0<=k) (gU:k+16*(aS.aW a:Int)<=4611686018427387904):Calls Tryz.prog 60 [R a.length pa.1,aa k].toArray w0 (og aQ F w0 pa a k):=by
 refine Calls.run F Tryz.func60 ?_
 intro ac β S
 have iq:ad w0 F w0 (fc w0.heap.size) F a pa:=⟨ay,eT,fun b hb=> .inr hb⟩
 have ej:=nD a
 have fG:a.length<=4194304:=g4.le ay
 refine S.go 12 .nil fun ac w β S=>?_
 refine c8 (fun a4 ac w=>∃(i:Nat) (acc:List (List Int)) (j:Int) (af:_) (br:_) (u:_) (N:_) (β:_),a4=a.length-i/\(i<=a.length)/\(acc.length=a.length)/\(∀f,hE (acc.take i) k f=f j)/\(acc.drop i=a.drop i)/\(k<=j)/\(j<=k+16*((i:Int)+(hg (a.take i):Nat)))/\aj Tryz.prog Tryz.f60.ntmps w0 F u N β ⟨[(0,.v (R a.length af.1)),(1,.v (aa j)),(5,.v (aa (i:Int)))],[]⟩ ac w/\ad w0 F u N br acc af/\af.1=pa.1/\(∀b,br b->F b)) _ ⟨0,a,k,pa,F,_,_,_,rfl,cw,(by rfl),(by intro f;rfl),(by rfl),cw,(by simp [uw]),S.z,iq,rfl,(fun _ h=>h)⟩ ?_
 clear S iq
 rintro f4 a4 lW ac w ⟨i,acc,j,af,br,u,N,β,rfl,hi,hl,nb,mx,JQ,JR,S,aA,a9,hs⟩
 refine S.rs fun S=>?_
 have ih:=D0 mx
 have q7:=hM a i
 refine S.aI 9 .nil (decide ((i:Int)<(a.length:Int))) (fun ac w β cS gH S=>?_) (fun ac w β cS gH S=>?_)
 ·obtain⟨e7,bF,wQ,pZ⟩:=acd aA (k:=i) (show i<acc.length by omega)
  have N_:=j7 (xs:=a) (k:=i) (by omega)
  have Oa:=hM a (i+1)
  have QG:(el acc i)=el a i:=by simp only [ih]
  refine S.go 11 (.cons (eP aA.ak (l:=a.length) (k:=i) (i:=(i:Int)) (by omega) rfl (by omega) Tryz.underlying22 (by kernel_rfl)) (.cons (cj aA.ak 38 i) .nil)) fun ac w β S=>S.kc (hd:=aQ) (d:=17) bF (DH w (el acc i) (af.2 i) e7 (S.fP bF) (fun b hb=>(S.sep b (bF.sub b hb)).1) j (by omega) (by rw [QG];omega)) fun ac w N jj Wu afU S up e1 Pb ak8 XI Dp=>?_
  rw [QG] at Dp
  obtain⟨aiZ,j3⟩:=pZ _ _ _ _ up e1 Pb
  clear up aA bF wQ pZ e1 Pb
  obtain⟨xt,ti⟩:∃z,z=acc.set i Wu:=⟨_,rfl⟩
  rw [←ti] at j3
  have agm:xt.length=acc.length:=by rw [ti];exact List.length_set
  have abg:el xt i=Wu:=by rw [ti];exact dW (show i<acc.length by omega)
  have t29:xt.take i=acc.take i:=by rw [ti];exact iO
  have d30:xt.drop (i+1)=acc.drop (i+1):=by rw [ti];exact ix
  clear ti
  refine S.ge 9 (.cons (cc (i:Int) 1) .nil) f4 fun ac w β S=>lW.of (a.length-(i+1)) _ _ (by omega) ⟨i+1,xt,afU,(af.1,aiZ),br,_,_,_,rfl,?_,?_,?_,?_,?_,?_,S.z,j3,a9,hs⟩
  ·exact cK
  ·clear S;omega
  ·clear S;refine Fl (acc:=xt) (by omega) (by intro f;rw [t29];exact nb f) ?_;intro f;simp (disch:=first|omega|rfl) only [tE,tE,abg,ak8,A9,sj,si]
  ·clear S;rw [d30];exact DV mx
  ·clear S;omega
  ·clear S;omega
 refine S.bo 13 .nil [aa j] fun ac w β S=>?_
 have k6:aQ acc k=j:=by clear S;exact Fk (by omega) nb
 have hV:k<=j/\j<=k+16*((aS.aW a:Nat):Int):=by clear S;have we:=hM a i;constructor<;>omega
 exact rJ S k6 hV.1 hV.2 (by show [R _ _]=[R _ _];rw [hl,a9]) aA hs
theorem DI (w0:World) (a:List aR) (pa:aD aR) (F:au) (ay:GT.own b6 F w0 a pa) (eT:∀b,F b->b<w0.heap.size) (k:Int) (fC:0<=k) (gU:k+16*(aS.aW a:Int)<=4611686018427387904):Calls Tryz.prog 156 [R a.length pa.1,aa k].toArray w0 (og aQ F w0 pa a k):=by
 refine Calls.run F Tryz.func156 ?_
 intro ac β S
 have iq:ad w0 F w0 (fc w0.heap.size) F a pa:=⟨ay,eT,fun b hb=> .inr hb⟩
 have ej:=Wf a
 have fG:a.length<=4194304:=g4.le ay
 refine S.go 12 .nil fun ac w β S=>?_
 refine c8 (fun a4 ac w=>∃(i:Nat) (acc:List aR) (j:Int) (af:_) (br:_) (u:_) (N:_) (β:_),a4=a.length-i/\(i<=a.length)/\(acc=nQ i k++a.drop i)/\(j=k+2*(i:Int))/\aj Tryz.prog Tryz.f156.ntmps w0 F u N β ⟨[(0,.v (R a.length af.1)),(1,.v (aa j)),(5,.v (aa (i:Int)))],[]⟩ ac w/\ad w0 F u N br acc af/\af.1=pa.1/\(∀b,br b->F b)) _ ⟨0,a,k,pa,F,_,_,_,rfl,cw,(by simp [nQ]),(by simp),S.z,iq,rfl,(fun _ h=>h)⟩ ?_
 clear S iq
 rintro f4 a4 lW ac w ⟨i,acc,j,af,br,u,N,β,rfl,hi,bz,bZ,S,aA,a9,hs⟩
 refine S.rs fun S=>?_
 have gI:acc.length=a.length:=by rw [bz];simp [nQ];omega
 refine S.aI 9 .nil (decide ((i:Int)<(a.length:Int))) (fun ac w β cS gH S=>?_) (fun ac w β cS gH S=>?_)
 ·have kB:ed (el acc i):=(ae.el aA.ak i (by omega))
  refine S.go 12 (.cons (eP aA.ak (l:=a.length) (k:=i) (i:=(i:Int)) (by rw [bz];simp [nQ];omega) rfl (by omega) Tryz.underlying64 (by kernel_rfl)) .nil) fun ac w β S=>S.fQ (α:=aR) aA (t:=3) (k:=i) (j:=0) (off:=af.1.off+i*2) (v:=aa j) (y:=(⟨j,(el acc i).bg⟩:aR)) (q:=()) (fun _ _ _=>⟨ab,(show ed (⟨j,(el acc i).bg⟩:aR) from⟨(show a_ j from⟨by omega,by omega⟩),(ed.bg (d:=(el acc i)) kB)⟩),fun _ h=>False.elim h⟩) fun w N dY y3 S up bF d12 Ct wx=>?_
  have Cu:∀b,dY b->F b:=fun b h=>(Ct b h).elim (hs b) (fun h=>False.elim h)
  clear up d12 aA wx
  have Bz:(acc.set i (⟨j,(el acc i).bg⟩:aR)).length=acc.length:=List.length_set
  refine S.go 16 (.cons (cc j 1) (.cons (eP bF.ak (l:=a.length) (k:=i) (i:=(i:Int)) (by rw [List.length_set];exact(by rw [bz];simp [nQ];omega)) rfl (by omega) Tryz.underlying64 (by kernel_rfl)) .nil)) fun ac w β S=>S.zJ bF (α:=aR) (t:=3) (v:=aa (j+1)) (k:=i) (j:=1) (off:=af.1.off+i*2+1) (y:=(⟨j,(j+1)⟩:aR)) (q:=()) (Fy:=ab) (by omega) (Nat.le_of_ble_eq_true (by kernel_rfl)) (fun _ _ _=>⟨ab,(show ed (⟨j,(j+1)⟩:aR) from⟨(show a_ j from⟨by omega,by omega⟩),(show a_ (j+1) from⟨by omega,by omega⟩)⟩),fun _ h=>False.elim h⟩) (fun b _ h=>False.elim h) (fun b h=>False.elim h) (fun b h=>False.elim h) ?_ (hc:=(by rw [dW (show i<acc.length by omega)];kernel_rfl))
  clear S;intro w N ka dy S up ev d20 sR oL
  have zd:∀b,ka b->F b:=fun b h=>(sR b h).elim (Cu b) (fun h=>False.elim h)
  clear up d20 bF oL
  rw [List.set_set] at ev
  have Lc:(acc.set i (⟨j,(j+1)⟩:aR)).length=acc.length:=List.length_set
  refine S.ge 14 (.cons (cc (j+1) 1) (.cons (cc (i:Int) 1) .nil)) f4 fun ac w β S=>lW.of (a.length-(i+1)) _ _ (by omega) ⟨i+1,(acc.set i (⟨j,(j+1)⟩:aR)),((j+1)+1),(af.1,dy),ka,_,_,_,rfl,?_,?_,?_,S.z,ev,a9,zd⟩
  ·exact cK
  ·clear S;(have eW:i<acc.length:=(by omega));rw [bz,←agO (by omega) bZ];(first|rfl|(simp [yi,Int.add_assoc];done))
  ·clear S;omega
 refine S.bo 13 .nil [aa j] fun ac w β S=>?_
 have k6:aQ acc k=j:=by clear S;(have e:i=a.length:=(by omega));subst e;rw [bz,List.drop_length,List.append_nil,bZ];exact SD k (by omega) _ (by omega) id
 have hV:k<=j/\j<=k+16*((aS.aW a:Nat):Int):=by clear S;skip;constructor<;>omega
 exact rJ S k6 hV.1 hV.2 (by show [R _ _]=[R _ _];rw [gI,a9]) aA hs
theorem HK (w0:World) (a:List Bool) (pa:aD Bool) (F:au) (ay:GT.own b6 F w0 a pa) (eT:∀b,F b->b<w0.heap.size) (k:Int) (fC:0<=k) (gU:k+16*(aS.aW a:Int)<=4611686018427387904):Calls Tryz.prog 19 [R a.length pa.1,aa k].toArray w0 (og aQ F w0 pa a k):=by
 refine Calls.run F Tryz.func19 ?_
 intro ac β S
 have iq:ad w0 F w0 (fc w0.heap.size) F a pa:=⟨ay,eT,fun b hb=> .inr hb⟩
 have ej:=Wb a
 have fG:a.length<=4194304:=g4.le ay
 refine S.go 12 .nil fun ac w β S=>?_
 refine c8 (fun a4 ac w=>∃(i:Nat) (acc:List Bool) (j:Int) (af:_) (br:_) (u:_) (N:_) (β:_),a4=a.length-i/\(i<=a.length)/\(acc=ou i k++a.drop i)/\(j=k+1*(i:Int))/\aj Tryz.prog Tryz.f19.ntmps w0 F u N β ⟨[(0,.v (R a.length af.1)),(1,.v (aa j)),(5,.v (aa (i:Int)))],[]⟩ ac w/\ad w0 F u N br acc af/\af.1=pa.1/\(∀b,br b->F b)) _ ⟨0,a,k,pa,F,_,_,_,rfl,cw,(by simp [ou]),(by simp),S.z,iq,rfl,(fun _ h=>h)⟩ ?_
 clear S iq
 rintro f4 a4 lW ac w ⟨i,acc,j,af,br,u,N,β,rfl,hi,bz,bZ,S,aA,a9,hs⟩
 refine S.rs fun S=>?_
 have gI:acc.length=a.length:=by rw [bz];simp [ou];omega
 refine S.aI 9 .nil (decide ((i:Int)<(a.length:Int))) (fun ac w β cS gH S=>?_) (fun ac w β cS gH S=>?_)
 ·refine S.go 13 (.cons (o3 (x:=j) (y:=3) (by decide)) (.cons (eP aA.ak (l:=a.length) (k:=i) (i:=(i:Int)) (by rw [bz];simp [ou];omega) rfl (by omega) Tryz.underlying39 (by kernel_rfl)) .nil)) fun ac w β S=>S.fQ (α:=Bool) aA (t:=4) (k:=i) (j:=0) (off:=af.1.off+i*1) (v:=B ((Int.tmod j 3)==0)) (y:=((Int.tmod j 3)==0)) (q:=()) (fun _ _ _=>⟨ab,trivial,fun _ h=>False.elim h⟩) fun w N bV eM S up bO d11 Nw Lw=>?_
  have Nz:∀b,bV b->F b:=fun b h=>(Nw b h).elim (hs b) (fun h=>False.elim h)
  clear up d11 aA Lw
  have aga:(acc.set i ((Int.tmod j 3)==0)).length=acc.length:=List.length_set
  refine S.ge 14 (.cons (cc j 1) (.cons (cc (i:Int) 1) .nil)) f4 fun ac w β S=>lW.of (a.length-(i+1)) _ _ (by omega) ⟨i+1,(acc.set i ((Int.tmod j 3)==0)),(j+1),(af.1,eM),bV,_,_,_,rfl,?_,?_,?_,S.z,bO,a9,Nz⟩
  ·exact cK
  ·clear S;(have eW:i<acc.length:=(by omega));rw [bz,←agK (by omega) bZ];(first|rfl|(simp [ye,Int.add_assoc];done))
  ·clear S;omega
 refine S.bo 13 .nil [aa j] fun ac w β S=>?_
 have k6:aQ acc k=j:=by clear S;(have e:i=a.length:=(by omega));subst e;rw [bz,List.drop_length,List.append_nil,bZ];exact Sz k (by omega) _ (by omega) id
 have hV:k<=j/\j<=k+16*((aS.aW a:Nat):Int):=by clear S;skip;constructor<;>omega
 exact rJ S k6 hV.1 hV.2 (by show [R _ _]=[R _ _];rw [gI,a9]) aA hs
theorem Zq (w0:World) (a:List da) (pa:aD da) (F:au) (ay:GT.own b6 F w0 a pa) (eT:∀b,F b->b<w0.heap.size) (k:Int) (fC:0<=k) (gU:k+16*(aS.aW a:Int)<=4611686018427387904):Calls Tryz.prog 261 [R a.length pa.1,aa k].toArray w0 (og aQ F w0 pa a k):=by
 refine Calls.run F Tryz.func261 ?_
 intro ac β S
 have iq:ad w0 F w0 (fc w0.heap.size) F a pa:=⟨ay,eT,fun b hb=> .inr hb⟩
 have ej:=We a
 have fG:a.length<=4194304:=g4.le ay
 refine S.go 12 .nil fun ac w β S=>?_
 refine c8 (fun a4 ac w=>∃(i:Nat) (acc:List da) (j:Int) (af:_) (br:_) (u:_) (N:_) (β:_),a4=a.length-i/\(i<=a.length)/\(acc=nP i k++a.drop i)/\(j=k+2*(i:Int))/\aj Tryz.prog Tryz.f261.ntmps w0 F u N β ⟨[(0,.v (R a.length af.1)),(1,.v (aa j)),(5,.v (aa (i:Int)))],[]⟩ ac w/\ad w0 F u N br acc af/\af.1=pa.1/\(∀b,br b->F b)) _ ⟨0,a,k,pa,F,_,_,_,rfl,cw,(by simp [nP]),(by simp),S.z,iq,rfl,(fun _ h=>h)⟩ ?_
 clear S iq
 rintro f4 a4 lW ac w ⟨i,acc,j,af,br,u,N,β,rfl,hi,bz,bZ,S,aA,a9,hs⟩
 refine S.rs fun S=>?_
 have gI:acc.length=a.length:=by rw [bz];simp [nP];omega
 refine S.aI 9 .nil (decide ((i:Int)<(a.length:Int))) (fun ac w β cS gH S=>?_) (fun ac w β cS gH S=>?_)
 ·have kB:je (el acc i):=(ae.el aA.ak i (by omega))
  refine S.go 12 (.cons (eP aA.ak (l:=a.length) (k:=i) (i:=(i:Int)) (by rw [bz];simp [nP];omega) rfl (by omega) Tryz.underlying63 (by kernel_rfl)) .nil) fun ac w β S=>S.fQ (α:=da) aA (t:=3) (k:=i) (j:=0) (off:=af.1.off+i*2) (v:=aa j) (y:=(⟨j,(el acc i).x⟩:da)) (q:=()) (fun _ _ _=>⟨ab,(show je (⟨j,(el acc i).x⟩:da) from⟨(show a_ j from⟨by omega,by omega⟩),(je.x (d:=(el acc i)) kB)⟩),fun _ h=>False.elim h⟩) fun w N dY y3 S up bF d12 Ct wx=>?_
  have Cu:∀b,dY b->F b:=fun b h=>(Ct b h).elim (hs b) (fun h=>False.elim h)
  clear up d12 aA wx
  have Bz:(acc.set i (⟨j,(el acc i).x⟩:da)).length=acc.length:=List.length_set
  refine S.go 16 (.cons (cc j 1) (.cons (eP bF.ak (l:=a.length) (k:=i) (i:=(i:Int)) (by rw [List.length_set];exact(by rw [bz];simp [nP];omega)) rfl (by omega) Tryz.underlying63 (by kernel_rfl)) .nil)) fun ac w β S=>S.zJ bF (α:=da) (t:=3) (v:=aa (j+1)) (k:=i) (j:=1) (off:=af.1.off+i*2+1) (y:=(⟨j,(j+1)⟩:da)) (q:=()) (Fy:=ab) (by omega) (Nat.le_of_ble_eq_true (by kernel_rfl)) (fun _ _ _=>⟨ab,(show je (⟨j,(j+1)⟩:da) from⟨(show a_ j from⟨by omega,by omega⟩),(show a_ (j+1) from⟨by omega,by omega⟩)⟩),fun _ h=>False.elim h⟩) (fun b _ h=>False.elim h) (fun b h=>False.elim h) (fun b h=>False.elim h) ?_ (hc:=(by rw [dW (show i<acc.length by omega)];kernel_rfl))
  clear S;intro w N ka dy S up ev d20 sR oL
  have zd:∀b,ka b->F b:=fun b h=>(sR b h).elim (Cu b) (fun h=>False.elim h)
  clear up d20 bF oL
  rw [List.set_set] at ev
  have Lc:(acc.set i (⟨j,(j+1)⟩:da)).length=acc.length:=List.length_set
  refine S.ge 14 (.cons (cc (j+1) 1) (.cons (cc (i:Int) 1) .nil)) f4 fun ac w β S=>lW.of (a.length-(i+1)) _ _ (by omega) ⟨i+1,(acc.set i (⟨j,(j+1)⟩:da)),((j+1)+1),(af.1,dy),ka,_,_,_,rfl,?_,?_,?_,S.z,ev,a9,zd⟩
  ·exact cK
  ·clear S;(have eW:i<acc.length:=(by omega));rw [bz,←agM (by omega) bZ];(first|rfl|(simp [yg,Int.add_assoc];done))
  ·clear S;omega
 refine S.bo 13 .nil [aa j] fun ac w β S=>?_
 have k6:aQ acc k=j:=by clear S;(have e:i=a.length:=(by omega));subst e;rw [bz,List.drop_length,List.append_nil,bZ];exact SB k (by omega) _ (by omega) id
 have hV:k<=j/\j<=k+16*((aS.aW a:Nat):Int):=by clear S;skip;constructor<;>omega
 exact rJ S k6 hV.1 hV.2 (by show [R _ _]=[R _ _];rw [gI,a9]) aA hs
theorem Zp (w0:World) (a:List ax) (pa:aD ax) (F:au) (ay:GT.own b6 F w0 a pa) (eT:∀b,F b->b<w0.heap.size) (k:Int) (fC:0<=k) (gU:k+16*(aS.aW a:Int)<=4611686018427387904):Calls Tryz.prog 157 [R a.length pa.1,aa k].toArray w0 (og aQ F w0 pa a k):=by
 refine Calls.run F Tryz.func157 ?_
 intro ac β S
 have iq:ad w0 F w0 (fc w0.heap.size) F a pa:=⟨ay,eT,fun b hb=> .inr hb⟩
 have ej:=nD a
 have fG:a.length<=4194304:=g4.le ay
 refine S.go 12 .nil fun ac w β S=>?_
 refine c8 (fun a4 ac w=>∃(i:Nat) (acc:List ax) (j:Int) (af:_) (br:_) (u:_) (N:_) (β:_),a4=a.length-i/\(i<=a.length)/\(acc.length=a.length)/\(∀f,hE (acc.take i) k f=f j)/\(acc.drop i=a.drop i)/\(k<=j)/\(j<=k+16*((i:Int)+(hg (a.take i):Nat)))/\aj Tryz.prog Tryz.f157.ntmps w0 F u N β ⟨[(0,.v (R a.length af.1)),(1,.v (aa j)),(5,.v (aa (i:Int)))],[]⟩ ac w/\ad w0 F u N br acc af/\af.1=pa.1/\(∀b,br b->F b)) _ ⟨0,a,k,pa,F,_,_,_,rfl,cw,(by rfl),(by intro f;rfl),(by rfl),cw,(by simp [uw]),S.z,iq,rfl,(fun _ h=>h)⟩ ?_
 clear S iq
 rintro f4 a4 lW ac w ⟨i,acc,j,af,br,u,N,β,rfl,hi,hl,nb,mx,JQ,JR,S,aA,a9,hs⟩
 refine S.rs fun S=>?_
 have ih:=D0 mx
 have q7:=hM a i
 refine S.aI 9 .nil (decide ((i:Int)<(a.length:Int))) (fun ac w β cS gH S=>?_) (fun ac w β cS gH S=>?_)
 ·obtain⟨e7,bF,wQ,pZ⟩:=ab1 aA (k:=i) (show i<acc.length by omega)
  have N_:=j7 (xs:=a) (k:=i) (by omega)
  have Oa:=hM a (i+1)
  have WB:=zo (el a i)
  have th:(el acc i).prog=(el a i).prog:=by simp only [ih]
  refine S.go 13 (.cons (eP aA.ak (l:=a.length) (k:=i) (i:=(i:Int)) (by omega) rfl (by omega) Tryz.underlying71 (by kernel_rfl)) (.cons (cA aA.ak 63 i 0 (R (el acc i).prog.length (af.2 i).prog.1)) .nil)) fun ac w β S=>S.kc (hd:=aQ) (d:=18) bF (Zq w (el acc i).prog (af.2 i).prog e7 (S.fP bF) (fun b hb=>(S.sep b (bF.sub b hb)).1) j (by omega) (by rw [th];omega)) fun ac w N cv uA ni S up eA tb CZ Dp zR=>?_
  rw [th] at zR
  obtain⟨ub,dm⟩:=pZ _ _ _ _ up eA tb
  clear up aA bF wQ pZ eA tb
  obtain⟨fD,kA⟩:∃z,z=acc.set i ({el acc i with prog:=uA}):=⟨_,rfl⟩
  rw [←kA] at dm
  have T7:fD.length=acc.length:=by rw [kA];exact List.length_set
  have nL:el fD i={el acc i with prog:=uA}:=by rw [kA];exact dW (show i<acc.length by omega)
  have t30:fD.take i=acc.take i:=by rw [kA];exact iO
  have d31:fD.drop (i+1)=acc.drop (i+1):=by rw [kA];exact ix
  clear kA
  refine S.go 10 (.cons (eP dm.ak (l:=a.length) (k:=i) (i:=(i:Int)) (by omega) rfl (by omega) Tryz.underlying71 (by kernel_rfl)) .nil) fun ac w β S=>S.fQ (α:=ax) dm (t:=3) (k:=i) (j:=1) (off:=af.1.off+i*15+1) (v:=aa ni) (y:=({el fD i with acc:=ni}:ax)) (q:=((af.1,ub).2 i)) (fun G fv _=>⟨G,aiS fv (⟨by omega,by omega⟩),fun _ h=> .inl h⟩) fun w N qJ jx S up fZ d35 NH LB=>?_
  have CF:∀b,qJ b->F b:=fun b h=>(NH b h).elim (hs b) (fun h=>False.elim h)
  clear up d35 dm LB
  obtain⟨o_,xS⟩:∃z,z=fD.set i ({el fD i with acc:=ni}):=⟨_,rfl⟩
  rw [←xS] at fZ
  have apU:o_.length=fD.length:=by rw [xS];exact List.length_set
  have DX:el o_ i={el fD i with acc:=ni}:=by rw [xS];exact dW (show i<fD.length by omega)
  have t43:o_.take i=fD.take i:=by rw [xS];exact iO
  have d44:o_.drop (i+1)=fD.drop (i+1):=by rw [xS];exact ix
  clear xS
  refine S.go 16 (.cons (cc ni 1) (.cons (eP fZ.ak (l:=a.length) (k:=i) (i:=(i:Int)) (by omega) rfl (by omega) Tryz.underlying71 (by kernel_rfl)) .nil)) fun ac w β S=>S.fQ (α:=ax) fZ (t:=3) (k:=i) (j:=2) (off:=af.1.off+i*15+2) (v:=aa (ni+1)) (y:=({el o_ i with aw:=(ni+1)}:ax)) (q:=((af.1,jx).2 i)) (fun G fv _=>⟨G,aiU fv (⟨by omega,by omega⟩),fun _ h=> .inl h⟩) fun w N W1 uj S up dO d48 akd Uu=>?_
  have akf:∀b,W1 b->F b:=fun b h=>(akd b h).elim (CF b) (fun h=>False.elim h)
  clear up d48 fZ Uu
  obtain⟨mY,nM⟩:∃z,z=o_.set i ({el o_ i with aw:=(ni+1)}):=⟨_,rfl⟩
  rw [←nM] at dO
  have ap3:mY.length=o_.length:=by rw [nM];exact List.length_set
  have DY:el mY i={el o_ i with aw:=(ni+1)}:=by rw [nM];exact dW (show i<o_.length by omega)
  have t56:mY.take i=o_.take i:=by rw [nM];exact iO
  have d57:mY.drop (i+1)=o_.drop (i+1):=by rw [nM];exact ix
  clear nM
  obtain⟨ku,e8,NL,O3⟩:=ab3 dO (k:=i) (show i<mY.length by omega)
  have alA:=j7 (xs:=a) (k:=i) (by omega)
  have arn:=hM a (i+1)
  have aro:=zo (el a i)
  have DZ:(el mY i).written=(el a i).written:=by simp only [DY,DX,nL,ih]
  refine S.go 17 (.cons (cc (ni+1) 1) (.cons (eP dO.ak (l:=a.length) (k:=i) (i:=(i:Int)) (by omega) rfl (by omega) Tryz.underlying71 (by kernel_rfl)) (.cons (cA dO.ak 64 i 3 (R (el mY i).written.length ((af.1,uj).2 i).written.1)) .nil))) fun ac w β S=>S.kc (hd:=aQ) (d:=39) e8 (DI w (el mY i).written ((af.1,uj).2 i).written ku (S.fP e8) (fun b hb=>(S.sep b (e8.sub b hb)).1) ((ni+1)+1) (by omega) (by rw [DZ];omega)) fun ac w N y8 Wy af1 S up j4 Ph alf amV X6=>?_
  rw [DZ] at X6
  obtain⟨Vo,n2⟩:=O3 _ _ _ _ up j4 Ph
  clear up dO e8 NL O3 j4 Ph
  obtain⟨m0,p9⟩:∃z,z=mY.set i ({el mY i with written:=Wy}):=⟨_,rfl⟩
  rw [←p9] at n2
  have agx:m0.length=mY.length:=by rw [p9];exact List.length_set
  have Iw:el m0 i={el mY i with written:=Wy}:=by rw [p9];exact dW (show i<mY.length by omega)
  have t80:m0.take i=mY.take i:=by rw [p9];exact iO
  have d81:m0.drop (i+1)=mY.drop (i+1):=by rw [p9];exact ix
  clear p9
  obtain⟨rO,nm,NN,O5⟩:=ab0 n2 (k:=i) (show i<m0.length by omega)
  have alB:=j7 (xs:=a) (k:=i) (by omega)
  have ars:=hM a (i+1)
  have art:=zo (el a i)
  have QR:(el m0 i).live=(el a i).live:=by simp only [Iw,DY,DX,nL,ih]
  refine S.go 11 (.cons (eP n2.ak (l:=a.length) (k:=i) (i:=(i:Int)) (by omega) rfl (by omega) Tryz.underlying71 (by kernel_rfl)) (.cons (cA n2.ak 64 i 4 (R (el m0 i).live.length ((af.1,Vo).2 i).live.1)) .nil)) fun ac w β S=>S.kc (hd:=aQ) (d:=46) nm (DI w (el m0 i).live ((af.1,Vo).2 i).live rO (S.fP nm) (fun b hb=>(S.sep b (nm.sub b hb)).1) af1 (by omega) (by rw [QR];omega)) fun ac w N Cp WA eu S up gk Pk alh amZ Yb=>?_
  rw [QR] at Yb
  obtain⟨ai4,mK⟩:=O5 _ _ _ _ up gk Pk
  clear up n2 nm NN O5 gk Pk
  obtain⟨jY,qT⟩:∃z,z=m0.set i ({el m0 i with live:=WA}):=⟨_,rfl⟩
  rw [←qT] at mK
  have apj:jY.length=m0.length:=by rw [qT];exact List.length_set
  have QA:el jY i={el m0 i with live:=WA}:=by rw [qT];exact dW (show i<m0.length by omega)
  have t104:jY.take i=m0.take i:=by rw [qT];exact iO
  have d105:jY.drop (i+1)=m0.drop (i+1):=by rw [qT];exact ix
  clear qT
  refine S.go 11 (.cons (eP mK.ak (l:=a.length) (k:=i) (i:=(i:Int)) (by omega) rfl (by omega) Tryz.underlying71 (by kernel_rfl)) .nil) fun ac w β S=>S.fQ (α:=ax) mK (t:=3) (k:=i) (j:=5) (off:=af.1.off+i*15+5) (v:=aa eu) (y:=({el jY i with aN:=(⟨eu,(el jY i).aN.post,(el jY i).aN.e4⟩:fy)}:ax)) (q:=((af.1,ai4).2 i)) (fun G fv _=>⟨G,MA fv (show hz (⟨eu,(el jY i).aN.post,(el jY i).aN.e4⟩:fy) from⟨(show a_ eu from⟨by omega,by omega⟩),(hz.post (d:=(el jY i).aN) (az.aN (d:=(el jY i)) (ae.el mK.ak i (by omega))))⟩),fun _ h=> .inl h⟩) fun w N iu aja S up ri d109 ajF agV=>?_
  have ajG:∀b,iu b->F b:=fun b h=>(ajF b h).elim (akf b) (fun h=>False.elim h)
  clear up d109 mK agV
  obtain⟨jZ,xD⟩:∃z,z=jY.set i ({el jY i with aN:=(⟨eu,(el jY i).aN.post,(el jY i).aN.e4⟩:fy)}):=⟨_,rfl⟩
  rw [←xD] at ri
  have apm:jZ.length=jY.length:=by rw [xD];exact List.length_set
  have QC:el jZ i={el jY i with aN:=(⟨eu,(el jY i).aN.post,(el jY i).aN.e4⟩:fy)}:=by rw [xD];exact dW (show i<jY.length by omega)
  have t117:jZ.take i=jY.take i:=by rw [xD];exact iO
  have d118:jZ.drop (i+1)=jY.drop (i+1):=by rw [xD];exact ix
  clear xD
  refine S.go 17 (.cons (cc eu 1) (.cons (eP ri.ak (l:=a.length) (k:=i) (i:=(i:Int)) (by omega) rfl (by omega) Tryz.underlying71 (by kernel_rfl)) .nil)) fun ac w β S=>S.fQ (α:=ax) ri (t:=3) (k:=i) (j:=6) (off:=af.1.off+i*15+6) (v:=aa (eu+1)) (y:=({el jZ i with aN:=(⟨(el jZ i).aN.aY,(eu+1),(el jZ i).aN.e4⟩:fy)}:ax)) (q:=((af.1,aja).2 i)) (fun G fv _=>⟨G,MA fv (show hz (⟨(el jZ i).aN.aY,(eu+1),(el jZ i).aN.e4⟩:fy) from⟨(hz.aY (d:=(el jZ i).aN) (az.aN (d:=(el jZ i)) (ae.el ri.ak i (by omega)))),(show a_ (eu+1) from⟨by omega,by omega⟩)⟩),fun _ h=> .inl h⟩) fun w N GI ajc S up pG d122 ajH agW=>?_
  have uq:∀b,GI b->F b:=fun b h=>(ajH b h).elim (ajG b) (fun h=>False.elim h)
  clear up d122 ri agW
  obtain⟨jr,xF⟩:∃z,z=jZ.set i ({el jZ i with aN:=(⟨(el jZ i).aN.aY,(eu+1),(el jZ i).aN.e4⟩:fy)}):=⟨_,rfl⟩
  rw [←xF] at pG
  have af8:jr.length=jZ.length:=by rw [xF];exact List.length_set
  have DW:el jr i={el jZ i with aN:=(⟨(el jZ i).aN.aY,(eu+1),(el jZ i).aN.e4⟩:fy)}:=by rw [xF];exact dW (show i<jZ.length by omega)
  have t130:jr.take i=jZ.take i:=by rw [xF];exact iO
  have d131:jr.drop (i+1)=jZ.drop (i+1):=by rw [xF];exact ix
  clear xF
  refine S.go 19 (.cons (cc (eu+1) 1) (.cons (o3 (x:=((eu+1)+1)) (y:=3) (by decide)) (.cons (eP pG.ak (l:=a.length) (k:=i) (i:=(i:Int)) (by omega) rfl (by omega) Tryz.underlying71 (by kernel_rfl)) .nil))) fun ac w β S=>S.fQ (α:=ax) pG (t:=4) (k:=i) (j:=7) (off:=af.1.off+i*15+7) (v:=B ((Int.tmod ((eu+1)+1) 3)==0)) (y:=({el jr i with aN:=(⟨(el jr i).aN.aY,(el jr i).aN.post,((Int.tmod ((eu+1)+1) 3)==0)⟩:fy)}:ax)) (q:=((af.1,ajc).2 i)) (fun G fv _=>⟨G,MA fv (show hz (⟨(el jr i).aN.aY,(el jr i).aN.post,((Int.tmod ((eu+1)+1) 3)==0)⟩:fy) from⟨(hz.aY (d:=(el jr i).aN) (az.aN (d:=(el jr i)) (ae.el pG.ak i (by omega)))),(hz.post (d:=(el jr i).aN) (az.aN (d:=(el jr i)) (ae.el pG.ak i (by omega))))⟩),fun _ h=> .inl h⟩) fun w N Oi aje S up tT d135 ajJ agY=>?_
  have ajK:∀b,Oi b->F b:=fun b h=>(ajJ b h).elim (uq b) (fun h=>False.elim h)
  clear up d135 pG agY
  obtain⟨o7,xH⟩:∃z,z=jr.set i ({el jr i with aN:=(⟨(el jr i).aN.aY,(el jr i).aN.post,((Int.tmod ((eu+1)+1) 3)==0)⟩:fy)}):=⟨_,rfl⟩
  rw [←xH] at tT
  have af9:o7.length=jr.length:=by rw [xH];exact List.length_set
  have It:el o7 i={el jr i with aN:=(⟨(el jr i).aN.aY,(el jr i).aN.post,((Int.tmod ((eu+1)+1) 3)==0)⟩:fy)}:=by rw [xH];exact dW (show i<jr.length by omega)
  have t143:o7.take i=jr.take i:=by rw [xH];exact iO
  have d144:o7.drop (i+1)=jr.drop (i+1):=by rw [xH];exact ix
  clear xH
  refine S.go 16 (.cons (cc ((eu+1)+1) 1) (.cons (eP tT.ak (l:=a.length) (k:=i) (i:=(i:Int)) (by omega) rfl (by omega) Tryz.underlying71 (by kernel_rfl)) .nil)) fun ac w β S=>S.fQ (α:=ax) tT (t:=3) (k:=i) (j:=8) (off:=af.1.off+i*15+8) (v:=aa (((eu+1)+1)+1)) (y:=({el o7 i with aC:=(((eu+1)+1)+1)}:ax)) (q:=((af.1,aje).2 i)) (fun G fv _=>⟨G,aiV fv (⟨by omega,by omega⟩),fun _ h=> .inl h⟩) fun w N C7 ajh S up g0 d148 ajN ag0=>?_
  have ajO:∀b,C7 b->F b:=fun b h=>(ajN b h).elim (ajK b) (fun h=>False.elim h)
  clear up d148 tT ag0
  obtain⟨h5,xJ⟩:∃z,z=o7.set i ({el o7 i with aC:=(((eu+1)+1)+1)}):=⟨_,rfl⟩
  rw [←xJ] at g0
  have apu:h5.length=o7.length:=by rw [xJ];exact List.length_set
  have QI:el h5 i={el o7 i with aC:=(((eu+1)+1)+1)}:=by rw [xJ];exact dW (show i<o7.length by omega)
  have t156:h5.take i=o7.take i:=by rw [xJ];exact iO
  have d157:h5.drop (i+1)=o7.drop (i+1):=by rw [xJ];exact ix
  clear xJ
  refine S.go 17 (.cons (cc (((eu+1)+1)+1) 1) (.cons (eP g0.ak (l:=a.length) (k:=i) (i:=(i:Int)) (by omega) rfl (by omega) Tryz.underlying71 (by kernel_rfl)) .nil)) fun ac w β S=>S.fQ (α:=ax) g0 (t:=3) (k:=i) (j:=9) (off:=af.1.off+i*15+9) (v:=aa ((((eu+1)+1)+1)+1)) (y:=({el h5 i with exit:=(⟨((((eu+1)+1)+1)+1),(el h5 i).exit.page,(el h5 i).exit.wr,(el h5 i).exit.n⟩:dg)}:ax)) (q:=((af.1,ajh).2 i)) (fun G fv _=>⟨G,FX fv (show fL (⟨((((eu+1)+1)+1)+1),(el h5 i).exit.page,(el h5 i).exit.wr,(el h5 i).exit.n⟩:dg) from⟨(show a_ ((((eu+1)+1)+1)+1) from⟨by omega,by omega⟩),(fL.page (d:=(el h5 i).exit) (az.exit (d:=(el h5 i)) (ae.el g0.ak i (by omega)))),(fL.n (d:=(el h5 i).exit) (az.exit (d:=(el h5 i)) (ae.el g0.ak i (by omega))))⟩),fun _ h=> .inl h⟩) fun w N lH MK S up oN d161 ajQ Lx=>?_
  have ajR:∀b,lH b->F b:=fun b h=>(ajQ b h).elim (ajO b) (fun h=>False.elim h)
  clear up d161 g0 Lx
  obtain⟨h6,xK⟩:∃z,z=h5.set i ({el h5 i with exit:=(⟨((((eu+1)+1)+1)+1),(el h5 i).exit.page,(el h5 i).exit.wr,(el h5 i).exit.n⟩:dg)}):=⟨_,rfl⟩
  rw [←xK] at oN
  have apw:h6.length=h5.length:=by rw [xK];exact List.length_set
  have QK:el h6 i={el h5 i with exit:=(⟨((((eu+1)+1)+1)+1),(el h5 i).exit.page,(el h5 i).exit.wr,(el h5 i).exit.n⟩:dg)}:=by rw [xK];exact dW (show i<h5.length by omega)
  have t169:h6.take i=h5.take i:=by rw [xK];exact iO
  have d170:h6.drop (i+1)=h5.drop (i+1):=by rw [xK];exact ix
  clear xK
  refine S.go 17 (.cons (cc ((((eu+1)+1)+1)+1) 1) (.cons (eP oN.ak (l:=a.length) (k:=i) (i:=(i:Int)) (by omega) rfl (by omega) Tryz.underlying71 (by kernel_rfl)) .nil)) fun ac w β S=>S.fQ (α:=ax) oN (t:=3) (k:=i) (j:=10) (off:=af.1.off+i*15+10) (v:=aa (((((eu+1)+1)+1)+1)+1)) (y:=({el h6 i with exit:=(⟨(el h6 i).exit.kind,(((((eu+1)+1)+1)+1)+1),(el h6 i).exit.wr,(el h6 i).exit.n⟩:dg)}:ax)) (q:=((af.1,MK).2 i)) (fun G fv _=>⟨G,FX fv (show fL (⟨(el h6 i).exit.kind,(((((eu+1)+1)+1)+1)+1),(el h6 i).exit.wr,(el h6 i).exit.n⟩:dg) from⟨(fL.kind (d:=(el h6 i).exit) (az.exit (d:=(el h6 i)) (ae.el oN.ak i (by omega)))),(show a_ (((((eu+1)+1)+1)+1)+1) from⟨by omega,by omega⟩),(fL.n (d:=(el h6 i).exit) (az.exit (d:=(el h6 i)) (ae.el oN.ak i (by omega))))⟩),fun _ h=> .inl h⟩) fun w N WK ajk S up pH d174 ajT ag4=>?_
  have ajU:∀b,WK b->F b:=fun b h=>(ajT b h).elim (ajR b) (fun h=>False.elim h)
  clear up d174 oN ag4
  obtain⟨hA,xM⟩:∃z,z=h6.set i ({el h6 i with exit:=(⟨(el h6 i).exit.kind,(((((eu+1)+1)+1)+1)+1),(el h6 i).exit.wr,(el h6 i).exit.n⟩:dg)}):=⟨_,rfl⟩
  rw [←xM] at pH
  have apA:hA.length=h6.length:=by rw [xM];exact List.length_set
  have QL:el hA i={el h6 i with exit:=(⟨(el h6 i).exit.kind,(((((eu+1)+1)+1)+1)+1),(el h6 i).exit.wr,(el h6 i).exit.n⟩:dg)}:=by rw [xM];exact dW (show i<h6.length by omega)
  have t182:hA.take i=h6.take i:=by rw [xM];exact iO
  have d183:hA.drop (i+1)=h6.drop (i+1):=by rw [xM];exact ix
  clear xM
  refine S.go 19 (.cons (cc (((((eu+1)+1)+1)+1)+1) 1) (.cons (o3 (x:=((((((eu+1)+1)+1)+1)+1)+1)) (y:=3) (by decide)) (.cons (eP pH.ak (l:=a.length) (k:=i) (i:=(i:Int)) (by omega) rfl (by omega) Tryz.underlying71 (by kernel_rfl)) .nil))) fun ac w β S=>S.fQ (α:=ax) pH (t:=4) (k:=i) (j:=11) (off:=af.1.off+i*15+11) (v:=B ((Int.tmod ((((((eu+1)+1)+1)+1)+1)+1) 3)==0)) (y:=({el hA i with exit:=(⟨(el hA i).exit.kind,(el hA i).exit.page,((Int.tmod ((((((eu+1)+1)+1)+1)+1)+1) 3)==0),(el hA i).exit.n⟩:dg)}:ax)) (q:=((af.1,ajk).2 i)) (fun G fv _=>⟨G,FX fv (show fL (⟨(el hA i).exit.kind,(el hA i).exit.page,((Int.tmod ((((((eu+1)+1)+1)+1)+1)+1) 3)==0),(el hA i).exit.n⟩:dg) from⟨(fL.kind (d:=(el hA i).exit) (az.exit (d:=(el hA i)) (ae.el pH.ak i (by omega)))),(fL.page (d:=(el hA i).exit) (az.exit (d:=(el hA i)) (ae.el pH.ak i (by omega)))),(fL.n (d:=(el hA i).exit) (az.exit (d:=(el hA i)) (ae.el pH.ak i (by omega))))⟩),fun _ h=> .inl h⟩) fun w N Oo ajm S up yX d187 ajW ag8=>?_
  have ajY:∀b,Oo b->F b:=fun b h=>(ajW b h).elim (ajU b) (fun h=>False.elim h)
  clear up d187 pH ag8
  obtain⟨h7,xO⟩:∃z,z=hA.set i ({el hA i with exit:=(⟨(el hA i).exit.kind,(el hA i).exit.page,((Int.tmod ((((((eu+1)+1)+1)+1)+1)+1) 3)==0),(el hA i).exit.n⟩:dg)}):=⟨_,rfl⟩
  rw [←xO] at yX
  have apC:h7.length=hA.length:=by rw [xO];exact List.length_set
  have QM:el h7 i={el hA i with exit:=(⟨(el hA i).exit.kind,(el hA i).exit.page,((Int.tmod ((((((eu+1)+1)+1)+1)+1)+1) 3)==0),(el hA i).exit.n⟩:dg)}:=by rw [xO];exact dW (show i<hA.length by omega)
  have t195:h7.take i=hA.take i:=by rw [xO];exact iO
  have d196:h7.drop (i+1)=hA.drop (i+1):=by rw [xO];exact ix
  clear xO
  refine S.go 17 (.cons (cc ((((((eu+1)+1)+1)+1)+1)+1) 1) (.cons (eP yX.ak (l:=a.length) (k:=i) (i:=(i:Int)) (by omega) rfl (by omega) Tryz.underlying71 (by kernel_rfl)) .nil)) fun ac w β S=>S.fQ (α:=ax) yX (t:=3) (k:=i) (j:=12) (off:=af.1.off+i*15+12) (v:=aa (((((((eu+1)+1)+1)+1)+1)+1)+1)) (y:=({el h7 i with exit:=(⟨(el h7 i).exit.kind,(el h7 i).exit.page,(el h7 i).exit.wr,(((((((eu+1)+1)+1)+1)+1)+1)+1)⟩:dg)}:ax)) (q:=((af.1,ajm).2 i)) (fun G fv _=>⟨G,FX fv (show fL (⟨(el h7 i).exit.kind,(el h7 i).exit.page,(el h7 i).exit.wr,(((((((eu+1)+1)+1)+1)+1)+1)+1)⟩:dg) from⟨(fL.kind (d:=(el h7 i).exit) (az.exit (d:=(el h7 i)) (ae.el yX.ak i (by omega)))),(fL.page (d:=(el h7 i).exit) (az.exit (d:=(el h7 i)) (ae.el yX.ak i (by omega)))),(show a_ (((((((eu+1)+1)+1)+1)+1)+1)+1) from⟨by omega,by omega⟩)⟩),fun _ h=> .inl h⟩) fun w N WN ajn S up kK d200 aj0 aha=>?_
  have aj1:∀b,WN b->F b:=fun b h=>(aj0 b h).elim (ajY b) (fun h=>False.elim h)
  clear up d200 yX aha
  obtain⟨o9,xP⟩:∃z,z=h7.set i ({el h7 i with exit:=(⟨(el h7 i).exit.kind,(el h7 i).exit.page,(el h7 i).exit.wr,(((((((eu+1)+1)+1)+1)+1)+1)+1)⟩:dg)}):=⟨_,rfl⟩
  rw [←xP] at kK
  have apF:o9.length=h7.length:=by rw [xP];exact List.length_set
  have QN:el o9 i={el h7 i with exit:=(⟨(el h7 i).exit.kind,(el h7 i).exit.page,(el h7 i).exit.wr,(((((((eu+1)+1)+1)+1)+1)+1)+1)⟩:dg)}:=by rw [xP];exact dW (show i<h7.length by omega)
  have t208:o9.take i=h7.take i:=by rw [xP];exact iO
  have d209:o9.drop (i+1)=h7.drop (i+1):=by rw [xP];exact ix
  clear xP
  refine S.go 18 (.cons (cc (((((((eu+1)+1)+1)+1)+1)+1)+1) 1) (.cons (o3 (x:=((((((((eu+1)+1)+1)+1)+1)+1)+1)+1)) (y:=3) (by decide)) (.cons (eP kK.ak (l:=a.length) (k:=i) (i:=(i:Int)) (by omega) rfl (by omega) Tryz.underlying71 (by kernel_rfl)) .nil))) fun ac w β S=>S.fQ (α:=ax) kK (t:=4) (k:=i) (j:=13) (off:=af.1.off+i*15+13) (v:=B ((Int.tmod ((((((((eu+1)+1)+1)+1)+1)+1)+1)+1) 3)==0)) (y:=({el o9 i with halted:=((Int.tmod ((((((((eu+1)+1)+1)+1)+1)+1)+1)+1) 3)==0)}:ax)) (q:=((af.1,ajn).2 i)) (fun G fv _=>⟨G,aiT fv,fun _ h=> .inl h⟩) fun w N Ot VG S up BT d213 aj3 ahc=>?_
  have aj4:∀b,Ot b->F b:=fun b h=>(aj3 b h).elim (aj1 b) (fun h=>False.elim h)
  clear up d213 kK ahc
  obtain⟨mX,xQ⟩:∃z,z=o9.set i ({el o9 i with halted:=((Int.tmod ((((((((eu+1)+1)+1)+1)+1)+1)+1)+1) 3)==0)}):=⟨_,rfl⟩
  rw [←xQ] at BT
  have apH:mX.length=o9.length:=by rw [xQ];exact List.length_set
  have QO:el mX i={el o9 i with halted:=((Int.tmod ((((((((eu+1)+1)+1)+1)+1)+1)+1)+1) 3)==0)}:=by rw [xQ];exact dW (show i<o9.length by omega)
  have t221:mX.take i=o9.take i:=by rw [xQ];exact iO
  have d222:mX.drop (i+1)=o9.drop (i+1):=by rw [xQ];exact ix
  clear xQ
  obtain⟨Ou,yZ,aj5,OY⟩:=ab2 BT (k:=i) (show i<mX.length by omega)
  have arh:=j7 (xs:=a) (k:=i) (by omega)
  have ari:=hM a (i+1)
  have w8:=zo (el a i)
  have QP:(el mX i).seen=(el a i).seen:=by simp only [QO,QN,QM,QL,QK,QI,It,DW,QC,QA,Iw,DY,DX,nL,ih]
  refine S.go 16 (.cons (cc ((((((((eu+1)+1)+1)+1)+1)+1)+1)+1) 1) (.cons (eP BT.ak (l:=a.length) (k:=i) (i:=(i:Int)) (by omega) rfl (by omega) Tryz.underlying71 (by kernel_rfl)) (.cons (cA BT.ak 38 i 14 (R (el mX i).seen.length ((af.1,VG).2 i).seen.1)) .nil))) fun ac w β S=>S.kc (hd:=aQ) (d:=129) yZ (DH w (el mX i).seen ((af.1,VG).2 i).seen Ou (S.fP yZ) (fun b hb=>(S.sep b (yZ.sub b hb)).1) (((((((((eu+1)+1)+1)+1)+1)+1)+1)+1)+1) (by omega) (by rw [QP];omega)) fun ac w N i_ Ww afX S up UK Pd ak9 amJ XK=>?_
  rw [QP] at XK
  obtain⟨ai0,UM⟩:=OY _ _ _ _ up UK Pd
  clear up BT yZ aj5 OY UK Pd
  obtain⟨xr,xR⟩:∃z,z=mX.set i ({el mX i with seen:=Ww}):=⟨_,rfl⟩
  rw [←xR] at UM
  have apK:xr.length=mX.length:=by rw [xR];exact List.length_set
  have abf:el xr i={el mX i with seen:=Ww}:=by rw [xR];exact dW (show i<mX.length by omega)
  have t245:xr.take i=mX.take i:=by rw [xR];exact iO
  have d246:xr.drop (i+1)=mX.drop (i+1):=by rw [xR];exact ix
  clear xR
  refine S.ge 9 (.cons (cc (i:Int) 1) .nil) f4 fun ac w β S=>lW.of (a.length-(i+1)) _ _ (by omega) ⟨i+1,xr,afX,(af.1,ai0),Ot,_,_,_,rfl,?_,?_,?_,?_,?_,?_,S.z,UM,a9,aj4⟩
  ·exact cK
  ·clear S;omega
  ·clear S;refine Fl (acc:=xr) (by omega) (by intro f;rw [t245,t221,t208,t195,t182,t169,t156,t143,t130,t117,t104,t80,t56,t43,t30];exact nb f) ?_;intro f;simp (disch:=first|omega|rfl) only [tE,Er,abf,QO,QN,QM,QL,QK,QI,It,DW,QC,QA,Iw,DY,DX,nL,CZ,alf,alh,ak9,A9,sj,si]
  ·clear S;rw [d246,d222,d209,d196,d183,d170,d157,d144,d131,d118,d105,d81,d57,d44,d31];exact DV mx
  ·clear S;omega
  ·clear S;omega
 refine S.bo 13 .nil [aa j] fun ac w β S=>?_
 have k6:aQ acc k=j:=by clear S;exact Fk (by omega) nb
 have hV:k<=j/\j<=k+16*((aS.aW a:Nat):Int):=by clear S;have we:=hM a i;constructor<;>omega
 exact rJ S k6 hV.1 hV.2 (by show [R _ _]=[R _ _];rw [hl,a9]) aA hs
theorem Zr (w0:World) (a:List bS) (pa:aD bS) (F:au) (ay:GT.own b6 F w0 a pa) (eT:∀b,F b->b<w0.heap.size) (k:Int) (fC:0<=k) (gU:k+16*(aS.aW a:Int)<=4611686018427387904):Calls Tryz.prog 158 [R a.length pa.1,aa k].toArray w0 (og aQ F w0 pa a k):=by
 refine Calls.run F Tryz.func158 ?_
 intro ac β S
 have iq:ad w0 F w0 (fc w0.heap.size) F a pa:=⟨ay,eT,fun b hb=> .inr hb⟩
 have ej:=nD a
 have fG:a.length<=4194304:=g4.le ay
 refine S.go 12 .nil fun ac w β S=>?_
 refine c8 (fun a4 ac w=>∃(i:Nat) (acc:List bS) (j:Int) (af:_) (br:_) (u:_) (N:_) (β:_),a4=a.length-i/\(i<=a.length)/\(acc.length=a.length)/\(∀f,hE (acc.take i) k f=f j)/\(acc.drop i=a.drop i)/\(k<=j)/\(j<=k+16*((i:Int)+(hg (a.take i):Nat)))/\aj Tryz.prog Tryz.f158.ntmps w0 F u N β ⟨[(0,.v (R a.length af.1)),(1,.v (aa j)),(5,.v (aa (i:Int)))],[]⟩ ac w/\ad w0 F u N br acc af/\af.1=pa.1/\(∀b,br b->F b)) _ ⟨0,a,k,pa,F,_,_,_,rfl,cw,(by rfl),(by intro f;rfl),(by rfl),cw,(by simp [uw]),S.z,iq,rfl,(fun _ h=>h)⟩ ?_
 clear S iq
 rintro f4 a4 lW ac w ⟨i,acc,j,af,br,u,N,β,rfl,hi,hl,nb,mx,JQ,JR,S,aA,a9,hs⟩
 refine S.rs fun S=>?_
 have ih:=D0 mx
 have q7:=hM a i
 refine S.aI 9 .nil (decide ((i:Int)<(a.length:Int))) (fun ac w β cS gH S=>?_) (fun ac w β cS gH S=>?_)
 ·obtain⟨e7,bF,wQ,pZ⟩:=ab4 aA (k:=i) (show i<acc.length by omega)
  have N_:=j7 (xs:=a) (k:=i) (by omega)
  have Oa:=hM a (i+1)
  have WB:=Gu (el a i)
  have th:(el acc i).known=(el a i).known:=by simp only [ih]
  refine S.go 13 (.cons (eP aA.ak (l:=a.length) (k:=i) (i:=(i:Int)) (by omega) rfl (by omega) Tryz.underlying72 (by kernel_rfl)) (.cons (cA aA.ak 39 i 0 (R (el acc i).known.length (af.2 i).known.1)) .nil)) fun ac w β S=>S.kc (hd:=aQ) (d:=18) bF (HK w (el acc i).known (af.2 i).known e7 (S.fP bF) (fun b hb=>(S.sep b (bF.sub b hb)).1) j (by omega) (by rw [th];omega)) fun ac w N cv uA ni S up eA tb CZ Dp zR=>?_
  rw [th] at zR
  obtain⟨ub,dm⟩:=pZ _ _ _ _ up eA tb
  clear up aA bF wQ pZ eA tb
  obtain⟨fD,kA⟩:∃z,z=acc.set i ({el acc i with known:=uA}):=⟨_,rfl⟩
  rw [←kA] at dm
  have T7:fD.length=acc.length:=by rw [kA];exact List.length_set
  have nL:el fD i={el acc i with known:=uA}:=by rw [kA];exact dW (show i<acc.length by omega)
  have t30:fD.take i=acc.take i:=by rw [kA];exact iO
  have d31:fD.drop (i+1)=acc.drop (i+1):=by rw [kA];exact ix
  clear kA
  obtain⟨mR,gz,NG,zS⟩:=ab5 dm (k:=i) (show i<fD.length by omega)
  have alw:=j7 (xs:=a) (k:=i) (by omega)
  have alx:=hM a (i+1)
  have aly:=Gu (el a i)
  have Ak:(el fD i).aZ=(el a i).aZ:=by simp only [nL,ih]
  refine S.go 10 (.cons (eP dm.ak (l:=a.length) (k:=i) (i:=(i:Int)) (by omega) rfl (by omega) Tryz.underlying72 (by kernel_rfl)) (.cons (cA dm.ak 64 i 1 (R (el fD i).aZ.length ((af.1,ub).2 i).aZ.1)) .nil)) fun ac w β S=>S.kc (hd:=aQ) (d:=25) gz (DI w (el fD i).aZ ((af.1,ub).2 i).aZ mR (S.fP gz) (fun b hb=>(S.sep b (gz.sub b hb)).1) ni (by omega) (by rw [Ak];omega)) fun ac w N y6 C0 La S up k7 zW N5 X0 xw=>?_
  rw [Ak] at xw
  obtain⟨F0,ht⟩:=zS _ _ _ _ up k7 zW
  clear up dm gz NG zS k7 zW
  obtain⟨j0,oq⟩:∃z,z=fD.set i ({el fD i with aZ:=C0}):=⟨_,rfl⟩
  rw [←oq] at ht
  have ags:j0.length=fD.length:=by rw [oq];exact List.length_set
  have nM:el j0 i={el fD i with aZ:=C0}:=by rw [oq];exact dW (show i<fD.length by omega)
  have t54:j0.take i=fD.take i:=by rw [oq];exact iO
  have d55:j0.drop (i+1)=fD.drop (i+1):=by rw [oq];exact ix
  clear oq
  refine S.ge 9 (.cons (cc (i:Int) 1) .nil) f4 fun ac w β S=>lW.of (a.length-(i+1)) _ _ (by omega) ⟨i+1,j0,La,(af.1,F0),br,_,_,_,rfl,?_,?_,?_,?_,?_,?_,S.z,ht,a9,hs⟩
  ·exact cK
  ·clear S;omega
  ·clear S;refine Fl (acc:=j0) (by omega) (by intro f;rw [t54,t30];exact nb f) ?_;intro f;simp (disch:=first|omega|rfl) only [tE,Eu,nM,nL,CZ,N5,A9,sj,si]
  ·clear S;rw [d55,d31];exact DV mx
  ·clear S;omega
  ·clear S;omega
 refine S.bo 13 .nil [aa j] fun ac w β S=>?_
 have k6:aQ acc k=j:=by clear S;exact Fk (by omega) nb
 have hV:k<=j/\j<=k+16*((aS.aW a:Nat):Int):=by clear S;have we:=hM a i;constructor<;>omega
 exact rJ S k6 hV.1 hV.2 (by show [R _ _]=[R _ _];rw [hl,a9]) aA hs
theorem Zs (w0:World) (a:List aO) (pa:aD aO) (F:au) (ay:GT.own b6 F w0 a pa) (eT:∀b,F b->b<w0.heap.size) (k:Int) (fC:0<=k) (gU:k+16*(aS.aW a:Int)<=4611686018427387904):Calls Tryz.prog 61 [R a.length pa.1,aa k].toArray w0 (og aQ F w0 pa a k):=by
 refine Calls.run F Tryz.func61 ?_
 intro ac β S
 have iq:ad w0 F w0 (fc w0.heap.size) F a pa:=⟨ay,eT,fun b hb=> .inr hb⟩
 have ej:=nD a
 have fG:a.length<=4194304:=g4.le ay
 refine S.go 12 .nil fun ac w β S=>?_
 refine c8 (fun a4 ac w=>∃(i:Nat) (acc:List aO) (j:Int) (af:_) (br:_) (u:_) (N:_) (β:_),a4=a.length-i/\(i<=a.length)/\(acc.length=a.length)/\(∀f,hE (acc.take i) k f=f j)/\(acc.drop i=a.drop i)/\(k<=j)/\(j<=k+16*((i:Int)+(hg (a.take i):Nat)))/\aj Tryz.prog Tryz.f61.ntmps w0 F u N β ⟨[(0,.v (R a.length af.1)),(1,.v (aa j)),(5,.v (aa (i:Int)))],[]⟩ ac w/\ad w0 F u N br acc af/\af.1=pa.1/\(∀b,br b->F b)) _ ⟨0,a,k,pa,F,_,_,_,rfl,cw,(by rfl),(by intro f;rfl),(by rfl),cw,(by simp [uw]),S.z,iq,rfl,(fun _ h=>h)⟩ ?_
 clear S iq
 rintro f4 a4 lW ac w ⟨i,acc,j,af,br,u,N,β,rfl,hi,hl,nb,mx,JQ,JR,S,aA,a9,hs⟩
 refine S.rs fun S=>?_
 have ih:=D0 mx
 have q7:=hM a i
 refine S.aI 9 .nil (decide ((i:Int)<(a.length:Int))) (fun ac w β cS gH S=>?_) (fun ac w β cS gH S=>?_)
 ·obtain⟨e7,bF,wQ,pZ⟩:=ab9 aA (k:=i) (show i<acc.length by omega)
  have N_:=j7 (xs:=a) (k:=i) (by omega)
  have Oa:=hM a (i+1)
  have WB:=uv (el a i)
  have th:(el acc i).outer=(el a i).outer:=by simp only [ih]
  refine S.go 13 (.cons (eP aA.ak (l:=a.length) (k:=i) (i:=(i:Int)) (by omega) rfl (by omega) Tryz.underlying28 (by kernel_rfl)) (.cons (cA aA.ak 64 i 0 (R (el acc i).outer.length (af.2 i).outer.1)) .nil)) fun ac w β S=>S.kc (hd:=aQ) (d:=18) bF (DI w (el acc i).outer (af.2 i).outer e7 (S.fP bF) (fun b hb=>(S.sep b (bF.sub b hb)).1) j (by omega) (by rw [th];omega)) fun ac w N cv uA ni S up eA tb CZ Dp zR=>?_
  rw [th] at zR
  obtain⟨ub,dm⟩:=pZ _ _ _ _ up eA tb
  clear up aA bF wQ pZ eA tb
  obtain⟨fD,kA⟩:∃z,z=acc.set i ({el acc i with outer:=uA}):=⟨_,rfl⟩
  rw [←kA] at dm
  have T7:fD.length=acc.length:=by rw [kA];exact List.length_set
  have nL:el fD i={el acc i with outer:=uA}:=by rw [kA];exact dW (show i<acc.length by omega)
  have t30:fD.take i=acc.take i:=by rw [kA];exact iO
  have d31:fD.drop (i+1)=acc.drop (i+1):=by rw [kA];exact ix
  clear kA
  obtain⟨mR,gz,NG,zS⟩:=ab8 dm (k:=i) (show i<fD.length by omega)
  have alw:=j7 (xs:=a) (k:=i) (by omega)
  have alx:=hM a (i+1)
  have aly:=uv (el a i)
  have Ak:(el fD i).out=(el a i).out:=by simp only [nL,ih]
  refine S.go 11 (.cons (eP dm.ak (l:=a.length) (k:=i) (i:=(i:Int)) (by omega) rfl (by omega) Tryz.underlying28 (by kernel_rfl)) (.cons (cA dm.ak 22 i 1 (R (el fD i).out.length ((af.1,ub).2 i).out.1)) .nil)) fun ac w β S=>S.kc (hd:=aQ) (d:=25) gz (PV w (el fD i).out ((af.1,ub).2 i).out mR (S.fP gz) (fun b hb=>(S.sep b (gz.sub b hb)).1) ni (by omega) (by rw [Ak];omega)) fun ac w N y6 C0 La S up k7 zW N5 X0 xw=>?_
  rw [Ak] at xw
  obtain⟨F0,ht⟩:=zS _ _ _ _ up k7 zW
  clear up dm gz NG zS k7 zW
  obtain⟨j0,oq⟩:∃z,z=fD.set i ({el fD i with out:=C0}):=⟨_,rfl⟩
  rw [←oq] at ht
  have ags:j0.length=fD.length:=by rw [oq];exact List.length_set
  have nM:el j0 i={el fD i with out:=C0}:=by rw [oq];exact dW (show i<fD.length by omega)
  have t54:j0.take i=fD.take i:=by rw [oq];exact iO
  have d55:j0.drop (i+1)=fD.drop (i+1):=by rw [oq];exact ix
  clear oq
  obtain⟨kb,nk,akh,O2⟩:=ab6 ht (k:=i) (show i<j0.length by omega)
  have ark:=j7 (xs:=a) (k:=i) (by omega)
  have arl:=hM a (i+1)
  have alA:=uv (el a i)
  have QQ:(el j0 i).aT=(el a i).aT:=by simp only [nM,nL,ih]
  refine S.go 11 (.cons (eP ht.ak (l:=a.length) (k:=i) (i:=(i:Int)) (by omega) rfl (by omega) Tryz.underlying28 (by kernel_rfl)) (.cons (cA ht.ak 39 i 2 (R (el j0 i).aT.length ((af.1,F0).2 i).aT.1)) .nil)) fun ac w β S=>S.kc (hd:=aQ) (d:=32) nk (HK w (el j0 i).aT ((af.1,F0).2 i).aT kb (S.fP nk) (fun b hb=>(S.sep b (nk.sub b hb)).1) La (by omega) (by rw [QQ];omega)) fun ac w N Cl Wx af0 S up sH Pg ale amU X5=>?_
  rw [QQ] at X5
  obtain⟨Vn,hJ⟩:=O2 _ _ _ _ up sH Pg
  clear up ht nk akh O2 sH Pg
  obtain⟨mZ,xU⟩:∃z,z=j0.set i ({el j0 i with aT:=Wx}):=⟨_,rfl⟩
  rw [←xU] at hJ
  have agw:mZ.length=j0.length:=by rw [xU];exact List.length_set
  have p9:el mZ i={el j0 i with aT:=Wx}:=by rw [xU];exact dW (show i<j0.length by omega)
  have t78:mZ.take i=j0.take i:=by rw [xU];exact iO
  have d79:mZ.drop (i+1)=j0.drop (i+1):=by rw [xU];exact ix
  clear xU
  obtain⟨zC,n3,NM,O4⟩:=ab7 hJ (k:=i) (show i<mZ.length by omega)
  have arp:=j7 (xs:=a) (k:=i) (by omega)
  have arq:=hM a (i+1)
  have alB:=uv (el a i)
  have Ix:(el mZ i).U=(el a i).U:=by simp only [p9,nM,nL,ih]
  refine S.go 11 (.cons (eP hJ.ak (l:=a.length) (k:=i) (i:=(i:Int)) (by omega) rfl (by omega) Tryz.underlying28 (by kernel_rfl)) (.cons (cA hJ.ak 71 i 3 (R (el mZ i).U.length ((af.1,Vn).2 i).U.1)) .nil)) fun ac w β S=>S.kc (hd:=aQ) (d:=39) n3 (Zp w (el mZ i).U ((af.1,Vn).2 i).U zC (S.fP n3) (fun b hb=>(S.sep b (n3.sub b hb)).1) af0 (by omega) (by rw [Ix];omega)) fun ac w N kT Wz af2 S up nn Pj alg amY Ya=>?_
  rw [Ix] at Ya
  obtain⟨Vr,B7⟩:=O4 _ _ _ _ up nn Pj
  clear up hJ n3 NM O4 nn Pj
  obtain⟨m1,xV⟩:∃z,z=mZ.set i ({el mZ i with U:=Wz}):=⟨_,rfl⟩
  rw [←xV] at B7
  have api:m1.length=mZ.length:=by rw [xV];exact List.length_set
  have qT:el m1 i={el mZ i with U:=Wz}:=by rw [xV];exact dW (show i<mZ.length by omega)
  have t102:m1.take i=mZ.take i:=by rw [xV];exact iO
  have d103:m1.drop (i+1)=mZ.drop (i+1):=by rw [xV];exact ix
  clear xV
  obtain⟨iQ,n0,ajE,OV⟩:=ab_ B7 (k:=i) (show i<m1.length by omega)
  have aq8:=j7 (xs:=a) (k:=i) (by omega)
  have aq9:=hM a (i+1)
  have aq_:=uv (el a i)
  have QB:(el m1 i).outs=(el a i).outs:=by simp only [qT,p9,nM,nL,ih]
  refine S.go 11 (.cons (eP B7.ak (l:=a.length) (k:=i) (i:=(i:Int)) (by omega) rfl (by omega) Tryz.underlying28 (by kernel_rfl)) (.cons (cA B7.ak 38 i 4 (R (el m1 i).outs.length ((af.1,Vr).2 i).outs.1)) .nil)) fun ac w β S=>S.kc (hd:=aQ) (d:=46) n0 (DH w (el m1 i).outs ((af.1,Vr).2 i).outs iQ (S.fP n0) (fun b hb=>(S.sep b (n0.sub b hb)).1) af2 (by omega) (by rw [QB];omega)) fun ac w N Vx Wt qs S up jL O9 ak6 amv Xz=>?_
  rw [QB] at Xz
  obtain⟨FY,sB⟩:=OV _ _ _ _ up jL O9
  clear up B7 n0 ajE OV jL O9
  obtain⟨o5,xE⟩:∃z,z=m1.set i ({el m1 i with outs:=Wt}):=⟨_,rfl⟩
  rw [←xE] at sB
  have apn:o5.length=m1.length:=by rw [xE];exact List.length_set
  have QE:el o5 i={el m1 i with outs:=Wt}:=by rw [xE];exact dW (show i<m1.length by omega)
  have t126:o5.take i=m1.take i:=by rw [xE];exact iO
  have d127:o5.drop (i+1)=m1.drop (i+1):=by rw [xE];exact ix
  clear xE
  refine S.go 10 (.cons (eP sB.ak (l:=a.length) (k:=i) (i:=(i:Int)) (by omega) rfl (by omega) Tryz.underlying28 (by kernel_rfl)) .nil) fun ac w β S=>S.fQ (α:=aO) sB (t:=3) (k:=i) (j:=5) (off:=af.1.off+i*9+5) (v:=aa qs) (y:=({el o5 i with aC:=qs}:aO)) (q:=((af.1,FY).2 i)) (fun G fv _=>⟨G,aiW fv (⟨by omega,by omega⟩),fun _ h=> .inl h⟩) fun w N zx F5 S up wB d131 Nx Fo=>?_
  have Ny:∀b,zx b->F b:=fun b h=>(Nx b h).elim (hs b) (fun h=>False.elim h)
  clear up d131 sB Fo
  obtain⟨o6,xG⟩:∃z,z=o5.set i ({el o5 i with aC:=qs}):=⟨_,rfl⟩
  rw [←xG] at wB
  have aps:o6.length=o5.length:=by rw [xG];exact List.length_set
  have QF:el o6 i={el o5 i with aC:=qs}:=by rw [xG];exact dW (show i<o5.length by omega)
  have t139:o6.take i=o5.take i:=by rw [xG];exact iO
  have d140:o6.drop (i+1)=o5.drop (i+1):=by rw [xG];exact ix
  clear xG
  refine S.go 16 (.cons (cc qs 1) (.cons (eP wB.ak (l:=a.length) (k:=i) (i:=(i:Int)) (by omega) rfl (by omega) Tryz.underlying28 (by kernel_rfl)) .nil)) fun ac w β S=>S.fQ (α:=aO) wB (t:=3) (k:=i) (j:=6) (off:=af.1.off+i*9+6) (v:=aa (qs+1)) (y:=({el o6 i with aY:=(qs+1)}:aO)) (q:=((af.1,F5).2 i)) (fun G fv _=>⟨G,aiX fv (⟨by omega,by omega⟩),fun _ h=> .inl h⟩) fun w N GJ fw S up sD d144 ajL agZ=>?_
  have ajM:∀b,GJ b->F b:=fun b h=>(ajL b h).elim (Ny b) (fun h=>False.elim h)
  clear up d144 wB agZ
  obtain⟨mW,xI⟩:∃z,z=o6.set i ({el o6 i with aY:=(qs+1)}):=⟨_,rfl⟩
  rw [←xI] at sD
  have agb:mW.length=o6.length:=by rw [xI];exact List.length_set
  have QH:el mW i={el o6 i with aY:=(qs+1)}:=by rw [xI];exact dW (show i<o6.length by omega)
  have t152:mW.take i=o6.take i:=by rw [xI];exact iO
  have d153:mW.drop (i+1)=o6.drop (i+1):=by rw [xI];exact ix
  clear xI
  obtain⟨WH,jg,NA,OW⟩:=aca sD (k:=i) (show i<mW.length by omega)
  have ard:=j7 (xs:=a) (k:=i) (by omega)
  have are:=hM a (i+1)
  have arf:=uv (el a i)
  have QJ:(el mW i).tables=(el a i).tables:=by simp only [QH,QF,QE,qT,p9,nM,nL,ih]
  refine S.go 17 (.cons (cc (qs+1) 1) (.cons (eP sD.ak (l:=a.length) (k:=i) (i:=(i:Int)) (by omega) rfl (by omega) Tryz.underlying28 (by kernel_rfl)) (.cons (cA sD.ak 72 i 7 (R (el mW i).tables.length ((af.1,fw).2 i).tables.1)) .nil))) fun ac w β S=>S.kc (hd:=aQ) (d:=67) jg (Zr w (el mW i).tables ((af.1,fw).2 i).tables WH (S.fP jg) (fun b hb=>(S.sep b (jg.sub b hb)).1) ((qs+1)+1) (by omega) (by rw [QJ];omega)) fun ac w N aqv Wv yT S up sE Pa ak7 amD XG=>?_
  rw [QJ] at XG
  obtain⟨aiY,pH⟩:=OW _ _ _ _ up sE Pa
  clear up sD jg NA OW sE Pa
  obtain⟨o8,xL⟩:∃z,z=mW.set i ({el mW i with tables:=Wv}):=⟨_,rfl⟩
  rw [←xL] at pH
  have apy:o8.length=mW.length:=by rw [xL];exact List.length_set
  have abb:el o8 i={el mW i with tables:=Wv}:=by rw [xL];exact dW (show i<mW.length by omega)
  have t176:o8.take i=mW.take i:=by rw [xL];exact iO
  have d177:o8.drop (i+1)=mW.drop (i+1):=by rw [xL];exact ix
  clear xL
  refine S.go 10 (.cons (eP pH.ak (l:=a.length) (k:=i) (i:=(i:Int)) (by omega) rfl (by omega) Tryz.underlying28 (by kernel_rfl)) .nil) fun ac w β S=>S.fQ (α:=aO) pH (t:=3) (k:=i) (j:=8) (off:=af.1.off+i*9+8) (v:=aa yT) (y:=({el o8 i with owned:=yT}:aO)) (q:=((af.1,aiY).2 i)) (fun G fv _=>⟨G,MB fv (⟨by omega,by omega⟩),fun _ h=> .inl h⟩) fun w N On ajl S up UH d181 ajV ag6=>?_
  have NC:∀b,On b->F b:=fun b h=>(ajV b h).elim (ajM b) (fun h=>False.elim h)
  clear up d181 pH ag6
  obtain⟨xq,xN⟩:∃z,z=o8.set i ({el o8 i with owned:=yT}):=⟨_,rfl⟩
  rw [←xN] at UH
  have apB:xq.length=o8.length:=by rw [xN];exact List.length_set
  have abc:el xq i={el o8 i with owned:=yT}:=by rw [xN];exact dW (show i<o8.length by omega)
  have t189:xq.take i=o8.take i:=by rw [xN];exact iO
  have d190:xq.drop (i+1)=o8.drop (i+1):=by rw [xN];exact ix
  clear xN
  refine S.ge 14 (.cons (cc yT 1) (.cons (cc (i:Int) 1) .nil)) f4 fun ac w β S=>lW.of (a.length-(i+1)) _ _ (by omega) ⟨i+1,xq,(yT+1),(af.1,ajl),On,_,_,_,rfl,?_,?_,?_,?_,?_,?_,S.z,UH,a9,NC⟩
  ·exact cK
  ·clear S;omega
  ·clear S;refine Fl (acc:=xq) (by omega) (by intro f;rw [t189,t176,t152,t139,t126,t102,t78,t54,t30];exact nb f) ?_;intro f;simp (disch:=first|omega|rfl) only [tE,Ev,abc,abb,QH,QF,QE,qT,p9,nM,nL,CZ,N5,ale,alg,ak6,ak7,A9,sj,si]
  ·clear S;rw [d190,d177,d153,d140,d127,d103,d79,d55,d31];exact DV mx
  ·clear S;omega
  ·clear S;omega
 refine S.bo 13 .nil [aa j] fun ac w β S=>?_
 have k6:aQ acc k=j:=by clear S;exact Fk (by omega) nb
 have hV:k<=j/\j<=k+16*((aS.aW a:Nat):Int):=by clear S;have we:=hM a i;constructor<;>omega
 exact rJ S k6 hV.1 hV.2 (by show [R _ _]=[R _ _];rw [hl,a9]) aA hs
theorem PT (w0:World) (a:List aH) (pa:aD aH) (F:au) (ay:GT.own b6 F w0 a pa) (eT:∀b,F b->b<w0.heap.size) (k:Int) (fC:0<=k) (gU:k+16*(aS.aW a:Int)<=4611686018427387904):Calls Tryz.prog 62 [R a.length pa.1,aa k].toArray w0 (og aQ F w0 pa a k):=by
 refine Calls.run F Tryz.func62 ?_
 intro ac β S
 have iq:ad w0 F w0 (fc w0.heap.size) F a pa:=⟨ay,eT,fun b hb=> .inr hb⟩
 have ej:=Wd a
 have fG:a.length<=4194304:=g4.le ay
 refine S.go 12 .nil fun ac w β S=>?_
 refine c8 (fun a4 ac w=>∃(i:Nat) (acc:List aH) (j:Int) (af:_) (br:_) (u:_) (N:_) (β:_),a4=a.length-i/\(i<=a.length)/\(acc=mo i k++a.drop i)/\(j=k+4*(i:Int))/\aj Tryz.prog Tryz.f62.ntmps w0 F u N β ⟨[(0,.v (R a.length af.1)),(1,.v (aa j)),(5,.v (aa (i:Int)))],[]⟩ ac w/\ad w0 F u N br acc af/\af.1=pa.1/\(∀b,br b->F b)) _ ⟨0,a,k,pa,F,_,_,_,rfl,cw,(by simp [mo]),(by simp),S.z,iq,rfl,(fun _ h=>h)⟩ ?_
 clear S iq
 rintro f4 a4 lW ac w ⟨i,acc,j,af,br,u,N,β,rfl,hi,bz,bZ,S,aA,a9,hs⟩
 refine S.rs fun S=>?_
 have gI:acc.length=a.length:=by rw [bz];simp [mo];omega
 refine S.aI 9 .nil (decide ((i:Int)<(a.length:Int))) (fun ac w β cS gH S=>?_) (fun ac w β cS gH S=>?_)
 ·have kB:fi (el acc i):=(ae.el aA.ak i (by omega))
  refine S.go 12 (.cons (eP aA.ak (l:=a.length) (k:=i) (i:=(i:Int)) (by rw [bz];simp [mo];omega) rfl (by omega) Tryz.underlying29 (by kernel_rfl)) .nil) fun ac w β S=>S.fQ (α:=aH) aA (t:=3) (k:=i) (j:=0) (off:=af.1.off+i*4) (v:=aa j) (y:=(⟨j,(el acc i).page,(el acc i).host,(el acc i).bg⟩:aH)) (q:=()) (fun _ _ _=>⟨ab,(show fi (⟨j,(el acc i).page,(el acc i).host,(el acc i).bg⟩:aH) from⟨(show a_ j from⟨by omega,by omega⟩),(fi.page (d:=(el acc i)) kB),(fi.host (d:=(el acc i)) kB),(fi.bg (d:=(el acc i)) kB)⟩),fun _ h=>False.elim h⟩) fun w N dY y3 S up bF d12 Ct wx=>?_
  have Cu:∀b,dY b->F b:=fun b h=>(Ct b h).elim (hs b) (fun h=>False.elim h)
  clear up d12 aA wx
  have Bz:(acc.set i (⟨j,(el acc i).page,(el acc i).host,(el acc i).bg⟩:aH)).length=acc.length:=List.length_set
  refine S.go 16 (.cons (cc j 1) (.cons (eP bF.ak (l:=a.length) (k:=i) (i:=(i:Int)) (by rw [List.length_set];exact(by rw [bz];simp [mo];omega)) rfl (by omega) Tryz.underlying29 (by kernel_rfl)) .nil)) fun ac w β S=>S.zJ bF (α:=aH) (t:=3) (v:=aa (j+1)) (k:=i) (j:=1) (off:=af.1.off+i*4+1) (y:=(⟨j,(j+1),(el acc i).host,(el acc i).bg⟩:aH)) (q:=()) (Fy:=ab) (by omega) (Nat.le_of_ble_eq_true (by kernel_rfl)) (fun _ _ _=>⟨ab,(show fi (⟨j,(j+1),(el acc i).host,(el acc i).bg⟩:aH) from⟨(show a_ j from⟨by omega,by omega⟩),(show a_ (j+1) from⟨by omega,by omega⟩),(fi.host (d:=(el acc i)) kB),(fi.bg (d:=(el acc i)) kB)⟩),fun _ h=>False.elim h⟩) (fun b _ h=>False.elim h) (fun b h=>False.elim h) (fun b h=>False.elim h) ?_ (hc:=(by rw [dW (show i<acc.length by omega)];kernel_rfl))
  clear S;intro w N ka dy S up ev d20 sR oL
  have zd:∀b,ka b->F b:=fun b h=>(sR b h).elim (Cu b) (fun h=>False.elim h)
  clear up d20 bF oL
  rw [List.set_set] at ev
  have Lc:(acc.set i (⟨j,(j+1),(el acc i).host,(el acc i).bg⟩:aH)).length=acc.length:=List.length_set
  refine S.go 16 (.cons (cc (j+1) 1) (.cons (eP ev.ak (l:=a.length) (k:=i) (i:=(i:Int)) (by rw [List.length_set];exact(by rw [bz];simp [mo];omega)) rfl (by omega) Tryz.underlying29 (by kernel_rfl)) .nil)) fun ac w β S=>S.zJ ev (α:=aH) (t:=3) (v:=aa ((j+1)+1)) (k:=i) (j:=2) (off:=af.1.off+i*4+2) (y:=(⟨j,(j+1),((j+1)+1),(el acc i).bg⟩:aH)) (q:=()) (Fy:=ab) (by omega) (Nat.le_of_ble_eq_true (by kernel_rfl)) (fun _ _ _=>⟨ab,(show fi (⟨j,(j+1),((j+1)+1),(el acc i).bg⟩:aH) from⟨(show a_ j from⟨by omega,by omega⟩),(show a_ (j+1) from⟨by omega,by omega⟩),(show a_ ((j+1)+1) from⟨by omega,by omega⟩),(fi.bg (d:=(el acc i)) kB)⟩),fun _ h=>False.elim h⟩) (fun b _ h=>False.elim h) (fun b h=>False.elim h) (fun b h=>False.elim h) ?_ (hc:=(by rw [dW (show i<acc.length by omega)];kernel_rfl))
  clear S;intro w N lI e9 S up dm d28 NF BE
  have CE:∀b,lI b->F b:=fun b h=>(NF b h).elim (zd b) (fun h=>False.elim h)
  clear up d28 ev BE
  rw [List.set_set] at dm
  have Le:(acc.set i (⟨j,(j+1),((j+1)+1),(el acc i).bg⟩:aH)).length=acc.length:=List.length_set
  refine S.go 16 (.cons (cc ((j+1)+1) 1) (.cons (eP dm.ak (l:=a.length) (k:=i) (i:=(i:Int)) (by rw [List.length_set];exact(by rw [bz];simp [mo];omega)) rfl (by omega) Tryz.underlying29 (by kernel_rfl)) .nil)) fun ac w β S=>S.zJ dm (α:=aH) (t:=3) (v:=aa (((j+1)+1)+1)) (k:=i) (j:=3) (off:=af.1.off+i*4+3) (y:=(⟨j,(j+1),((j+1)+1),(((j+1)+1)+1)⟩:aH)) (q:=()) (Fy:=ab) (by omega) (Nat.le_of_ble_eq_true (by kernel_rfl)) (fun _ _ _=>⟨ab,(show fi (⟨j,(j+1),((j+1)+1),(((j+1)+1)+1)⟩:aH) from⟨(show a_ j from⟨by omega,by omega⟩),(show a_ (j+1) from⟨by omega,by omega⟩),(show a_ ((j+1)+1) from⟨by omega,by omega⟩),(show a_ (((j+1)+1)+1) from⟨by omega,by omega⟩)⟩),fun _ h=>False.elim h⟩) (fun b _ h=>False.elim h) (fun b h=>False.elim h) (fun b h=>False.elim h) ?_ (hc:=(by rw [dW (show i<acc.length by omega)];kernel_rfl))
  clear S;intro w N Ow uh S up gz d36 aj_ ahl
  have aka:∀b,Ow b->F b:=fun b h=>(aj_ b h).elim (CE b) (fun h=>False.elim h)
  clear up d36 dm ahl
  rw [List.set_set] at gz
  have agq:(acc.set i (⟨j,(j+1),((j+1)+1),(((j+1)+1)+1)⟩:aH)).length=acc.length:=List.length_set
  refine S.ge 14 (.cons (cc (((j+1)+1)+1) 1) (.cons (cc (i:Int) 1) .nil)) f4 fun ac w β S=>lW.of (a.length-(i+1)) _ _ (by omega) ⟨i+1,(acc.set i (⟨j,(j+1),((j+1)+1),(((j+1)+1)+1)⟩:aH)),((((j+1)+1)+1)+1),(af.1,uh),Ow,_,_,_,rfl,?_,?_,?_,S.z,gz,a9,aka⟩
  ·exact cK
  ·clear S;(have eW:i<acc.length:=(by omega));rw [bz,←agL (by omega) bZ];(first|rfl|(simp [yf,Int.add_assoc];done))
  ·clear S;omega
 refine S.bo 13 .nil [aa j] fun ac w β S=>?_
 have k6:aQ acc k=j:=by clear S;(have e:i=a.length:=(by omega));subst e;rw [bz,List.drop_length,List.append_nil,bZ];exact SA k (by omega) _ (by omega) id
 have hV:k<=j/\j<=k+16*((aS.aW a:Nat):Int):=by clear S;skip;constructor<;>omega
 exact rJ S k6 hV.1 hV.2 (by show [R _ _]=[R _ _];rw [gI,a9]) aA hs
theorem PU (w0:World) (a:ah) (pa:b_) (F:au) (ay:GT.own b6 F w0 a pa) (eT:∀b,F b->b<w0.heap.size) (k:Int) (fC:0<=k) (gU:k+16*(aS.aW a:Int)<=4611686018427387904):Calls Tryz.prog 11 [GT.val a pa,aa k].toArray w0 (og mz F w0 pa a k):=by
 refine Calls.run F Tryz.func11 ?_
 intro ac β S
 have iq:ad w0 F w0 (fc w0.heap.size) F a pa:=⟨ay,eT,fun b hb=> .inr hb⟩
 obtain⟨cd,fg,fa,dY,bK,bX,bO,bq,_,_,_,_,d13,d14,d15,d16,d17,d18⟩:=jR iq
 have ej:=CR a
 refine S.go 11 .nil fun ac w β S=>S.kc (hd:=aQ) (d:=8) bK (PV w a.mem pa.mem cd (S.fP bK) (fun b hb=>(S.sep b (bK.sub b hb)).1) k (by omega) (by omega)) fun ac w N dy N6 afW S up fr Pc ak_ XM amK=>?_
 replace bX:=bX.bk (J.symm d13) up
 replace bO:=bO.bk (J.symm d14) up
 replace bq:=bq.bk (J.symm d15) up
 clear up
 refine S.go 8 .nil fun ac w β S=>S.kc (hd:=aQ) (d:=12) bX (Zs w a.I pa.I fg (S.fP bX) (fun b hb=>(S.sep b (bX.sub b hb)).1) afW (by omega) (by omega)) fun ac w N e9 N7 afY S up e2 Yp ala amL amM=>?_
 replace bO:=bO.bk (J.symm d16) up
 replace bq:=bq.bk (J.symm d17) up
 replace fr:=fr.bk (J.symm (J.symm d13)) up
 clear up
 refine S.go 8 .nil fun ac w β S=>S.kc (hd:=aQ) (d:=16) bO (PT w a.buf pa.buf fa (S.fP bO) (fun b hb=>(S.sep b (bO.sub b hb)).1) afY (by omega) (by omega)) fun ac w N uh N8 afZ S up lv Yq alb amN amO=>?_
 replace bq:=bq.bk (J.symm d18) up
 replace fr:=fr.bk (J.symm (J.symm d14)) up
 replace e2:=e2.bk (J.symm (J.symm d16)) up
 clear up
 refine S.go 8 .nil fun ac w β S=>S.kc (hd:=aQ) (d:=20) bq (PT w a.ag pa.ag dY (S.fP bq) (fun b hb=>(S.sep b (bq.sub b hb)).1) afZ (by omega) (by omega)) fun ac w N k9 N9 Fa S up hr Ys alc amP amQ=>?_
 replace fr:=fr.bk (J.symm (J.symm d15)) up
 replace e2:=e2.bk (J.symm (J.symm d17)) up
 replace lv:=lv.bk (J.symm (J.symm d18)) up
 clear up
 refine S.bo 10 .nil [aa Fa] fun ac w β S=>?_
 have g_:=fs (x:=(⟨N6,N7,N8,N9⟩:ah)) (p:=(⟨dy,e9,uh,k9⟩:b_)) fr e2 lv hr (J.symm (J.symm d13)) (J.symm (J.symm d14)) (J.symm (J.symm d15)) (J.symm (J.symm d16)) (J.symm (J.symm d17)) (J.symm (J.symm d18))
 have JG:=aaC (x:=(⟨N6,N7,N8,N9⟩:ah)) (y:=a) (p:=(⟨dy,e9,uh,k9⟩:b_)) (q:=pa) Pc Yp Yq Ys
 have hH:=CR a
 have k6:mz (⟨N6,N7,N8,N9⟩:ah) k=Fa:=by clear S;simp (disch:=omega) only [mz,ak_,ala,alb,alc,A9]
 have hV:k<=Fa/\Fa<=k+16*((aS.aW a:Nat):Int):=by clear S;constructor<;>omega
 exact rJ S k6 hV.1 hV.2 JG g_ (qE fun G cO=>by simp only [List.mem_cons,List.not_mem_nil,or_false] at cO;rcases cO with rfl|rfl|rfl|rfl<;>assumption)
theorem TN {p:Prop} (h:p:=by clear S;(first|(rw [bp,sh (by omega)];done)|(rw [bp,iB (by omega)];simp [Et,a0,du,fU,di, *];done)|(rw [bp,iB (by omega)];simp_all [Et,a0,du,fU,di];done))):p:=h
theorem HJ (w0:World) (a:List Int) (pa:aD Int) (ay:bQ w0 a pa) (k:Int):Calls Tryz.prog 159 [R a.length pa.1,aa k].toArray w0 (fun e w'=>e= .returned (aa (aQ a k))/\bB ab w0 w'):=by
 refine Calls.run ab Tryz.func159 ?_
 intro ac β S
 have fG:a.length<=4194304:=ae.le ay
 refine S.go 12 .nil fun ac w β S=>?_
 refine c8 (fun a4 ac w=>∃(i:Nat) (j:Int) (u:_) (N:_) (β:_),a4=a.length-i/\(i<=a.length)/\(aQ a k=hE (a.drop i) j id)/\aj Tryz.prog Tryz.f159.ntmps w0 ab u N β ⟨[(0,.v (R a.length pa.1)),(1,.v (aa j)),(5,.v (aa (i:Int)))],[]⟩ ac w) _ ⟨0,k,_,_,_,rfl,cw,(by rfl),S.z⟩ ?_
 clear S
 rintro f1 a4 fm ac w ⟨i,j,u,N,β,rfl,hi,bp,S⟩
 refine S.rs fun S=>?_
 refine S.aI 9 .nil (decide ((i:Int)<(a.length:Int))) (fun ac w β aF cC S=>?_) (fun ac w β aF cC S=>?_)
 ·refine S.aI 16 (.cons (b5 (S.arg ay) i Tryz.underlying38) (.cons (cj (S.arg ay) 3 i) .nil)) ((el a i) != j) (fun ac w β bm c6 S=>?_) (fun ac w β bm c6 S=>?_)
  ·exact S.aq 7 .nil [aa (-1)] (b4 TN)
  refine S.ge 15 (.cons (jq (x:=j) (y:=1)) (.cons (cc (i:Int) 1) .nil)) f1 fun ac w β S=>fm.of (a.length-(i+1)) _ _ (by omega) ⟨i+1,(a0 j),_,_,_,rfl,?_,?_,S.z⟩
  ·exact cK
  ·clear S;(rw [bp,iB (by omega)];simp [Et,a0,du,fU,di, *])
 exact S.aq 13 .nil [aa j] (b4 TN)
theorem TO {p:Prop} (h:p:=by clear S;(first|(rw [bp,sh (by omega)];done)|(rw [bp,iB (by omega)];simp [tE,a0,du,fU,di, *];done)|(rw [bp,iB (by omega)];simp_all [tE,a0,du,fU,di];done))):p:=h
theorem PS (w0:World) (a:List (List Int)) (pa:aD (List Int)) (ay:bQ w0 a pa) (k:Int):Calls Tryz.prog 63 [R a.length pa.1,aa k].toArray w0 (fun e w'=>e= .returned (aa (aQ a k))/\bB ab w0 w'):=by
 refine Calls.run ab Tryz.func63 ?_
 intro ac β S
 have fG:a.length<=4194304:=ae.le ay
 refine S.go 12 .nil fun ac w β S=>?_
 refine c8 (fun a4 ac w=>∃(i:Nat) (j:Int) (u:_) (N:_) (β:_),a4=a.length-i/\(i<=a.length)/\(aQ a k=hE (a.drop i) j id)/\aj Tryz.prog Tryz.f63.ntmps w0 ab u N β ⟨[(0,.v (R a.length pa.1)),(1,.v (aa j)),(5,.v (aa (i:Int)))],[]⟩ ac w) _ ⟨0,k,_,_,_,rfl,cw,(by rfl),S.z⟩ ?_
 clear S
 rintro f1 a4 fm ac w ⟨i,j,u,N,β,rfl,hi,bp,S⟩
 refine S.rs fun S=>?_
 refine S.aI 9 .nil (decide ((i:Int)<(a.length:Int))) (fun ac w β aF cC S=>?_) (fun ac w β aF cC S=>?_)
 ·refine S.aI 22 (.cons (b5 (S.arg ay) i Tryz.underlying22) (.cons (cj (S.arg ay) 38 i) (.cons (aE fun w hw=>HJ w (el a i) (pa.2 i) (bJ (ae.el (S.arg ay) i (by omega)) hw) j) .nil))) (decide ((aQ (el a i) j)<0)) (fun ac w β bm c6 S=>?_) (fun ac w β bm c6 S=>?_)
  ·exact S.aq 7 .nil [aa (-1)] (b4 TO)
  refine S.ge 9 (.cons (cc (i:Int) 1) .nil) f1 fun ac w β S=>fm.of (a.length-(i+1)) _ _ (by omega) ⟨i+1,(aQ (el a i) j),_,_,_,rfl,?_,?_,S.z⟩
  ·exact cK
  ·clear S;(rw [bp,iB (by omega)];simp [tE,a0,du,fU,di, *])
 exact S.aq 13 .nil [aa j] (b4 TO)
theorem KS {p:Prop} (h:p:=by clear S;(first|(rw [bp,sh (by omega)];done)|(rw [bp,iB (by omega)];simp [Ew,a0,du,fU,di, *];done)|(rw [bp,iB (by omega)];simp_all [Ew,a0,du,fU,di];done))):p:=h
theorem DG (w0:World) (a:List aR) (pa:aD aR) (ay:bQ w0 a pa) (k:Int):Calls Tryz.prog 160 [R a.length pa.1,aa k].toArray w0 (fun e w'=>e= .returned (aa (aQ a k))/\bB ab w0 w'):=by
 refine Calls.run ab Tryz.func160 ?_
 intro ac β S
 have fG:a.length<=4194304:=ae.le ay
 refine S.go 12 .nil fun ac w β S=>?_
 refine c8 (fun a4 ac w=>∃(i:Nat) (j:Int) (u:_) (N:_) (β:_),a4=a.length-i/\(i<=a.length)/\(aQ a k=hE (a.drop i) j id)/\aj Tryz.prog Tryz.f160.ntmps w0 ab u N β ⟨[(0,.v (R a.length pa.1)),(1,.v (aa j)),(5,.v (aa (i:Int)))],[]⟩ ac w) _ ⟨0,k,_,_,_,rfl,cw,(by rfl),S.z⟩ ?_
 clear S
 rintro f1 a4 fm ac w ⟨i,j,u,N,β,rfl,hi,bp,S⟩
 refine S.rs fun S=>?_
 refine S.aI 9 .nil (decide ((i:Int)<(a.length:Int))) (fun ac w β aF cC S=>?_) (fun ac w β aF cC S=>?_)
 ·refine S.aI 17 (.cons (b5 (S.arg ay) i Tryz.underlying64) (.cons (cA (S.arg ay) 3 i 0 (aa (el a i).page)) .nil)) ((el a i).page != j) (fun ac w β bm c6 S=>?_) (fun ac w β bm c6 S=>?_)
  ·exact S.aq 7 .nil [aa (-1)] (b4 KS)
  refine S.aI 22 (.cons (jq (x:=j) (y:=1)) (.cons (b5 (S.arg ay) i Tryz.underlying64) (.cons (cA (S.arg ay) 3 i 1 (aa (el a i).bg)) .nil))) ((el a i).bg != (a0 j)) (fun ac w β cE fl S=>?_) (fun ac w β cE fl S=>?_)
  ·exact S.aq 7 .nil [aa (-1)] (b4 KS)
  refine S.ge 15 (.cons (jq (x:=(a0 j)) (y:=1)) (.cons (cc (i:Int) 1) .nil)) f1 fun ac w β S=>fm.of (a.length-(i+1)) _ _ (by omega) ⟨i+1,(a0 (a0 j)),_,_,_,rfl,?_,?_,S.z⟩
  ·exact cK
  ·clear S;(rw [bp,iB (by omega)];simp [Ew,a0,du,fU,di, *])
 exact S.aq 13 .nil [aa j] (b4 KS)
theorem TM {p:Prop} (h:p:=by clear S;(first|(rw [bp,sh (by omega)];done)|(rw [bp,iB (by omega)];simp [Eo,a0,du,fU,di, *];done)|(rw [bp,iB (by omega)];simp_all [Eo,a0,du,fU,di];done))):p:=h
theorem DF (w0:World) (a:List Bool) (pa:aD Bool) (ay:bQ w0 a pa) (k:Int):Calls Tryz.prog 20 [R a.length pa.1,aa k].toArray w0 (fun e w'=>e= .returned (aa (aQ a k))/\bB ab w0 w'):=by
 refine Calls.run ab Tryz.func20 ?_
 intro ac β S
 have fG:a.length<=4194304:=ae.le ay
 refine S.go 12 .nil fun ac w β S=>?_
 refine c8 (fun a4 ac w=>∃(i:Nat) (j:Int) (u:_) (N:_) (β:_),a4=a.length-i/\(i<=a.length)/\(aQ a k=hE (a.drop i) j id)/\aj Tryz.prog Tryz.f20.ntmps w0 ab u N β ⟨[(0,.v (R a.length pa.1)),(1,.v (aa j)),(5,.v (aa (i:Int)))],[]⟩ ac w) _ ⟨0,k,_,_,_,rfl,cw,(by rfl),S.z⟩ ?_
 clear S
 rintro f1 a4 fm ac w ⟨i,j,u,N,β,rfl,hi,bp,S⟩
 refine S.rs fun S=>?_
 refine S.aI 9 .nil (decide ((i:Int)<(a.length:Int))) (fun ac w β aF cC S=>?_) (fun ac w β aF cC S=>?_)
 ·refine S.bd 18 (.cons (b5 (S.arg ay) i Tryz.underlying39) (.cons (cj (S.arg ay) 4 i) (.cons (o3 (x:=j) (y:=3) (by decide)) .nil))) (!((el a i)==((Int.tmod j 3)==0))) (fun ac w β bm S=>?_) (fun ac w β bm S=>?_)
  ·have cS:=cm bm
   have gH:¬((el a i)=((Int.tmod j 3)==0)):=ne_of_beq_false cS
   exact S.aq 7 .nil [aa (-1)] (b4 TM)
  have dc:=b9 bm
  have fF:(el a i)=((Int.tmod j 3)==0):=eq_of_beq dc
  refine S.ge 15 (.cons (jq (x:=j) (y:=1)) (.cons (cc (i:Int) 1) .nil)) f1 fun ac w β S=>fm.of (a.length-(i+1)) _ _ (by omega) ⟨i+1,(a0 j),_,_,_,rfl,?_,?_,S.z⟩
  ·exact cK
  ·clear S;(rw [bp,iB (by omega)];simp [Eo,a0,du,fU,di, *])
 exact S.aq 13 .nil [aa j] (b4 TM)
theorem KQ {p:Prop} (h:p:=by clear S;(first|(rw [bp,sh (by omega)];done)|(rw [bp,iB (by omega)];simp [Es,a0,du,fU,di, *];done)|(rw [bp,iB (by omega)];simp_all [Es,a0,du,fU,di];done))):p:=h
theorem Zm (w0:World) (a:List da) (pa:aD da) (ay:bQ w0 a pa) (k:Int):Calls Tryz.prog 262 [R a.length pa.1,aa k].toArray w0 (fun e w'=>e= .returned (aa (aQ a k))/\bB ab w0 w'):=by
 refine Calls.run ab Tryz.func262 ?_
 intro ac β S
 have fG:a.length<=4194304:=ae.le ay
 refine S.go 12 .nil fun ac w β S=>?_
 refine c8 (fun a4 ac w=>∃(i:Nat) (j:Int) (u:_) (N:_) (β:_),a4=a.length-i/\(i<=a.length)/\(aQ a k=hE (a.drop i) j id)/\aj Tryz.prog Tryz.f262.ntmps w0 ab u N β ⟨[(0,.v (R a.length pa.1)),(1,.v (aa j)),(5,.v (aa (i:Int)))],[]⟩ ac w) _ ⟨0,k,_,_,_,rfl,cw,(by rfl),S.z⟩ ?_
 clear S
 rintro f1 a4 fm ac w ⟨i,j,u,N,β,rfl,hi,bp,S⟩
 refine S.rs fun S=>?_
 refine S.aI 9 .nil (decide ((i:Int)<(a.length:Int))) (fun ac w β aF cC S=>?_) (fun ac w β aF cC S=>?_)
 ·refine S.aI 17 (.cons (b5 (S.arg ay) i Tryz.underlying63) (.cons (cA (S.arg ay) 3 i 0 (aa (el a i).eL)) .nil)) ((el a i).eL != j) (fun ac w β bm c6 S=>?_) (fun ac w β bm c6 S=>?_)
  ·exact S.aq 7 .nil [aa (-1)] (b4 KQ)
  refine S.aI 22 (.cons (jq (x:=j) (y:=1)) (.cons (b5 (S.arg ay) i Tryz.underlying63) (.cons (cA (S.arg ay) 3 i 1 (aa (el a i).x)) .nil))) ((el a i).x != (a0 j)) (fun ac w β cE fl S=>?_) (fun ac w β cE fl S=>?_)
  ·exact S.aq 7 .nil [aa (-1)] (b4 KQ)
  refine S.ge 15 (.cons (jq (x:=(a0 j)) (y:=1)) (.cons (cc (i:Int) 1) .nil)) f1 fun ac w β S=>fm.of (a.length-(i+1)) _ _ (by omega) ⟨i+1,(a0 (a0 j)),_,_,_,rfl,?_,?_,S.z⟩
  ·exact cK
  ·clear S;(rw [bp,iB (by omega)];simp [Es,a0,du,fU,di, *])
 exact S.aq 13 .nil [aa j] (b4 KQ)
theorem mE {p:Prop} (h:p:=by clear S;(first|(rw [bp,sh (by omega)];done)|(rw [bp,iB (by omega)];simp [Er,a0,du,fU,di, *];done)|(rw [bp,iB (by omega)];simp_all [Er,a0,du,fU,di];done))):p:=h
theorem Zl (w0:World) (a:List ax) (pa:aD ax) (ay:bQ w0 a pa) (k:Int):Calls Tryz.prog 161 [R a.length pa.1,aa k].toArray w0 (fun e w'=>e= .returned (aa (aQ a k))/\bB ab w0 w'):=by
 refine Calls.run ab Tryz.func161 ?_
 intro ac β S
 have fG:a.length<=4194304:=ae.le ay
 refine S.go 12 .nil fun ac w β S=>?_
 refine c8 (fun a4 ac w=>∃(i:Nat) (j:Int) (u:_) (N:_) (β:_),a4=a.length-i/\(i<=a.length)/\(aQ a k=hE (a.drop i) j id)/\aj Tryz.prog Tryz.f161.ntmps w0 ab u N β ⟨[(0,.v (R a.length pa.1)),(1,.v (aa j)),(5,.v (aa (i:Int)))],[]⟩ ac w) _ ⟨0,k,_,_,_,rfl,cw,(by rfl),S.z⟩ ?_
 clear S
 rintro f1 a4 fm ac w ⟨i,j,u,N,β,rfl,hi,bp,S⟩
 refine S.rs fun S=>?_
 refine S.aI 9 .nil (decide ((i:Int)<(a.length:Int))) (fun ac w β aF cC S=>?_) (fun ac w β aF cC S=>?_)
 ·refine S.aI 24 (.cons (b5 (S.arg ay) i Tryz.underlying71) (.cons (cA (S.arg ay) 63 i 0 (R (el a i).prog.length (pa.2 i).prog.1)) (.cons (aE fun w hw=>Zm w (el a i).prog (pa.2 i).prog (bJ (az.prog (d:=(el a i)) (ae.el (S.arg ay) i (by omega))) hw) j) .nil))) (decide ((aQ (el a i).prog j)<0)) (fun ac w β bm c6 S=>?_) (fun ac w β bm c6 S=>?_)
  ·exact S.aq 7 .nil [aa (-1)] (b4 mE)
  refine S.aI 15 (.cons (b5 (S.arg ay) i Tryz.underlying71) (.cons (cA (S.arg ay) 3 i 1 (aa (el a i).acc)) .nil)) ((el a i).acc != (aQ (el a i).prog j)) (fun ac w β cE fl S=>?_) (fun ac w β cE fl S=>?_)
  ·exact S.aq 7 .nil [aa (-1)] (b4 mE)
  refine S.aI 22 (.cons (jq (x:=(aQ (el a i).prog j)) (y:=1)) (.cons (b5 (S.arg ay) i Tryz.underlying71) (.cons (cA (S.arg ay) 3 i 2 (aa (el a i).aw)) .nil))) ((el a i).aw != (a0 (aQ (el a i).prog j))) (fun ac w β ez iU S=>?_) (fun ac w β ez iU S=>?_)
  ·exact S.aq 7 .nil [aa (-1)] (b4 mE)
  refine S.aI 29 (.cons (jq (x:=(a0 (aQ (el a i).prog j))) (y:=1)) (.cons (b5 (S.arg ay) i Tryz.underlying71) (.cons (cA (S.arg ay) 64 i 3 (R (el a i).written.length (pa.2 i).written.1)) (.cons (aE fun w hw=>DG w (el a i).written (pa.2 i).written (bJ (az.written (d:=(el a i)) (ae.el (S.arg ay) i (by omega))) hw) (a0 (a0 (aQ (el a i).prog j)))) .nil)))) (decide ((aQ (el a i).written (a0 (a0 (aQ (el a i).prog j))))<0)) (fun ac w β eS ie S=>?_) (fun ac w β eS ie S=>?_)
  ·exact S.aq 7 .nil [aa (-1)] (b4 mE)
  refine S.aI 22 (.cons (b5 (S.arg ay) i Tryz.underlying71) (.cons (cA (S.arg ay) 64 i 4 (R (el a i).live.length (pa.2 i).live.1)) (.cons (aE fun w hw=>DG w (el a i).live (pa.2 i).live (bJ (az.live (d:=(el a i)) (ae.el (S.arg ay) i (by omega))) hw) (aQ (el a i).written (a0 (a0 (aQ (el a i).prog j))))) .nil))) (decide ((aQ (el a i).live (aQ (el a i).written (a0 (a0 (aQ (el a i).prog j)))))<0)) (fun ac w β jG nV S=>?_) (fun ac w β jG nV S=>?_)
  ·exact S.aq 7 .nil [aa (-1)] (b4 mE)
  refine S.aI 16 (.cons (b5 (S.arg ay) i Tryz.underlying71) (.cons (cA (S.arg ay) 3 i 5 (aa (el a i).aN.aY)) .nil)) ((el a i).aN.aY != (aQ (el a i).live (aQ (el a i).written (a0 (a0 (aQ (el a i).prog j)))))) (fun ac w β oz pn S=>?_) (fun ac w β oz pn S=>?_)
  ·exact S.aq 7 .nil [aa (-1)] (b4 mE)
  refine S.aI 23 (.cons (jq (x:=(aQ (el a i).live (aQ (el a i).written (a0 (a0 (aQ (el a i).prog j)))))) (y:=1)) (.cons (b5 (S.arg ay) i Tryz.underlying71) (.cons (cA (S.arg ay) 3 i 6 (aa (el a i).aN.post)) .nil))) ((el a i).aN.post != (a0 (aQ (el a i).live (aQ (el a i).written (a0 (a0 (aQ (el a i).prog j))))))) (fun ac w β jH po S=>?_) (fun ac w β jH po S=>?_)
  ·exact S.aq 7 .nil [aa (-1)] (b4 mE)
  refine S.bd 25 (.cons (jq (x:=(a0 (aQ (el a i).live (aQ (el a i).written (a0 (a0 (aQ (el a i).prog j))))))) (y:=1)) (.cons (b5 (S.arg ay) i Tryz.underlying71) (.cons (cA (S.arg ay) 4 i 7 (B (el a i).aN.e4)) (.cons (o3 (x:=(a0 (a0 (aQ (el a i).live (aQ (el a i).written (a0 (a0 (aQ (el a i).prog j)))))))) (y:=3) (by decide)) .nil)))) (!((el a i).aN.e4==((Int.tmod (a0 (a0 (aQ (el a i).live (aQ (el a i).written (a0 (a0 (aQ (el a i).prog j))))))) 3)==0))) (fun ac w β hU S=>?_) (fun ac w β hU S=>?_)
  ·have hp:=cm hU
   have IV:¬((el a i).aN.e4=((Int.tmod (a0 (a0 (aQ (el a i).live (aQ (el a i).written (a0 (a0 (aQ (el a i).prog j))))))) 3)==0)):=ne_of_beq_false hp
   exact S.aq 7 .nil [aa (-1)] (b4 mE)
  have pr:=b9 hU
  have tv:(el a i).aN.e4=((Int.tmod (a0 (a0 (aQ (el a i).live (aQ (el a i).written (a0 (a0 (aQ (el a i).prog j))))))) 3)==0):=eq_of_beq pr
  refine S.aI 22 (.cons (jq (x:=(a0 (a0 (aQ (el a i).live (aQ (el a i).written (a0 (a0 (aQ (el a i).prog j)))))))) (y:=1)) (.cons (b5 (S.arg ay) i Tryz.underlying71) (.cons (cA (S.arg ay) 3 i 8 (aa (el a i).aC)) .nil))) ((el a i).aC != (a0 (a0 (a0 (aQ (el a i).live (aQ (el a i).written (a0 (a0 (aQ (el a i).prog j))))))))) (fun ac w β gR jF S=>?_) (fun ac w β gR jF S=>?_)
  ·exact S.aq 7 .nil [aa (-1)] (b4 mE)
  refine S.aI 23 (.cons (jq (x:=(a0 (a0 (a0 (aQ (el a i).live (aQ (el a i).written (a0 (a0 (aQ (el a i).prog j))))))))) (y:=1)) (.cons (b5 (S.arg ay) i Tryz.underlying71) (.cons (cA (S.arg ay) 3 i 9 (aa (el a i).exit.kind)) .nil))) ((el a i).exit.kind != (a0 (a0 (a0 (a0 (aQ (el a i).live (aQ (el a i).written (a0 (a0 (aQ (el a i).prog j)))))))))) (fun ac w β gS tw S=>?_) (fun ac w β gS tw S=>?_)
  ·exact S.aq 7 .nil [aa (-1)] (b4 mE)
  refine S.aI 23 (.cons (jq (x:=(a0 (a0 (a0 (a0 (aQ (el a i).live (aQ (el a i).written (a0 (a0 (aQ (el a i).prog j)))))))))) (y:=1)) (.cons (b5 (S.arg ay) i Tryz.underlying71) (.cons (cA (S.arg ay) 3 i 10 (aa (el a i).exit.page)) .nil))) ((el a i).exit.page != (a0 (a0 (a0 (a0 (a0 (aQ (el a i).live (aQ (el a i).written (a0 (a0 (aQ (el a i).prog j))))))))))) (fun ac w β hD lQ S=>?_) (fun ac w β hD lQ S=>?_)
  ·exact S.aq 7 .nil [aa (-1)] (b4 mE)
  refine S.bd 25 (.cons (jq (x:=(a0 (a0 (a0 (a0 (a0 (aQ (el a i).live (aQ (el a i).written (a0 (a0 (aQ (el a i).prog j))))))))))) (y:=1)) (.cons (b5 (S.arg ay) i Tryz.underlying71) (.cons (cA (S.arg ay) 4 i 11 (B (el a i).exit.wr)) (.cons (o3 (x:=(a0 (a0 (a0 (a0 (a0 (a0 (aQ (el a i).live (aQ (el a i).written (a0 (a0 (aQ (el a i).prog j)))))))))))) (y:=3) (by decide)) .nil)))) (!((el a i).exit.wr==((Int.tmod (a0 (a0 (a0 (a0 (a0 (a0 (aQ (el a i).live (aQ (el a i).written (a0 (a0 (aQ (el a i).prog j))))))))))) 3)==0))) (fun ac w β lq S=>?_) (fun ac w β lq S=>?_)
  ·have lT:=cm lq
   have vf:¬((el a i).exit.wr=((Int.tmod (a0 (a0 (a0 (a0 (a0 (a0 (aQ (el a i).live (aQ (el a i).written (a0 (a0 (aQ (el a i).prog j))))))))))) 3)==0)):=ne_of_beq_false lT
   exact S.aq 7 .nil [aa (-1)] (b4 mE)
  have m_:=b9 lq
  have r8:(el a i).exit.wr=((Int.tmod (a0 (a0 (a0 (a0 (a0 (a0 (aQ (el a i).live (aQ (el a i).written (a0 (a0 (aQ (el a i).prog j))))))))))) 3)==0):=eq_of_beq m_
  refine S.aI 23 (.cons (jq (x:=(a0 (a0 (a0 (a0 (a0 (a0 (aQ (el a i).live (aQ (el a i).written (a0 (a0 (aQ (el a i).prog j)))))))))))) (y:=1)) (.cons (b5 (S.arg ay) i Tryz.underlying71) (.cons (cA (S.arg ay) 3 i 12 (aa (el a i).exit.n)) .nil))) ((el a i).exit.n != (a0 (a0 (a0 (a0 (a0 (a0 (a0 (aQ (el a i).live (aQ (el a i).written (a0 (a0 (aQ (el a i).prog j))))))))))))) (fun ac w β kD pq S=>?_) (fun ac w β kD pq S=>?_)
  ·exact S.aq 7 .nil [aa (-1)] (b4 mE)
  refine S.bd 24 (.cons (jq (x:=(a0 (a0 (a0 (a0 (a0 (a0 (a0 (aQ (el a i).live (aQ (el a i).written (a0 (a0 (aQ (el a i).prog j))))))))))))) (y:=1)) (.cons (b5 (S.arg ay) i Tryz.underlying71) (.cons (cA (S.arg ay) 4 i 13 (B (el a i).halted)) (.cons (o3 (x:=(a0 (a0 (a0 (a0 (a0 (a0 (a0 (a0 (aQ (el a i).live (aQ (el a i).written (a0 (a0 (aQ (el a i).prog j)))))))))))))) (y:=3) (by decide)) .nil)))) (!((el a i).halted==((Int.tmod (a0 (a0 (a0 (a0 (a0 (a0 (a0 (a0 (aQ (el a i).live (aQ (el a i).written (a0 (a0 (aQ (el a i).prog j))))))))))))) 3)==0))) (fun ac w β k4 S=>?_) (fun ac w β k4 S=>?_)
  ·have tA:=cm k4
   have As:¬((el a i).halted=((Int.tmod (a0 (a0 (a0 (a0 (a0 (a0 (a0 (a0 (aQ (el a i).live (aQ (el a i).written (a0 (a0 (aQ (el a i).prog j))))))))))))) 3)==0)):=ne_of_beq_false tA
   exact S.aq 7 .nil [aa (-1)] (b4 mE)
  have lU:=b9 k4
  have Rx:(el a i).halted=((Int.tmod (a0 (a0 (a0 (a0 (a0 (a0 (a0 (a0 (aQ (el a i).live (aQ (el a i).written (a0 (a0 (aQ (el a i).prog j))))))))))))) 3)==0):=eq_of_beq lU
  refine S.aI 28 (.cons (jq (x:=(a0 (a0 (a0 (a0 (a0 (a0 (a0 (a0 (aQ (el a i).live (aQ (el a i).written (a0 (a0 (aQ (el a i).prog j)))))))))))))) (y:=1)) (.cons (b5 (S.arg ay) i Tryz.underlying71) (.cons (cA (S.arg ay) 38 i 14 (R (el a i).seen.length (pa.2 i).seen.1)) (.cons (aE fun w hw=>HJ w (el a i).seen (pa.2 i).seen (bJ (az.seen (d:=(el a i)) (ae.el (S.arg ay) i (by omega))) hw) (a0 (a0 (a0 (a0 (a0 (a0 (a0 (a0 (a0 (aQ (el a i).live (aQ (el a i).written (a0 (a0 (aQ (el a i).prog j))))))))))))))) .nil)))) (decide ((aQ (el a i).seen (a0 (a0 (a0 (a0 (a0 (a0 (a0 (a0 (a0 (aQ (el a i).live (aQ (el a i).written (a0 (a0 (aQ (el a i).prog j)))))))))))))))<0)) (fun ac w β na yc S=>?_) (fun ac w β na yc S=>?_)
  ·exact S.aq 7 .nil [aa (-1)] (b4 mE)
  refine S.ge 9 (.cons (cc (i:Int) 1) .nil) f1 fun ac w β S=>fm.of (a.length-(i+1)) _ _ (by omega) ⟨i+1,(aQ (el a i).seen (a0 (a0 (a0 (a0 (a0 (a0 (a0 (a0 (a0 (aQ (el a i).live (aQ (el a i).written (a0 (a0 (aQ (el a i).prog j))))))))))))))),_,_,_,rfl,?_,?_,S.z⟩
  ·exact cK
  ·clear S;(rw [bp,iB (by omega)];simp [Er,a0,du,fU,di, *])
 exact S.aq 13 .nil [aa j] (b4 mE)
theorem KR {p:Prop} (h:p:=by clear S;(first|(rw [bp,sh (by omega)];done)|(rw [bp,iB (by omega)];simp [Eu,a0,du,fU,di, *];done)|(rw [bp,iB (by omega)];simp_all [Eu,a0,du,fU,di];done))):p:=h
theorem Zn (w0:World) (a:List bS) (pa:aD bS) (ay:bQ w0 a pa) (k:Int):Calls Tryz.prog 162 [R a.length pa.1,aa k].toArray w0 (fun e w'=>e= .returned (aa (aQ a k))/\bB ab w0 w'):=by
 refine Calls.run ab Tryz.func162 ?_
 intro ac β S
 have fG:a.length<=4194304:=ae.le ay
 refine S.go 12 .nil fun ac w β S=>?_
 refine c8 (fun a4 ac w=>∃(i:Nat) (j:Int) (u:_) (N:_) (β:_),a4=a.length-i/\(i<=a.length)/\(aQ a k=hE (a.drop i) j id)/\aj Tryz.prog Tryz.f162.ntmps w0 ab u N β ⟨[(0,.v (R a.length pa.1)),(1,.v (aa j)),(5,.v (aa (i:Int)))],[]⟩ ac w) _ ⟨0,k,_,_,_,rfl,cw,(by rfl),S.z⟩ ?_
 clear S
 rintro f1 a4 fm ac w ⟨i,j,u,N,β,rfl,hi,bp,S⟩
 refine S.rs fun S=>?_
 refine S.aI 9 .nil (decide ((i:Int)<(a.length:Int))) (fun ac w β aF cC S=>?_) (fun ac w β aF cC S=>?_)
 ·refine S.aI 24 (.cons (b5 (S.arg ay) i Tryz.underlying72) (.cons (cA (S.arg ay) 39 i 0 (R (el a i).known.length (pa.2 i).known.1)) (.cons (aE fun w hw=>DF w (el a i).known (pa.2 i).known (bJ (ey.known (d:=(el a i)) (ae.el (S.arg ay) i (by omega))) hw) j) .nil))) (decide ((aQ (el a i).known j)<0)) (fun ac w β bm c6 S=>?_) (fun ac w β bm c6 S=>?_)
  ·exact S.aq 7 .nil [aa (-1)] (b4 KR)
  refine S.aI 21 (.cons (b5 (S.arg ay) i Tryz.underlying72) (.cons (cA (S.arg ay) 64 i 1 (R (el a i).aZ.length (pa.2 i).aZ.1)) (.cons (aE fun w hw=>DG w (el a i).aZ (pa.2 i).aZ (bJ (ey.aZ (d:=(el a i)) (ae.el (S.arg ay) i (by omega))) hw) (aQ (el a i).known j)) .nil))) (decide ((aQ (el a i).aZ (aQ (el a i).known j))<0)) (fun ac w β cE fl S=>?_) (fun ac w β cE fl S=>?_)
  ·exact S.aq 7 .nil [aa (-1)] (b4 KR)
  refine S.ge 9 (.cons (cc (i:Int) 1) .nil) f1 fun ac w β S=>fm.of (a.length-(i+1)) _ _ (by omega) ⟨i+1,(aQ (el a i).aZ (aQ (el a i).known j)),_,_,_,rfl,?_,?_,S.z⟩
  ·exact cK
  ·clear S;(rw [bp,iB (by omega)];simp [Eu,a0,du,fU,di, *])
 exact S.aq 13 .nil [aa j] (b4 KR)
theorem q_ {p:Prop} (h:p:=by clear S;(first|(rw [bp,sh (by omega)];done)|(rw [bp,iB (by omega)];simp [Ev,a0,du,fU,di, *];done)|(rw [bp,iB (by omega)];simp_all [Ev,a0,du,fU,di];done))):p:=h
theorem Zo (w0:World) (a:List aO) (pa:aD aO) (ay:bQ w0 a pa) (k:Int):Calls Tryz.prog 64 [R a.length pa.1,aa k].toArray w0 (fun e w'=>e= .returned (aa (aQ a k))/\bB ab w0 w'):=by
 refine Calls.run ab Tryz.func64 ?_
 intro ac β S
 have fG:a.length<=4194304:=ae.le ay
 refine S.go 12 .nil fun ac w β S=>?_
 refine c8 (fun a4 ac w=>∃(i:Nat) (j:Int) (u:_) (N:_) (β:_),a4=a.length-i/\(i<=a.length)/\(aQ a k=hE (a.drop i) j id)/\aj Tryz.prog Tryz.f64.ntmps w0 ab u N β ⟨[(0,.v (R a.length pa.1)),(1,.v (aa j)),(5,.v (aa (i:Int)))],[]⟩ ac w) _ ⟨0,k,_,_,_,rfl,cw,(by rfl),S.z⟩ ?_
 clear S
 rintro f1 a4 fm ac w ⟨i,j,u,N,β,rfl,hi,bp,S⟩
 refine S.rs fun S=>?_
 refine S.aI 9 .nil (decide ((i:Int)<(a.length:Int))) (fun ac w β aF cC S=>?_) (fun ac w β aF cC S=>?_)
 ·refine S.aI 24 (.cons (b5 (S.arg ay) i Tryz.underlying28) (.cons (cA (S.arg ay) 64 i 0 (R (el a i).outer.length (pa.2 i).outer.1)) (.cons (aE fun w hw=>DG w (el a i).outer (pa.2 i).outer (bJ (aU.outer (d:=(el a i)) (ae.el (S.arg ay) i (by omega))) hw) j) .nil))) (decide ((aQ (el a i).outer j)<0)) (fun ac w β bm c6 S=>?_) (fun ac w β bm c6 S=>?_)
  ·exact S.aq 7 .nil [aa (-1)] (b4 q_)
  refine S.aI 22 (.cons (b5 (S.arg ay) i Tryz.underlying28) (.cons (cA (S.arg ay) 22 i 1 (R (el a i).out.length (pa.2 i).out.1)) (.cons (aE fun w hw=>PS w (el a i).out (pa.2 i).out (bJ (aU.out (d:=(el a i)) (ae.el (S.arg ay) i (by omega))) hw) (aQ (el a i).outer j)) .nil))) (decide ((aQ (el a i).out (aQ (el a i).outer j))<0)) (fun ac w β cE fl S=>?_) (fun ac w β cE fl S=>?_)
  ·exact S.aq 7 .nil [aa (-1)] (b4 q_)
  refine S.aI 22 (.cons (b5 (S.arg ay) i Tryz.underlying28) (.cons (cA (S.arg ay) 39 i 2 (R (el a i).aT.length (pa.2 i).aT.1)) (.cons (aE fun w hw=>DF w (el a i).aT (pa.2 i).aT (bJ (aU.aT (d:=(el a i)) (ae.el (S.arg ay) i (by omega))) hw) (aQ (el a i).out (aQ (el a i).outer j))) .nil))) (decide ((aQ (el a i).aT (aQ (el a i).out (aQ (el a i).outer j)))<0)) (fun ac w β ez iU S=>?_) (fun ac w β ez iU S=>?_)
  ·exact S.aq 7 .nil [aa (-1)] (b4 q_)
  refine S.aI 22 (.cons (b5 (S.arg ay) i Tryz.underlying28) (.cons (cA (S.arg ay) 71 i 3 (R (el a i).U.length (pa.2 i).U.1)) (.cons (aE fun w hw=>Zl w (el a i).U (pa.2 i).U (bJ (aU.U (d:=(el a i)) (ae.el (S.arg ay) i (by omega))) hw) (aQ (el a i).aT (aQ (el a i).out (aQ (el a i).outer j)))) .nil))) (decide ((aQ (el a i).U (aQ (el a i).aT (aQ (el a i).out (aQ (el a i).outer j))))<0)) (fun ac w β eS ie S=>?_) (fun ac w β eS ie S=>?_)
  ·exact S.aq 7 .nil [aa (-1)] (b4 q_)
  refine S.aI 22 (.cons (b5 (S.arg ay) i Tryz.underlying28) (.cons (cA (S.arg ay) 38 i 4 (R (el a i).outs.length (pa.2 i).outs.1)) (.cons (aE fun w hw=>HJ w (el a i).outs (pa.2 i).outs (bJ (aU.outs (d:=(el a i)) (ae.el (S.arg ay) i (by omega))) hw) (aQ (el a i).U (aQ (el a i).aT (aQ (el a i).out (aQ (el a i).outer j))))) .nil))) (decide ((aQ (el a i).outs (aQ (el a i).U (aQ (el a i).aT (aQ (el a i).out (aQ (el a i).outer j)))))<0)) (fun ac w β jG nV S=>?_) (fun ac w β jG nV S=>?_)
  ·exact S.aq 7 .nil [aa (-1)] (b4 q_)
  refine S.aI 15 (.cons (b5 (S.arg ay) i Tryz.underlying28) (.cons (cA (S.arg ay) 3 i 5 (aa (el a i).aC)) .nil)) ((el a i).aC != (aQ (el a i).outs (aQ (el a i).U (aQ (el a i).aT (aQ (el a i).out (aQ (el a i).outer j)))))) (fun ac w β oz pn S=>?_) (fun ac w β oz pn S=>?_)
  ·exact S.aq 7 .nil [aa (-1)] (b4 q_)
  refine S.aI 22 (.cons (jq (x:=(aQ (el a i).outs (aQ (el a i).U (aQ (el a i).aT (aQ (el a i).out (aQ (el a i).outer j)))))) (y:=1)) (.cons (b5 (S.arg ay) i Tryz.underlying28) (.cons (cA (S.arg ay) 3 i 6 (aa (el a i).aY)) .nil))) ((el a i).aY != (a0 (aQ (el a i).outs (aQ (el a i).U (aQ (el a i).aT (aQ (el a i).out (aQ (el a i).outer j))))))) (fun ac w β jH po S=>?_) (fun ac w β jH po S=>?_)
  ·exact S.aq 7 .nil [aa (-1)] (b4 q_)
  refine S.aI 29 (.cons (jq (x:=(a0 (aQ (el a i).outs (aQ (el a i).U (aQ (el a i).aT (aQ (el a i).out (aQ (el a i).outer j))))))) (y:=1)) (.cons (b5 (S.arg ay) i Tryz.underlying28) (.cons (cA (S.arg ay) 72 i 7 (R (el a i).tables.length (pa.2 i).tables.1)) (.cons (aE fun w hw=>Zn w (el a i).tables (pa.2 i).tables (bJ (aU.tables (d:=(el a i)) (ae.el (S.arg ay) i (by omega))) hw) (a0 (a0 (aQ (el a i).outs (aQ (el a i).U (aQ (el a i).aT (aQ (el a i).out (aQ (el a i).outer j)))))))) .nil)))) (decide ((aQ (el a i).tables (a0 (a0 (aQ (el a i).outs (aQ (el a i).U (aQ (el a i).aT (aQ (el a i).out (aQ (el a i).outer j))))))))<0)) (fun ac w β hU m9 S=>?_) (fun ac w β hU m9 S=>?_)
  ·exact S.aq 7 .nil [aa (-1)] (b4 q_)
  refine S.aI 15 (.cons (b5 (S.arg ay) i Tryz.underlying28) (.cons (cA (S.arg ay) 3 i 8 (aa (el a i).owned)) .nil)) ((el a i).owned != (aQ (el a i).tables (a0 (a0 (aQ (el a i).outs (aQ (el a i).U (aQ (el a i).aT (aQ (el a i).out (aQ (el a i).outer j))))))))) (fun ac w β lp ve S=>?_) (fun ac w β lp ve S=>?_)
  ·exact S.aq 7 .nil [aa (-1)] (b4 q_)
  refine S.ge 15 (.cons (jq (x:=(aQ (el a i).tables (a0 (a0 (aQ (el a i).outs (aQ (el a i).U (aQ (el a i).aT (aQ (el a i).out (aQ (el a i).outer j))))))))) (y:=1)) (.cons (cc (i:Int) 1) .nil)) f1 fun ac w β S=>fm.of (a.length-(i+1)) _ _ (by omega) ⟨i+1,(a0 (aQ (el a i).tables (a0 (a0 (aQ (el a i).outs (aQ (el a i).U (aQ (el a i).aT (aQ (el a i).out (aQ (el a i).outer j))))))))),_,_,_,rfl,?_,?_,S.z⟩
  ·exact cK
  ·clear S;(rw [bp,iB (by omega)];simp [Ev,a0,du,fU,di, *])
 exact S.aq 13 .nil [aa j] (b4 q_)
theorem Bw {p:Prop} (h:p:=by clear S;(first|(rw [bp,sh (by omega)];done)|(rw [bp,iB (by omega)];simp [Ep,a0,du,fU,di, *];done)|(rw [bp,iB (by omega)];simp_all [Ep,a0,du,fU,di];done))):p:=h
theorem PQ (w0:World) (a:List aH) (pa:aD aH) (ay:bQ w0 a pa) (k:Int):Calls Tryz.prog 65 [R a.length pa.1,aa k].toArray w0 (fun e w'=>e= .returned (aa (aQ a k))/\bB ab w0 w'):=by
 refine Calls.run ab Tryz.func65 ?_
 intro ac β S
 have fG:a.length<=4194304:=ae.le ay
 refine S.go 12 .nil fun ac w β S=>?_
 refine c8 (fun a4 ac w=>∃(i:Nat) (j:Int) (u:_) (N:_) (β:_),a4=a.length-i/\(i<=a.length)/\(aQ a k=hE (a.drop i) j id)/\aj Tryz.prog Tryz.f65.ntmps w0 ab u N β ⟨[(0,.v (R a.length pa.1)),(1,.v (aa j)),(5,.v (aa (i:Int)))],[]⟩ ac w) _ ⟨0,k,_,_,_,rfl,cw,(by rfl),S.z⟩ ?_
 clear S
 rintro f1 a4 fm ac w ⟨i,j,u,N,β,rfl,hi,bp,S⟩
 refine S.rs fun S=>?_
 refine S.aI 9 .nil (decide ((i:Int)<(a.length:Int))) (fun ac w β aF cC S=>?_) (fun ac w β aF cC S=>?_)
 ·refine S.aI 17 (.cons (b5 (S.arg ay) i Tryz.underlying29) (.cons (cA (S.arg ay) 3 i 0 (aa (el a i).tag)) .nil)) ((el a i).tag != j) (fun ac w β bm c6 S=>?_) (fun ac w β bm c6 S=>?_)
  ·exact S.aq 7 .nil [aa (-1)] (b4 Bw)
  refine S.aI 22 (.cons (jq (x:=j) (y:=1)) (.cons (b5 (S.arg ay) i Tryz.underlying29) (.cons (cA (S.arg ay) 3 i 1 (aa (el a i).page)) .nil))) ((el a i).page != (a0 j)) (fun ac w β cE fl S=>?_) (fun ac w β cE fl S=>?_)
  ·exact S.aq 7 .nil [aa (-1)] (b4 Bw)
  refine S.aI 22 (.cons (jq (x:=(a0 j)) (y:=1)) (.cons (b5 (S.arg ay) i Tryz.underlying29) (.cons (cA (S.arg ay) 3 i 2 (aa (el a i).host)) .nil))) ((el a i).host != (a0 (a0 j))) (fun ac w β ez iU S=>?_) (fun ac w β ez iU S=>?_)
  ·exact S.aq 7 .nil [aa (-1)] (b4 Bw)
  refine S.aI 22 (.cons (jq (x:=(a0 (a0 j))) (y:=1)) (.cons (b5 (S.arg ay) i Tryz.underlying29) (.cons (cA (S.arg ay) 3 i 3 (aa (el a i).bg)) .nil))) ((el a i).bg != (a0 (a0 (a0 j)))) (fun ac w β eS ie S=>?_) (fun ac w β eS ie S=>?_)
  ·exact S.aq 7 .nil [aa (-1)] (b4 Bw)
  refine S.ge 15 (.cons (jq (x:=(a0 (a0 (a0 j)))) (y:=1)) (.cons (cc (i:Int) 1) .nil)) f1 fun ac w β S=>fm.of (a.length-(i+1)) _ _ (by omega) ⟨i+1,(a0 (a0 (a0 (a0 j)))),_,_,_,rfl,?_,?_,S.z⟩
  ·exact cK
  ·clear S;(rw [bp,iB (by omega)];simp [Ep,a0,du,fU,di, *])
 exact S.aq 13 .nil [aa j] (b4 Bw)
theorem PR (w0:World) (a:ah) (pa:b_) (ay:bQ w0 a pa) (k:Int):Calls Tryz.prog 12 [GT.val a pa,aa k].toArray w0 (fun e w'=>e= .returned (aa (mz a k))/\bB ab w0 w'):=by
 refine Calls.run ab Tryz.func12 ?_
 intro ac β S
 have SR:a.mem.length<=4194304:=ae.le (bu.mem (d:=a) ay)
 have SS:a.I.length<=4194304:=ae.le (bu.I (d:=a) ay)
 have SP:a.buf.length<=4194304:=ae.le (bu.buf (d:=a) ay)
 have SQ:a.ag.length<=4194304:=ae.le (bu.ag (d:=a) ay)
 refine S.aI 22 (.cons (aE fun w hw=>PS w a.mem pa.mem (bJ (bu.mem (d:=a) (S.arg ay)) hw) k) .nil) (decide ((aQ a.mem k)<0)) (fun ac w β h1 a8 S=>?_) (fun ac w β h1 a8 S=>?_)
 ·exact S.aq 7 .nil [aa (-1)] (b4 (by clear S;(simp [mz,di, *])))
 refine S.aI 19 (.cons (aE fun w hw=>Zo w a.I pa.I (bJ (bu.I (d:=a) (S.arg ay)) hw) (aQ a.mem k)) .nil) (decide ((aQ a.I (aQ a.mem k))<0)) (fun ac w β aF cC S=>?_) (fun ac w β aF cC S=>?_)
 ·exact S.aq 7 .nil [aa (-1)] (b4 (by clear S;(simp [mz,di, *])))
 refine S.aI 19 (.cons (aE fun w hw=>PQ w a.buf pa.buf (bJ (bu.buf (d:=a) (S.arg ay)) hw) (aQ a.I (aQ a.mem k))) .nil) (decide ((aQ a.buf (aQ a.I (aQ a.mem k)))<0)) (fun ac w β bm c6 S=>?_) (fun ac w β bm c6 S=>?_)
 ·exact S.aq 7 .nil [aa (-1)] (b4 (by clear S;(simp [mz,di, *])))
 refine S.aI 19 (.cons (aE fun w hw=>PQ w a.ag pa.ag (bJ (bu.ag (d:=a) (S.arg ay)) hw) (aQ a.buf (aQ a.I (aQ a.mem k)))) .nil) (decide ((aQ a.ag (aQ a.buf (aQ a.I (aQ a.mem k))))<0)) (fun ac w β cE fl S=>?_) (fun ac w β cE fl S=>?_)
 ·exact S.aq 7 .nil [aa (-1)] (b4 (by clear S;(simp [mz,di, *])))
 exact S.aq 10 .nil [aa (aQ a.ag (aQ a.buf (aQ a.I (aQ a.mem k))))] (b4 (by clear S;(simp [mz,di, *])))
theorem qo {p:Prop} (h:p:=by clear S;first|rfl|(exfalso;omega)|(exfalso;simp_all;done)|(exfalso;simp_all;omega)):p:=h
theorem Y9 (w0:World) (dk:ah) (nv:b_) (Sk:GT.rd jW (fc w0.heap.size) w0 dk nv) (eD:Int) (dA:List Int) (oR:aD Int) (Sl:GT.rd jW (fc w0.heap.size) w0 dA oR):Calls Tryz.prog 4 [GT.val dk nv,aa eD,R dA.length oR.1].toArray w0 (fun e w'=>e= .returned (B true)/\bB ab w0 w'):=by
 refine Calls.run ab Tryz.func4 ?_
 intro ac β S
 have aoT:dA.length<=9223372036854775807:=ae.le Sl
 refine S.aI 14 .nil (decide ((dA.length:Int)>1048576)) (fun ac w β h1 a8 S=>?_) (fun ac w β h1 a8 S=>?_)
 ·exact S.aq 7 .nil [B true] (a6 qo)
 have aeB:dA.length<=1048576:=by have hx:=of_decide_eq_false h1;omega
 have EC:bQ w0 dA oR:=aaH Sl aeB
 have p0:=gQ (aS.aW dk) 1048576
 refine S.aI 23 (.cons (aE fun w hw=>Zv w dk nv (bJ (S.arg Sk) hw) 1048576 (by omega) (by omega)) .nil) (decide ((ch (aS.aW dk) 1048576)<0)) (fun ac w β b1 dJ S=>?_) (fun ac w β b1 dJ S=>?_)
 ·exact S.aq 7 .nil [B true] (a6 qo)
 have EB:bQ w0 dk nv:=aS.cut Sk (show aS.aW dk<=4194304 by omega)
 have aoL:aS.aW dk<=1048576:=by omega
 refine S.go 6 .nil fun ac w β S=>S.cJ (r:=dk) (d:=29) (DK w dk nv (S.rd (S.arg EB))) fun ac w N jQ fa S up bO d9=>?_
 clear up d9
 refine S.go 2 .nil fun ac w β S=>S.cJ (r:=dA) (d:=32) (uT w dA oR (S.rd (S.arg EC))) fun ac w N eM eh S up bA d13=>?_
 replace bO:=bO.up up
 clear up d13
 refine S.qN (r:=(ef dk eD dA).1) (r':=(ef dk eD dA).2) (d:=33) (Z3 w dk jQ (S.rd bO.ak) eD dA eM (S.rd bA.ak)) fun ac w N jj cv cD ka S up eA dK d21 d22 d23=>?_
 clear up d21
 clear d22
 refine S.go 11 .nil fun ac w β S=>S.cJ (r:=dk) (d:=37) (DK w dk nv (S.rd (S.arg EB))) fun ac w N oS xg S up e2 d31=>?_
 have d32:=J.w d31 eA.sub
 have d33:=J.w d31 dK.sub
 replace eA:=eA.up up
 replace dK:=dK.up up
 clear up d31
 refine S.go 7 .nil fun ac w β S=>S.cJ (r:=dA) (d:=39) (uT w dA oR (S.rd (S.arg EC))) fun ac w N jx mg S up e3 d37=>?_
 have d38:=J.w d37 eA.sub
 have d39:=J.w d37 dK.sub
 have d40:=J.w d37 e2.sub
 replace eA:=eA.up up
 replace dK:=dK.up up
 replace e2:=e2.up up
 clear up d37
 refine S.go 8 .nil fun ac w β S=>S.qN (r:=(ef dk eD dA).1) (r':=(ef dk eD dA).2) (d:=44) (Px w dk oS (S.rd e2.ak) eD dA jx (S.rd e3.ak)) fun ac w N oT nB zB kY S up dO hr d47 d48 d49=>?_
 have d50:=J.w d48 eA.sub
 have d51:=J.w d48 dK.sub
 have d52:=J.w d48 e2.sub
 have d53:=J.w d48 e3.sub
 have d54:=J.w d47 eA.sub
 have d55:=J.w d47 dK.sub
 have d56:=J.w d47 e2.sub
 have d57:=J.w d47 e3.sub
 replace eA:=eA.up up
 replace dK:=dK.up up
 replace e2:=e2.up up
 replace e3:=e3.up up
 clear up d47
 clear d48
 refine S.bd 16 (.cons (aE fun w hw=>DC w (ef dk eD dA).1 oT (bJ dO.ak hw) (ef dk eD dA).1 jj (bJ eA.ak hw)) .nil) (!(decide ((ef dk eD dA).1=(ef dk eD dA).1))) (fun ac w β vk S=>?_) (fun ac w β vk S=>?_)
 ·have sb:=cm vk
  have Eg:=of_decide_eq_false sb
  exact S.aq 14 .nil [B false] (a6 qo)
 have AD:=b9 vk
 have Rz:=of_decide_eq_true AD
 refine S.bd 7 (.cons (aE fun w hw=>z1 w (ef dk eD dA).2 nB (bJ hr.ak hw) (ef dk eD dA).2 cv (bJ dK.ak hw)) .nil) (!(decide ((ef dk eD dA).2=(ef dk eD dA).2))) (fun ac w β oB S=>?_) (fun ac w β oB S=>?_)
 ·have AE:=cm oB
  have aor:=of_decide_eq_false AE
  exact S.aq 7 .nil [B false] (a6 qo)
 have sc:=b9 oB
 have vg:=of_decide_eq_true sc
 refine S.go 5 .nil fun ac w β S=>?_
 refine dI ?_
 refine S.dR (f:=5) 5 (by kernel_rfl) (by kernel_rfl) fun w S=>?_
 refine S.a9 0 [] [] [(57,.v (GT.val dk oS))] .nil fun ac S=>?_
 refine S.a9 1 [] [] [(58,.v (GT.val dk nv))] .nil fun ac S=>?_
 refine ar.one (i:=2) (by kernel_rfl) ?_
 refine id (S.dB 59 (DK w dk nv (S.rd (S.arg EB))) fun ac w N oV Hk S up iY d71=>?_)
 refine ar.next S up (by kernel_rfl) ?_
 replace eA:=eA.up up
 replace dK:=dK.up up
 replace e2:=e2.up up
 replace e3:=e3.up up
 replace dO:=dO.up up
 replace hr:=hr.up up
 clear up d71
 refine S.iN 3 [] [(60,.v (B (decide (dk=dk))))] 4 [] (.cons (aE fun w hw=>DC w dk oS (bJ e2.ak hw) dk oV (bJ iY.ak hw)) .nil) fun ac w β S=>?_
 refine S.a9 4 [] [] [(61,.v (B (!(decide (dk=dk)))))] .nil fun ac S=>?_
 refine ar.done (by kernel_rfl) ?_ _
 refine S.ex fun S=>?_
 refine S.bd 1 .nil (!(decide (dk=dk))) (fun ac w β AG S=>?_) (fun ac w β AG S=>?_)
 ·have Jh:=cm AG
  have RB:=of_decide_eq_false Jh
  exact S.aq 7 .nil [B false] (a6 qo)
 have adD:=b9 AG
 have RC:=of_decide_eq_true adD
 refine S.go 8 .nil fun ac w β S=>S.cJ (r:=dA) (d:=64) (uT w dA oR (S.rd (S.arg EC))) fun ac w N VO OB S up sJ d86=>?_
 replace eA:=eA.up up
 replace dK:=dK.up up
 replace e2:=e2.up up
 replace e3:=e3.up up
 replace dO:=dO.up up
 replace hr:=hr.up up
 clear up d86
 refine S.bd 4 (.cons (aE fun w hw=>DD w dA jx (bJ e3.ak hw) dA VO (bJ sJ.ak hw)) .nil) (!(decide (dA=dA))) (fun ac w β vm S=>?_) (fun ac w β vm S=>?_)
 ·have tB:=cm vm
  have acU:=of_decide_eq_false tB
  exact S.aq 7 .nil [B false] (a6 qo)
 have AI:=b9 vm
 have I2:=of_decide_eq_true AI
 refine S.go 12 .nil fun ac w β S=>S.kc (hd:=mz) (d:=69) e2 (PU w dk oS xg (S.fP e2) (fun b hb=>(S.sep b (e2.sub b hb)).1) 1 (by omega) (by omega)) fun ac w N rD zr K8 S up rh Dw aqY amq amr=>?_
 replace eA:=eA.bk d32 up
 replace dK:=dK.bk d33 up
 replace e3:=e3.bk (J.symm d40) up
 replace dO:=dO.bk (J.symm d56) up
 replace hr:=hr.bk (J.symm d52) up
 clear up
 replace S:=S.z (σ':=⟨[(1,.v (aa eD)),(2,.v (R dA.length oR.1)),(3,.p 0 0),(8,.p 1 0),(9,.v (R (ef dk eD dA).2.length cv.1)),(11,.v (R dA.length jx.1)),(12,.p 3 0),(13,.v (R (ef dk eD dA).2.length nB.1)),(68,.v (aa 1)),(69,.v (aa K8))],[GT.cells dk nv,GT.cells (ef dk eD dA).1 jj,GT.cells dk oS,GT.cells (ef dk eD dA).1 oT]⟩)
 have Bo:GT.cells zr rD=GT.cells dk oS:=Dw
 replace S:=S.cast (σ':=⟨[(1,.v (aa eD)),(2,.v (R dA.length oR.1)),(3,.p 0 0),(8,.p 1 0),(9,.v (R (ef dk eD dA).2.length cv.1)),(11,.v (R dA.length jx.1)),(12,.p 3 0),(13,.v (R (ef dk eD dA).2.length nB.1)),(68,.v (aa 1)),(69,.v (aa K8))],[GT.cells dk nv,GT.cells (ef dk eD dA).1 jj,GT.cells zr rD,GT.cells (ef dk eD dA).1 oT]⟩) (by rw [Bo])
 clear Bo
 have ara:aS.aW dA<=4194304:=ee.iT e3.ak
 refine S.is fun S=>?_
 refine S.go 7 .nil fun ac w β S=>S.kc (hd:=aQ) (d:=72) e3 (DH w dA jx mg (S.fP e3) (fun b hb=>(S.sep b (e3.sub b hb)).1) K8 (by omega) (by omega)) fun ac w N ry aq4 afT S up aqm am0 aqZ amt amu=>?_
 replace eA:=eA.bk d38 up
 replace dK:=dK.bk d39 up
 replace dO:=dO.bk (J.symm d57) up
 replace hr:=hr.bk (J.symm d53) up
 clear up
 refine S.aI 9 .nil (decide (afT<0)) (fun ac w β ac9 aco S=>?_) (fun ac w β ac9 aco S=>?_)
 ·exact S.aq 20 .nil [B false] (a6 qo)
 refine S.go 6 (.cons (aE fun w hw=>DC w (ef dk eD dA).1 oT (bJ dO.ak hw) (ef dk eD dA).1 jj (bJ eA.ak hw)) .nil) fun ac w β S=>?_
 refine S.lt 81 vk fun S=>?_
 refine S.go 7 (.cons (aE fun w hw=>z1 w (ef dk eD dA).2 nB (bJ hr.ak hw) (ef dk eD dA).2 cv (bJ dK.ak hw)) .nil) fun ac w β S=>?_
 refine S.lt 86 oB fun S=>?_
 have arb:=akD dk eD dA dO.ak
 refine S.go 12 .nil fun ac w β S=>S.kc (hd:=mz) (d:=89) dO (PU w (ef dk eD dA).1 oT zB (S.fP dO) (fun b hb=>(S.sep b (dO.sub b hb)).1) 1 (by omega) (by omega)) fun ac w N rz qF Bx S up gJ Yh aq0 amw amx=>?_
 replace eA:=eA.bk d54 up
 replace dK:=dK.bk d55 up
 replace hr:=hr.bk (J.symm d49) up
 clear up
 replace S:=S.z (σ':=⟨[(1,.v (aa eD)),(2,.v (R dA.length oR.1)),(3,.p 0 0),(8,.p 1 0),(9,.v (R (ef dk eD dA).2.length cv.1)),(12,.p 3 0),(13,.v (R (ef dk eD dA).2.length nB.1)),(88,.v (aa 1)),(89,.v (aa Bx))],[GT.cells dk nv,GT.cells (ef dk eD dA).1 jj,GT.cells zr rD,GT.cells (ef dk eD dA).1 oT]⟩)
 have Bo:GT.cells qF rz=GT.cells (ef dk eD dA).1 oT:=Yh
 replace S:=S.cast (σ':=⟨[(1,.v (aa eD)),(2,.v (R dA.length oR.1)),(3,.p 0 0),(8,.p 1 0),(9,.v (R (ef dk eD dA).2.length cv.1)),(12,.p 3 0),(13,.v (R (ef dk eD dA).2.length nB.1)),(88,.v (aa 1)),(89,.v (aa Bx))],[GT.cells dk nv,GT.cells (ef dk eD dA).1 jj,GT.cells zr rD,GT.cells qF rz]⟩) (by rw [Bo])
 clear Bo
 have arc:aS.aW (ef dk eD dA).2<=4194304:=ee.iT hr.ak
 refine S.is fun S=>?_
 refine S.go 7 .nil fun ac w β S=>S.kc (hd:=aQ) (d:=92) hr (HK w (ef dk eD dA).2 nB kY (S.fP hr) (fun b hb=>(S.sep b (hr.sub b hb)).1) Bx (by omega) (by omega)) fun ac w N F4 zq K9 S up gv Yj aq1 amz amA=>?_
 replace eA:=eA.bk d50 up
 replace dK:=dK.bk d51 up
 replace gJ:=gJ.bk (J.symm (J.symm d49)) up
 clear up
 replace S:=S.z (σ':=⟨[(1,.v (aa eD)),(2,.v (R dA.length oR.1)),(3,.p 0 0),(8,.p 1 0),(9,.v (R (ef dk eD dA).2.length cv.1)),(12,.p 3 0),(13,.v (R (ef dk eD dA).2.length nB.1)),(91,.v (aa Bx)),(92,.v (aa K9))],[GT.cells dk nv,GT.cells (ef dk eD dA).1 jj,GT.cells zr rD,GT.cells qF rz]⟩)
 have b2:R zq.length F4.1=R (ef dk eD dA).2.length nB.1:=(List.cons.inj Yj).1
 replace S:=S.cast (σ':=⟨[(1,.v (aa eD)),(2,.v (R dA.length oR.1)),(3,.p 0 0),(8,.p 1 0),(9,.v (R (ef dk eD dA).2.length cv.1)),(12,.p 3 0),(13,.v (R zq.length F4.1)),(91,.v (aa Bx)),(92,.v (aa K9))],[GT.cells dk nv,GT.cells (ef dk eD dA).1 jj,GT.cells zr rD,GT.cells qF rz]⟩) (by rw [b2])
 clear b2
 refine S.is fun S=>?_
 refine S.aI 23 (.cons (aE fun w hw=>PR w qF rz (bJ gJ.ak hw) 1) .nil) (decide ((mz qF 1)<0)) (fun ac w β RG acv S=>?_) (fun ac w β RG acv S=>?_)
 ·exact S.aq 7 .nil [B false] (a6 qo)
 refine S.aI 18 (.cons (aE fun w hw=>DF w zq F4 (bJ gv.ak hw) (mz qF 1)) .nil) (decide ((aQ zq (mz qF 1))<0)) (fun ac w β RH acx S=>?_) (fun ac w β RH acx S=>?_)
 ·exact S.aq 7 .nil [B false] (a6 qo)
 refine S.aI 11 .nil ((aQ zq (mz qF 1)) != K9) (fun ac w β RI IT S=>?_) (fun ac w β RI IT S=>?_)
 ·exact S.aq 7 .nil [B false] (a6 qo)
 refine S.go 6 .nil fun ac w β S=>S.cJ (r:=dk) (d:=108) (DK w dk nv (S.rd (S.arg EB))) fun ac w N ajf GJ S up BP d144=>?_
 replace eA:=eA.up up
 replace dK:=dK.up up
 replace gJ:=gJ.up up
 replace gv:=gv.up up
 clear up d144
 refine S.go 2 .nil fun ac w β S=>S.cJ (r:=dA) (d:=111) (uT w dA oR (S.rd (S.arg EC))) fun ac w N F6 C8 S up yW d153=>?_
 replace eA:=eA.up up
 replace dK:=dK.up up
 replace gJ:=gJ.up up
 replace gv:=gv.up up
 replace BP:=BP.up up
 clear up d153
 refine S.qN (r:=(ef dk eD dA).1) (r':=(ef dk eD dA).2) (d:=112) (Px w dk ajf (S.rd BP.ak) eD dA F6 (S.rd yW.ak)) fun ac w N MK aji alQ Ol S up Fx sE d166 d167 d168=>?_
 replace eA:=eA.up up
 replace dK:=dK.up up
 replace gJ:=gJ.up up
 replace gv:=gv.up up
 clear up d166
 clear d167
 refine S.go 16 (.cons (aE fun w hw=>DC w (ef dk eD dA).1 MK (bJ Fx.ak hw) (ef dk eD dA).1 jj (bJ eA.ak hw)) .nil) fun ac w β S=>?_
 refine S.lt 119 vk fun S=>?_
 refine S.go 7 (.cons (aE fun w hw=>z1 w (ef dk eD dA).2 aji (bJ sE.ak hw) (ef dk eD dA).2 cv (bJ dK.ak hw)) .nil) fun ac w β S=>?_
 refine S.lt 124 oB fun S=>?_
 refine S.go 23 (.cons (aE fun w hw=>PR w qF rz (bJ gJ.ak hw) 1) .nil) fun ac w β S=>?_
 refine S.lt 129 RG fun S=>?_
 refine S.go 18 (.cons (aE fun w hw=>DF w zq F4 (bJ gv.ak hw) (mz qF 1)) .nil) fun ac w β S=>?_
 refine S.lt 134 RH fun S=>?_
 refine S.go 11 .nil fun ac w β S=>?_
 refine S.lt 137 RI fun S=>?_
 exact S.aq 9 .nil [B true] (a6 qo)
end Go.Proofs.YtjlocpdfcanlhaaGreat
