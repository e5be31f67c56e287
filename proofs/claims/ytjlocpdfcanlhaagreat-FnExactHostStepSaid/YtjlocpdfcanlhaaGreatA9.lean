/- The walks: what each function that the laws reach computes (part 5). -/
import Derived.Test.YtjlocpdfcanlhaaGreatA8
import Derived.Test.YtjlocpdfcanlhaaGreatProg
import Derived.KernelRfl
namespace Go.Proofs.YtjlocpdfcanlhaaGreat
open Go
set_option linter.unusedVariables false
set_option linter.unusedSimpArgs false
set_option maxRecDepth 100000
set_option maxHeartbeats 2000000
theorem Ka {p:Prop} (h:p:=by clear S;subst hn;(first|(rw [Ed (by assumption)];done)|(rw [Ee (by assumption)];done)|(rw [Ef (by assumption) (by assumption)];done)|(rw [Eg (by assumption) (by assumption)];done)|(rw [SS (by assumption) (by assumption) (by assumption) (by omega)];done)|(rw [SR (by assumption) (by assumption) (by assumption) (by omega)];done)|(rw [yr (by assumption) (by assumption) (by assumption) (by assumption)];first|rfl|(simp only [Ea (show bZ (el (aK h m).1.U g.toNat)=3\/bZ (el (aK h m).1.U g.toNat)=4 by omega),mg,mb,p3];simp_all;done)))):p:=h
theorem yB {p:Prop} (h:p:=by clear S;(first|(rw [Ed (by assumption)];done)|(rw [Ee (by assumption)];done)|(rw [Ef (by assumption) (by assumption)];done)|(rw [Eg (by assumption) (by assumption)];done)|(rw [SS (by assumption) (by assumption) (by assumption) (by omega)];done)|(rw [SR (by assumption) (by assumption) (by assumption) (by omega)];done)|(rw [yr (by assumption) (by assumption) (by assumption) (by assumption)];first|rfl|(simp only [Ea (show bZ (el (aK h m).1.U g.toNat)=3\/bZ (el (aK h m).1.U g.toNat)=4 by omega),mg,mb,p3];simp_all;done)))):p:=h
theorem KI {p:Prop} (h:p:=by clear S;subst hn;(first|(rw [Ed (by assumption)];done)|(rw [Ee (by assumption)];done)|(rw [Ef (by assumption) (by assumption)];done)|(rw [Eg (by assumption) (by assumption)];done)|(rw [yr (by assumption) (by assumption) (by assumption) (by assumption)];done))):p:=h
theorem yC {p:Prop} (h:p:=by clear S;(first|(rw [Ed (by assumption)];done)|(rw [Ee (by assumption)];done)|(rw [Ef (by assumption) (by assumption)];done)|(rw [Eg (by assumption) (by assumption)];done)|(rw [yr (by assumption) (by assumption) (by assumption) (by assumption)];done))):p:=h
theorem Pa (w0:World) (h:ah) (ai:cb) (a1:bT w0 h ai) (m:Int) (g:Int):Calls Tryz.prog 9 [GT.val h ai,aa m,aa g].toArray w0 (rC ab w0 ((dt h m g).1:ah) ((dt h m g).2:Bool)):=by
 refine Calls.run ab Tryz.func9 ?_
 intro ac β S
 have m1:h.mem.length<=4194304:=af.le (bz.mem (d:=h) a1)
 have m2:h.I.length<=4194304:=af.le (bz.I (d:=h) a1)
 have mZ:h.buf.length<=4194304:=af.le (bz.buf (d:=h) a1)
 have m0:h.ag.length<=4194304:=af.le (bz.ag (d:=h) a1)
 refine S.go 10 .nil fun ac w β S=>S.cN (r:=h) (d:=21) (Po w h ai (S.rd (S.arg a1))) fun ac w N ae br S up aD d4=>?_
 clear up d4
 obtain⟨dO,eX,e3,fL,bJ,bE,bG,bh,_,_,_,_,d17,d18,d19,d20,d21,d22⟩:=jL aD
 refine S.go 8 .nil fun ac w β S=>S.rA (r:=(aK h m).1) (r':=(aK h m).2) (d:=25) (G6 w h ai (S.rd (S.arg a1)) m) fun ac w N e2 c2 ch kS S up dQ fC d29 d30 d31=>?_
 replace bJ:=bJ.up up
 replace bE:=bE.up up
 replace bG:=bG.up up
 replace bh:=bh.up up
 clear up d29
 clear d30
 refine S.bb 15 (.cons (aE fun w hw=>O_ w h ai (bN (S.arg a1) hw)) .nil) (!(eD h)) (fun ac w β kZ S=>?_) (fun ac w β kZ S=>?_)
 ·have pg:=cn kZ
  refine S.bq 31 .nil [GT.val h ae,B false] fun ac w β S=>?_
  have kd:=fi (x:=h) (p:=ae) bJ bE bG bh d17 d18 d19 d20 d21 d22
  exact f_ (p':=()) S (show(dt h m g).1=h from yB) (show(dt h m g).2=false from yC) rfl rfl kd trivial
 have tg:=b_ kZ
 have Re:=r_ tg
 refine S.bb 4 .nil (!(aK h m).2) (fun ac w β p8 S=>?_) (fun ac w β p8 S=>?_)
 ·have om:=cn p8
  refine S.bq 27 .nil [GT.val h ae,B false] fun ac w β S=>?_
  have wc:=fi (x:=h) (p:=ae) bJ bE bG bh d17 d18 d19 d20 d21 d22
  exact f_ (p':=()) S (show(dt h m g).1=h from yB) (show(dt h m g).2=false from yC) rfl rfl wc trivial
 have Ae:=b_ p8
 have anG:=vX Ae
 refine S.bb 8 (.cons (aE fun w hw=>jo w g ((aK h m).1.U.length:Int) (by omega)) .nil) (!(a3 g 0 (((aK h m).1.U.length:Int)-1))) (fun ac w β Af S=>?_) (fun ac w β Af S=>?_)
 ·have acX:=cn Af
  have anH:=dm acX
  refine S.bq 19 .nil [GT.val h ae,B false] fun ac w β S=>?_
  have q8:=fi (x:=h) (p:=ae) bJ bE bG bh d17 d18 d19 d20 d21 d22
  exact f_ (p':=()) S (show(dt h m g).1=h from yB) (show(dt h m g).2=false from yC) rfl rfl q8 trivial
 have acY:=b_ Af
 have anJ:=cU acY
 have al_:=tZ (el (aK h m).1.U g.toNat)
 refine S.aI 10 (.cons (cp (aU.U (d:=(aK h m).1) dQ.ak) g Tryz.underlying71) (.cons (dy (aU.U (d:=(aK h m).1) dQ.ak) 70 g.toNat) (.cons (aE fun w hw=>zH w (el (aK h m).1.U g.toNat) (e2.U.2 g.toNat) (bN (af.el (aU.U (d:=(aK h m).1) dQ.ak) g.toNat (by omega)) hw)) .nil))) ((bZ (el (aK h m).1.U g.toNat))==0) (fun ac w β Ah te S=>?_) (fun ac w β Ah te S=>?_)
 ·refine S.bq 9 .nil [GT.val h ae,B false] fun ac w β S=>?_
  have eY:=fi (x:=h) (p:=ae) bJ bE bG bh d17 d18 d19 d20 d21 d22
  exact f_ (p':=()) S (show(dt h m g).1=h from yB) (show(dt h m g).2=false from yC) rfl rfl eY trivial
 have ama:=tZ (el (aK h m).1.U g.toNat)
 refine S.go 42 (.cons (cp (aU.U (d:=(aK h m).1) dQ.ak) g Tryz.underlying71) (.cons (dy (aU.U (d:=(aK h m).1) dQ.ak) 70 g.toNat) (.cons (aE fun w hw=>zH w (el (aK h m).1.U g.toNat) (e2.U.2 g.toNat) (bN (af.el (aU.U (d:=(aK h m).1) dQ.ak) g.toNat (by omega)) hw)) (.cons (aE fun w hw=>OZ w (el (aK h m).1.U g.toNat) (e2.U.2 g.toNat) (bN (af.el (aU.U (d:=(aK h m).1) dQ.ak) g.toNat (by omega)) hw)) .nil)))) fun ac w β S=>?_
 refine S.pV ⟨[(1,.v (aa m)),(2,.v (aa g)),(3,.p 0 0),(6,.p 1 0),(8,.p 2 0),(11,.p 4 0),(12,.v (aa (bZ (el (aK h m).1.U g.toNat)))),(13,.v (aa (bm (el (aK h m).1.U g.toNat)))),(62,.v (aa (bZ (el (aK h m).1.U g.toNat)))),(63,.v (B (((bZ (el (aK h m).1.U g.toNat))==3)||((bZ (el (aK h m).1.U g.toNat))==4))))],[GT.cells h ai,ck ah,[R h.mem.length ae.mem.1,R h.I.length ae.I.1,R h.buf.length ae.buf.1,R h.ag.length ae.ag.1],GT.cells (aK h m).1 e2,GT.cells (el (aK h m).1.U g.toNat) (e2.U.2 g.toNat)]⟩ ?_ ?_
 ·clear S;intro S
  refine S.aI 0 .nil ((bZ (el (aK h m).1.U g.toNat))==3) (fun ac w β IN acg S=>?_) (fun ac w β IN acg S=>?_)
  ·exact S.dF 2 .nil fun ac w β S=>⟨rfl,_,by rw [IN];exact S.z⟩
  exact S.dF 5 .nil fun ac w β S=>⟨rfl,_,by rw [IN];exact S.z⟩
 clear S;intro ac w β S
 refine S.bb 1 .nil (((bZ (el (aK h m).1.U g.toNat))==3)||((bZ (el (aK h m).1.U g.toNat))==4)) (fun ac w β u0 S=>?_) (fun ac w β u0 S=>?_)
 ·have Iu:=Dx u0
  refine S.go 9 .nil fun ac w β S=>?_
  refine dI ?_
  let lB:b1:=⟨[(1,.v (aa m)),(2,.v (aa g)),(3,.p 0 0),(6,.p 1 0),(11,.p 4 0),(13,.v (aa (bm (el (aK h m).1.U g.toNat)))),(14,.v (B ((bZ (el (aK h m).1.U g.toNat))==4)))],[GT.cells h ai,ck ah,[R h.mem.length ae.mem.1,R h.I.length ae.I.1,R h.buf.length ae.buf.1,R h.ag.length ae.ag.1],GT.cells (aK h m).1 e2,GT.cells (el (aK h m).1.U g.toNat) (e2.U.2 g.toNat)]⟩
  obtain⟨bA,bx,bS,S,bJ,bE,bG,bh,dQ⟩:∃bA bx bS,aj Tryz.prog Tryz.f9.ntmps w0 ab bA bx bS lB ac w/\ad w0 ab bA bx dO h.mem ae.mem/\ad w0 ab bA bx eX h.I ae.I/\ad w0 ab bA bx e3 h.buf ae.buf/\ad w0 ab bA bx fL h.ag ae.ag/\ad w0 ab bA bx ch (aK h m).1 e2:=⟨_,_,_,S.z,bJ,bE,bG,bh,dQ⟩
  obtain⟨av,hn⟩:∃z,z=cL h m g (cr (bm (el (aK h m).1.U g.toNat))) (dB ((bZ (el (aK h m).1.U g.toNat))==4)) false:=⟨_,rfl⟩
  have afG:=KW (congrArg Prod.fst hn) (Eh (by assumption) (by assumption) (by assumption))
  try dsimp only at afG
  obtain⟨av,hn⟩:∃z,z=cL h m g (cr (bm (el (aK h m).1.U g.toNat))) (dB ((bZ (el (aK h m).1.U g.toNat))==4)) false:=⟨_,rfl⟩
  have afJ:=KW (congrArg Prod.fst hn) (Eh (by assumption) (by assumption) (by assumption))
  try dsimp only at afJ
  refine mD (fun ac w=>∃kL j3 kM hL kf jO fl j2 u N β,aj Tryz.prog Tryz.f9.ntmps w0 ab u N β (lB.dl [3] [(15,.p 5 0),(16,.v (aa av.2.1)),(17,.v (B av.2.2))] 6 [(5,[R av.1.mem.length kf.1,R av.1.I.length fl.1,R av.1.buf.length kL.1,R av.1.ag.length kM.1])]) ac w/\ad w0 ab u N dO h.mem ae.mem/\ad w0 ab u N eX h.I ae.I/\ad w0 ab u N e3 h.buf ae.buf/\ad w0 ab u N fL h.ag ae.ag/\ad w0 ab u N ch (aK h m).1 e2/\ad w0 ab u N j3 av.1.buf kL/\ad w0 ab u N hL av.1.ag kM/\ad w0 ab u N jO av.1.mem kf/\ad w0 ab u N j2 av.1.I fl/\J dO j3/\J dO hL/\J dO jO/\J dO j2/\J eX j3/\J eX hL/\J eX jO/\J eX j2/\J e3 j3/\J e3 hL/\J e3 jO/\J e3 j2/\J fL j3/\J fL hL/\J fL jO/\J fL j2/\J ch j3/\J ch hL/\J ch jO/\J ch j2/\J j3 hL/\J j3 jO/\J j3 j2/\J hL jO/\J hL j2/\J jO j2/\a_ av.2.1) ?_ ?_
  ·refine S.dP (f:=16) 13 (by kernel_rfl) (by kernel_rfl) fun w S=>?_
   refine S.hm 11 [0,1,2,3,5] [] [(69,.v (GT.val h ai)),(70,.v (aa m)),(71,.v (aa g)),(72,.v (aa (bm (el (aK h m).1.U g.toNat)))),(74,.v (B ((bZ (el (aK h m).1.U g.toNat))==4)))] .nil fun ac S=>?_
   refine ar.m8 fun W aH=>?_
   refine ar.mP (l':=cu 16 [0,1,2,3,5]) (by kernel_rfl) ?_
   have adn ac w kL j3 kM hL kf jO fl j2 u N β (S:aj Tryz.prog Tryz.f9.ntmps w0 ab u N β (lB.dl [3] [(15,.p 5 0),(16,.v (aa av.2.1)),(17,.v (B av.2.2))] 6 [(5,[R av.1.mem.length kf.1,R av.1.I.length fl.1,R av.1.buf.length kL.1,R av.1.ag.length kM.1])]) ac w) (bJ:ad w0 ab u N dO h.mem ae.mem) (bE:ad w0 ab u N eX h.I ae.I) (bG:ad w0 ab u N e3 h.buf ae.buf) (bh:ad w0 ab u N fL h.ag ae.ag) (dQ:ad w0 ab u N ch (aK h m).1 e2) (gW:ad w0 ab u N j3 av.1.buf kL) (iQ:ad w0 ab u N hL av.1.ag kM) (jJ:ad w0 ab u N jO av.1.mem kf) (hG:ad w0 ab u N j2 av.1.I fl) (d152:J dO j3) (d153:J dO hL) (d154:J dO jO) (d155:J dO j2) (d156:J eX j3) (d157:J eX hL) (d158:J eX jO) (d159:J eX j2) (d160:J e3 j3) (d161:J e3 hL) (d162:J e3 jO) (d163:J e3 j2) (d164:J fL j3) (d165:J fL hL) (d166:J fL jO) (d167:J fL j2) (d168:J ch j3) (d169:J ch hL) (d170:J ch jO) (d171:J ch j2) (d172:J j3 hL) (d173:J j3 jO) (d174:J j3 j2) (d175:J hL jO) (d176:J hL j2) (d177:J jO j2) (i108:a_ av.2.1):W 0 (cu 16 [0,1,2,3,4,5,6,7,8,9,10,11,12,13,14,15]) ac w:=by
    exact nb aH ⟨rfl,kL,j3,kM,hL,kf,jO,fl,j2,_,_,_,S.z,bJ,bE,bG,bh,dQ,gW,iQ,jJ,hG,d152,d153,d154,d155,d156,d157,d158,d159,d160,d161,d162,d163,d164,d165,d166,d167,d168,d169,d170,d171,d172,d173,d174,d175,d176,d177,i108⟩
   have Rr ac w re iM sx ij gQ gd mz jv u N β (S:aj Tryz.prog Tryz.f9.ntmps w0 ab u N β (lB.dl [3] [(15,.p 5 0),(77,.v (GT.val av.1 (⟨gQ,mz,re,sx⟩:cb))),(78,.v (aa av.2.1)),(79,.v (B av.2.2))] 6 [(5,ck ah)]) ac w) (bJ:ad w0 ab u N dO h.mem ae.mem) (bE:ad w0 ab u N eX h.I ae.I) (bG:ad w0 ab u N e3 h.buf ae.buf) (bh:ad w0 ab u N fL h.ag ae.ag) (dQ:ad w0 ab u N ch (aK h m).1 e2) (oD:ad w0 ab u N iM av.1.buf re) (nP:ad w0 ab u N ij av.1.ag sx) (gH:ad w0 ab u N gd av.1.mem gQ) (my:ad w0 ab u N jv av.1.I mz) (d179:J dO iM) (d180:J dO ij) (d181:J dO gd) (d182:J dO jv) (d183:J eX iM) (d184:J eX ij) (d185:J eX gd) (d186:J eX jv) (d187:J e3 iM) (d188:J e3 ij) (d189:J e3 gd) (d190:J e3 jv) (d191:J fL iM) (d192:J fL ij) (d193:J fL gd) (d194:J fL jv) (d195:J ch iM) (d196:J ch ij) (d197:J ch gd) (d198:J ch jv) (d199:J iM ij) (d200:J iM gd) (d201:J iM jv) (d202:J ij gd) (d203:J ij jv) (d204:J gd jv) (i108:a_ av.2.1) (al:d_ bx bA N u) (aP:cS lB.aM.length bS β):W 3 (cu 16 [0,1,2,3,4,5,6,7,8,9,10,11,12]) ac w:=by
    exact en aH 13 (S.wl aH [14,15] .nil fun _ _ _ S=>adn _ _ re iM sx ij gQ gd mz jv _ _ _ S bJ bE bG bh dQ oD nP gH my d179 d180 d181 d182 d183 d184 d185 d186 d187 d188 d189 d190 d191 d192 d193 d194 d195 d196 d197 d198 d199 d200 d201 d202 d203 d204 i108)
   have DS ac w re iM sx ij gQ gd mz jv u N β (S:aj Tryz.prog Tryz.f9.ntmps w0 ab u N β (lB.dl [3] [(77,.v (GT.val av.1 (⟨gQ,mz,re,sx⟩:cb))),(78,.v (aa av.2.1)),(79,.v (B av.2.2))] 5 []) ac w) (bJ:ad w0 ab u N dO h.mem ae.mem) (bE:ad w0 ab u N eX h.I ae.I) (bG:ad w0 ab u N e3 h.buf ae.buf) (bh:ad w0 ab u N fL h.ag ae.ag) (dQ:ad w0 ab u N ch (aK h m).1 e2) (oD:ad w0 ab u N iM av.1.buf re) (nP:ad w0 ab u N ij av.1.ag sx) (gH:ad w0 ab u N gd av.1.mem gQ) (my:ad w0 ab u N jv av.1.I mz) (d206:J dO iM) (d207:J dO ij) (d208:J dO gd) (d209:J dO jv) (d210:J eX iM) (d211:J eX ij) (d212:J eX gd) (d213:J eX jv) (d214:J e3 iM) (d215:J e3 ij) (d216:J e3 gd) (d217:J e3 jv) (d218:J fL iM) (d219:J fL ij) (d220:J fL gd) (d221:J fL jv) (d222:J ch iM) (d223:J ch ij) (d224:J ch gd) (d225:J ch jv) (d226:J iM ij) (d227:J iM gd) (d228:J iM jv) (d229:J ij gd) (d230:J ij jv) (d231:J gd jv) (i108:a_ av.2.1) (al:d_ bx bA N u) (aP:cS lB.aM.length bS β):W 4 (cu 16 [0,1,2,3,4,5,6,7,8,9,10,11]) ac w:=by
    exact en aH 12 (S.e0 aH al aP [] .nil fun _ _ _ S ca=>Rr _ _ re iM sx ij gQ gd mz jv _ _ _ S bJ bE bG bh dQ oD nP gH my d206 d207 d208 d209 d210 d211 d212 d213 d214 d215 d216 d217 d218 d219 d220 d221 d222 d223 d224 d225 d226 d227 d228 d229 d230 d231 i108 al ca)
   have Rv ac w u N β (S:aj Tryz.prog Tryz.f9.ntmps w0 ab u N β (lB.dl [3] [(15,.p 5 0),(69,.v (GT.val h ai)),(70,.v (aa m)),(71,.v (aa g)),(73,.v (aa (cr (bm (el (aK h m).1.U g.toNat))))),(75,.v (aa (dB ((bZ (el (aK h m).1.U g.toNat))==4))))] 6 [(5,ck ah)]) ac w) (bJ:ad w0 ab u N dO h.mem ae.mem) (bE:ad w0 ab u N eX h.I ae.I) (bG:ad w0 ab u N e3 h.buf ae.buf) (bh:ad w0 ab u N fL h.ag ae.ag) (dQ:ad w0 ab u N ch (aK h m).1 e2) (al:d_ bx bA N u) (aP:cS lB.aM.length bS β):W 8 (cu 16 [0,1,2,3,4,5,6,12]) ac w:=by
    refine en aH 7 ?_
    refine id (S.call3 (r:=av.1) (r':=av.2.1) (r'':=av.2.2) (d:=76) (by rw [hn];exact Pc w h ai (S.rd (S.arg a1)) m g (cr (bm (el (aK h m).1.U g.toNat))) (rF (jU (af.el (aU.U (d:=(aK h m).1) dQ.ak) g.toNat (by omega)))) (dB ((bZ (el (aK h m).1.U g.toNat))==4))) (by kernel_rfl) rfl fun ac w N hJ jk S up gF d237 i238=>?_)
    have R5:=fun b h=>(⟨(up b (al b h).1).1,(up b (al b h).1).2.trans (al b h).2⟩:_/\_)
    refine ar.dh S R5 aP fun bk=>?_
    have d240:=J.w d237 bJ.sub
    have d241:=J.w d237 bE.sub
    have d242:=J.w d237 bG.sub
    have d243:=J.w d237 bh.sub
    have d244:=J.w d237 dQ.sub
    replace bJ:=bJ.up up
    replace bE:=bE.up up
    replace bG:=bG.up up
    replace bh:=bh.up up
    replace dQ:=dQ.up up
    clear up d237
    obtain⟨Wq,Wr,Ws,Gd,ahj,ahk,ahl,Bw,B8,B9,B_,Ca,d257,d258,d259,d260,d261,d262⟩:=jL gF
    exact S.cZ aH [8,9,10,11] bk fun _ S=>Rr _ _ hJ.buf Ws hJ.ag Gd hJ.mem Wq hJ.I Wr _ _ _ S bJ bE bG bh dQ ahl Bw ahj ahk (J.symm (J.part (J.symm d240) B_)) (J.symm (J.part (J.symm d240) Ca)) (J.symm (J.part (J.symm d240) B8)) (J.symm (J.part (J.symm d240) B9)) (J.symm (J.part (J.symm d241) B_)) (J.symm (J.part (J.symm d241) Ca)) (J.symm (J.part (J.symm d241) B8)) (J.symm (J.part (J.symm d241) B9)) (J.symm (J.part (J.symm d242) B_)) (J.symm (J.part (J.symm d242) Ca)) (J.symm (J.part (J.symm d242) B8)) (J.symm (J.part (J.symm d242) B9)) (J.symm (J.part (J.symm d243) B_)) (J.symm (J.part (J.symm d243) Ca)) (J.symm (J.part (J.symm d243) B8)) (J.symm (J.part (J.symm d243) B9)) (J.symm (J.part (J.symm d244) B_)) (J.symm (J.part (J.symm d244) Ca)) (J.symm (J.part (J.symm d244) B8)) (J.symm (J.part (J.symm d244) B9)) d262 (J.symm d258) (J.symm d260) (J.symm d259) (J.symm d261) d257 i238 R5 aP
   have IY ac w u N β (S:aj Tryz.prog Tryz.f9.ntmps w0 ab u N β (lB.dl [3] [(69,.v (GT.val h ai)),(70,.v (aa m)),(71,.v (aa g)),(73,.v (aa (cr (bm (el (aK h m).1.U g.toNat))))),(75,.v (aa (dB ((bZ (el (aK h m).1.U g.toNat))==4))))] 5 []) ac w) (bJ:ad w0 ab u N dO h.mem ae.mem) (bE:ad w0 ab u N eX h.I ae.I) (bG:ad w0 ab u N e3 h.buf ae.buf) (bh:ad w0 ab u N fL h.ag ae.ag) (dQ:ad w0 ab u N ch (aK h m).1 e2) (al:d_ bx bA N u) (aP:cS lB.aM.length bS β):W 9 (cu 16 [0,1,2,3,4,5,6]) ac w:=by
    refine gx aH 7 12 ?_ (S.e0 aH al aP [] .nil fun _ _ _ S ca=>Rv _ _ _ _ _ S bJ bE bG bh dQ al ca)
    refine id (S.call3 (r:=av.1) (r':=av.2.1) (r'':=av.2.2) (d:=76) (by rw [hn];exact Pc w h ai (S.rd (S.arg a1)) m g (cr (bm (el (aK h m).1.U g.toNat))) (rF (jU (af.el (aU.U (d:=(aK h m).1) dQ.ak) g.toNat (by omega)))) (dB ((bZ (el (aK h m).1.U g.toNat))==4))) (by kernel_rfl) rfl fun ac w N Fx alp S up ahm d268 i269=>?_)
    have R7:=fun b h=>(⟨(up b (al b h).1).1,(up b (al b h).1).2.trans (al b h).2⟩:_/\_)
    refine ar.dh S R7 aP fun bk=>?_
    have d271:=J.w d268 bJ.sub
    have d272:=J.w d268 bE.sub
    have d273:=J.w d268 bG.sub
    have d274:=J.w d268 bh.sub
    have d275:=J.w d268 dQ.sub
    replace bJ:=bJ.up up
    replace bE:=bE.up up
    replace bG:=bG.up up
    replace bh:=bh.up up
    replace dQ:=dQ.up up
    clear up d268
    obtain⟨zf,Wt,Wu,Wv,Bx,ahn,aho,ahp,Cb,Cc,Cd,Ce,d288,d289,d290,d291,d292,d293⟩:=jL ahm
    exact S.cZ aH [8,9,10,11] bk fun _ S=>DS _ _ Fx.buf Wu Fx.ag Wv Fx.mem zf Fx.I Wt _ _ _ S bJ bE bG bh dQ aho ahp Bx ahn (J.symm (J.part (J.symm d271) Cd)) (J.symm (J.part (J.symm d271) Ce)) (J.symm (J.part (J.symm d271) Cb)) (J.symm (J.part (J.symm d271) Cc)) (J.symm (J.part (J.symm d272) Cd)) (J.symm (J.part (J.symm d272) Ce)) (J.symm (J.part (J.symm d272) Cb)) (J.symm (J.part (J.symm d272) Cc)) (J.symm (J.part (J.symm d273) Cd)) (J.symm (J.part (J.symm d273) Ce)) (J.symm (J.part (J.symm d273) Cb)) (J.symm (J.part (J.symm d273) Cc)) (J.symm (J.part (J.symm d274) Cd)) (J.symm (J.part (J.symm d274) Ce)) (J.symm (J.part (J.symm d274) Cb)) (J.symm (J.part (J.symm d274) Cc)) (J.symm (J.part (J.symm d275) Cd)) (J.symm (J.part (J.symm d275) Ce)) (J.symm (J.part (J.symm d275) Cb)) (J.symm (J.part (J.symm d275) Cc)) d293 (J.symm d289) (J.symm d291) (J.symm d290) (J.symm d292) d288 i269 R7 aP
   have Rw ac w u N β (S:aj Tryz.prog Tryz.f9.ntmps w0 ab u N β (lB.dl [3] [(15,.p 5 0),(69,.v (GT.val h ai)),(70,.v (aa m)),(71,.v (aa g)),(73,.v (aa (cr (bm (el (aK h m).1.U g.toNat))))),(74,.v (B ((bZ (el (aK h m).1.U g.toNat))==4)))] 6 [(5,ck ah)]) ac w) (bJ:ad w0 ab u N dO h.mem ae.mem) (bE:ad w0 ab u N eX h.I ae.I) (bG:ad w0 ab u N e3 h.buf ae.buf) (bh:ad w0 ab u N fL h.ag ae.ag) (dQ:ad w0 ab u N ch (aK h m).1 e2) (al:d_ bx bA N u) (aP:cS lB.aM.length bS β):W 9 (cu 16 [0,1,2,3,4,5,12]) ac w:=by
    exact en aH 6 (S.e0 aH al aP [] (.cons (aE fun w hw=>G7 w ((bZ (el (aK h m).1.U g.toNat))==4)) .nil) fun _ _ _ S ca=>Rv _ _ _ _ _ S bJ bE bG bh dQ al ca)
   have adF ac w u N β (S:aj Tryz.prog Tryz.f9.ntmps w0 ab u N β (lB.dl [3] [(69,.v (GT.val h ai)),(70,.v (aa m)),(71,.v (aa g)),(73,.v (aa (cr (bm (el (aK h m).1.U g.toNat))))),(74,.v (B ((bZ (el (aK h m).1.U g.toNat))==4)))] 5 []) ac w) (bJ:ad w0 ab u N dO h.mem ae.mem) (bE:ad w0 ab u N eX h.I ae.I) (bG:ad w0 ab u N e3 h.buf ae.buf) (bh:ad w0 ab u N fL h.ag ae.ag) (dQ:ad w0 ab u N ch (aK h m).1 e2) (al:d_ bx bA N u) (aP:cS lB.aM.length bS β):W 10 (cu 16 [0,1,2,3,4,5]) ac w:=by
    exact gx aH 6 12 (S.e0 aH al aP [] (.cons (aE fun w hw=>G7 w ((bZ (el (aK h m).1.U g.toNat))==4)) .nil) fun _ _ _ S ca=>IY _ _ _ _ _ S bJ bE bG bh dQ al ca) (S.e0 aH al aP [] .nil fun _ _ _ S ca=>Rw _ _ _ _ _ S bJ bE bG bh dQ al ca)
   have adG ac w u N β (S:aj Tryz.prog Tryz.f9.ntmps w0 ab u N β (lB.dl [3] [(15,.p 5 0),(69,.v (GT.val h ai)),(70,.v (aa m)),(71,.v (aa g)),(72,.v (aa (bm (el (aK h m).1.U g.toNat)))),(74,.v (B ((bZ (el (aK h m).1.U g.toNat))==4)))] 6 [(5,ck ah)]) ac w) (bJ:ad w0 ab u N dO h.mem ae.mem) (bE:ad w0 ab u N eX h.I ae.I) (bG:ad w0 ab u N e3 h.buf ae.buf) (bh:ad w0 ab u N fL h.ag ae.ag) (dQ:ad w0 ab u N ch (aK h m).1 e2) (al:d_ bx bA N u) (aP:cS lB.aM.length bS β):W 10 (cu 16 [0,1,2,3,5,12]) ac w:=by
    exact en aH 4 (S.e0 aH al aP [] (.cons (aE fun w hw=>zF w (bm (el (aK h m).1.U g.toNat)) (jU (af.el (aU.U (d:=(aK h m).1) dQ.ak) g.toNat (by omega)))) .nil) fun _ _ _ S ca=>Rw _ _ _ _ _ S bJ bE bG bh dQ al ca)
   have al:d_ bx bA bx bA:=fun b h=>⟨h,rfl⟩
   have aP:cS lB.aM.length bS bS:=fun _ _=>rfl
   exact gx aH 4 12 (S.e0 aH al aP [] (.cons (aE fun w hw=>zF w (bm (el (aK h m).1.U g.toNat)) (jU (af.el (aU.U (d:=(aK h m).1) dQ.ak) g.toNat (by omega)))) .nil) fun _ _ _ S ca=>adF _ _ _ _ _ S bJ bE bG bh dQ al ca) (S.e0 aH al aP [] .nil fun _ _ _ S ca=>adG _ _ _ _ _ S bJ bE bG bh dQ al ca)
  clear S bJ bE bG bh dQ
  rintro ac w ⟨kL,j3,kM,hL,kf,jO,fl,j2,u,N,β,S,bJ,bE,bG,bh,dQ,gW,iQ,jJ,hG,d297,d298,d299,d300,d301,d302,d303,d304,d305,d306,d307,d308,d309,d310,d311,d312,d313,d314,d315,d316,d317,d318,d319,d320,d321,d322,i108⟩
  refine S.ex fun S=>?_
  refine S.bb 10 .nil (!av.2.2) (fun ac w β IH S=>?_) (fun ac w β IH S=>?_)
  ·have anV:=cn IH
   refine S.go 1 .nil fun ac w β S=>?_
   refine dI ?_
   refine S.dP (f:=7) 6 (by kernel_rfl) (by kernel_rfl) fun w S=>?_
   refine S.hm 4 [0,1,3] [] [(91,.v (GT.val (el (aK h m).1.U g.toNat) (e2.U.2 g.toNat))),(92,.v (aa (bm (el (aK h m).1.U g.toNat)))),(94,.v (B ((bZ (el (aK h m).1.U g.toNat))==4)))] .nil fun ac S=>?_
   refine S.iI 2 [] [(93,.v (aa (cr (bm (el (aK h m).1.U g.toNat)))))] 6 [] (.cons (aE fun w hw=>zF w (bm (el (aK h m).1.U g.toNat)) (jU (af.el (aU.U (d:=(aK h m).1) dQ.ak) g.toNat (by omega)))) .nil) fun ac w β S=>?_
   refine S.iI 4 [] [(95,.v (GT.val (gU (cr (bm (el (aK h m).1.U g.toNat))) ((bZ (el (aK h m).1.U g.toNat))==4)) ()))] 6 [] (.cons (aE fun w hw=>O4 w (cr (bm (el (aK h m).1.U g.toNat))) (rF (jU (af.el (aU.U (d:=(aK h m).1) dQ.ak) g.toNat (by omega)))) ((bZ (el (aK h m).1.U g.toNat))==4)) .nil) fun ac w β S=>?_
   refine ar.one (i:=5) (by kernel_rfl) ?_
   refine id (S.dz 96 (zG w (el (aK h m).1.U g.toNat) (e2.U.2 g.toNat) (S.rd (af.el (aU.U (d:=(aK h m).1) dQ.ak) g.toNat (by omega))) (gU (cr (bm (el (aK h m).1.U g.toNat))) ((bZ (el (aK h m).1.U g.toNat))==4)) (Ic (rF (jU (af.el (aU.U (d:=(aK h m).1) dQ.ak) g.toNat (by omega)))) ((bZ (el (aK h m).1.U g.toNat))==4))) fun ac w N yO Wx S up ahr d328=>?_)
   refine ar.next S up (by kernel_rfl) ?_
   have d334:=J.w d328 jJ.sub
   have d335:=J.w d328 hG.sub
   have d336:=J.w d328 gW.sub
   have d337:=J.w d328 iQ.sub
   replace bJ:=bJ.up up
   replace bE:=bE.up up
   replace bG:=bG.up up
   replace bh:=bh.up up
   replace dQ:=dQ.up up
   replace jJ:=jJ.up up
   replace hG:=hG.up up
   replace gW:=gW.up up
   replace iQ:=iQ.up up
   clear up d328
   refine S.c9 6 [] [] 6 [(4,GT.cells ({(el (aK h m).1.U g.toNat) with exit:=(gU (cr (bm (el (aK h m).1.U g.toNat))) ((bZ (el (aK h m).1.U g.toNat))==4))}:ax) yO)] .nil fun ac w β S=>?_
   refine ar.done (by kernel_rfl) ?_ _
   refine S.ex fun S=>?_
   refine S.go 3 .nil fun ac w β S=>?_
   refine dI ?_
   refine S.dP (f:=10) 9 (by kernel_rfl) (by kernel_rfl) fun w S=>?_
   refine S.hm 1 [0,1,2,3,4,5,6,7,8] [] [(117,.v (GT.val ({(el (aK h m).1.U g.toNat) with exit:=(gU (cr (bm (el (aK h m).1.U g.toNat))) ((bZ (el (aK h m).1.U g.toNat))==4))}:ax) yO)),(118,.v (bg (fl.2 m.toNat).U.1.b ((fl.2 m.toNat).U.1.off+g.toNat*15)))] (.cons (cp hG.ak m Tryz.underlying28) (.cons (cz hG.ak 71 m.toNat 3 (R (el av.1.I m.toNat).U.length (fl.2 m.toNat).U.1)) (.cons (cp (aU.U (d:=(el av.1.I m.toNat)) (af.el hG.ak m.toNat (by omega))) g Tryz.underlying71) .nil))) fun ac S=>?_
   refine ar.one (i:=9) (by kernel_rfl) ?_
   obtain⟨als,E3,pF,Xu⟩:=o_ hG (k:=m.toNat) (show m.toNat<av.1.I.length by omega)
   have ao7:=af.le E3.ak
   have agJ:=E3.sub
   refine id (S.kO (α:=ax) E3 (t:=70) (k:=g.toNat) (off:=(fl.2 m.toNat).U.1.off+g.toNat*15) ahr (J.symm (J.symm (J.part d335 pF))) fun w N alu apQ S up Us d347 ajz T3=>?_)
   refine ar.last (by kernel_rfl) ?_
   have d355:=d347 _ (J.symm (J.part (J.symm d322) pF)) d334 jJ.sub
   have d356:=d347 _ (J.symm (J.part (J.symm d319) pF)) d336 gW.sub
   have d357:=d347 _ (J.symm (J.part (J.symm d321) pF)) d337 iQ.sub
   replace bJ:=bJ.bw (J.symm (J.part (J.symm d300) pF)) up
   replace bE:=bE.bw (J.symm (J.part (J.symm d304) pF)) up
   replace bG:=bG.bw (J.symm (J.part (J.symm d308) pF)) up
   replace bh:=bh.bw (J.symm (J.part (J.symm d312) pF)) up
   replace dQ:=dQ.bw (J.symm (J.part (J.symm d316) pF)) up
   replace jJ:=jJ.bw (J.symm (J.part (J.symm d322) pF)) up
   replace gW:=gW.bw (J.symm (J.part (J.symm d319) pF)) up
   replace iQ:=iQ.bw (J.symm (J.part (J.symm d321) pF)) up
   clear d347 E3
   obtain⟨US,ahs,aml⟩:=Xu _ _ _ _ _ Wx up Us ajz d335 (by show [R _ _]=[R _ _];rw [List.length_set]) (fun b h=>T3 b (agJ b h))
   clear up Us T3
   have ao9:(av.1.I.set m.toNat ({el av.1.I m.toNat with U:=((el av.1.I m.toNat).U.set g.toNat ({(el (aK h m).1.U g.toNat) with exit:=(gU (cr (bm (el (aK h m).1.U g.toNat))) ((bZ (el (aK h m).1.U g.toNat))==4))}:ax))})).length=av.1.I.length:=List.length_set
   replace S:=S.z (σ':=⟨[(6,.p 1 0),(15,.p 5 0),(117,.v (GT.val ({(el (aK h m).1.U g.toNat) with exit:=(gU (cr (bm (el (aK h m).1.U g.toNat))) ((bZ (el (aK h m).1.U g.toNat))==4))}:ax) yO)),(118,.v (bg (fl.2 m.toNat).U.1.b ((fl.2 m.toNat).U.1.off+g.toNat*15)))],[GT.cells h ai,ck ah,[R h.mem.length ae.mem.1,R h.I.length ae.I.1,R h.buf.length ae.buf.1,R h.ag.length ae.ag.1],GT.cells (aK h m).1 e2,GT.cells ({(el (aK h m).1.U g.toNat) with exit:=(gU (cr (bm (el (aK h m).1.U g.toNat))) ((bZ (el (aK h m).1.U g.toNat))==4))}:ax) yO,[R av.1.mem.length kf.1,R av.1.I.length fl.1,R av.1.buf.length kL.1,R av.1.ag.length kM.1]]⟩)
   replace S:=S.cast (σ':=⟨[(6,.p 1 0),(15,.p 5 0),(117,.v (GT.val ({(el (aK h m).1.U g.toNat) with exit:=(gU (cr (bm (el (aK h m).1.U g.toNat))) ((bZ (el (aK h m).1.U g.toNat))==4))}:ax) yO)),(118,.v (bg (fl.2 m.toNat).U.1.b ((fl.2 m.toNat).U.1.off+g.toNat*15)))],[GT.cells h ai,ck ah,[R h.mem.length ae.mem.1,R h.I.length ae.I.1,R h.buf.length ae.buf.1,R h.ag.length ae.ag.1],GT.cells (aK h m).1 e2,GT.cells ({(el (aK h m).1.U g.toNat) with exit:=(gU (cr (bm (el (aK h m).1.U g.toNat))) ((bZ (el (aK h m).1.U g.toNat))==4))}:ax) yO,[R av.1.mem.length kf.1,R (av.1.I.set m.toNat ({el av.1.I m.toNat with U:=((el av.1.I m.toNat).U.set g.toNat ({(el (aK h m).1.U g.toNat) with exit:=(gU (cr (bm (el (aK h m).1.U g.toNat))) ((bZ (el (aK h m).1.U g.toNat))==4))}:ax))})).length fl.1,R av.1.buf.length kL.1,R av.1.ag.length kM.1]]⟩) (by rw [show(av.1.I.set m.toNat ({el av.1.I m.toNat with U:=((el av.1.I m.toNat).U.set g.toNat ({(el (aK h m).1.U g.toNat) with exit:=(gU (cr (bm (el (aK h m).1.U g.toNat))) ((bZ (el (aK h m).1.U g.toNat))==4))}:ax))})).length=av.1.I.length by omega])
   refine ar.done (by kernel_rfl) ?_ _
   refine S.ex fun S=>?_
   refine S.bq 9 .nil [GT.val (⟨av.1.mem,(av.1.I.set m.toNat ({el av.1.I m.toNat with U:=((el av.1.I m.toNat).U.set g.toNat ({(el (aK h m).1.U g.toNat) with exit:=(gU (cr (bm (el (aK h m).1.U g.toNat))) ((bZ (el (aK h m).1.U g.toNat))==4))}:ax))})),av.1.buf,av.1.ag⟩:ah) (⟨kf,(fl.1,US),kL,kM⟩:cb),B true] fun ac w β S=>?_
   have aht:=fi (x:=(⟨av.1.mem,(av.1.I.set m.toNat ({el av.1.I m.toNat with U:=((el av.1.I m.toNat).U.set g.toNat ({(el (aK h m).1.U g.toNat) with exit:=(gU (cr (bm (el (aK h m).1.U g.toNat))) ((bZ (el (aK h m).1.U g.toNat))==4))}:ax))})),av.1.buf,av.1.ag⟩:ah)) (p:=(⟨kf,(fl.1,US),kL,kM⟩:cb)) jJ ahs gW iQ (J.symm (J.or (J.symm d322) (J.symm d355))) (J.symm d318) (J.symm d320) (J.symm (J.symm (J.or (J.symm d319) (J.symm d356)))) (J.symm (J.symm (J.or (J.symm d321) (J.symm d357)))) d317
   exact f_ (p':=()) S (show(dt h m g).1=(⟨av.1.mem,(av.1.I.set m.toNat ({el av.1.I m.toNat with U:=((el av.1.I m.toNat).U.set g.toNat ({(el (aK h m).1.U g.toNat) with exit:=(gU (cr (bm (el (aK h m).1.U g.toNat))) ((bZ (el (aK h m).1.U g.toNat))==4))}:ax))})),av.1.buf,av.1.ag⟩:ah) from Ka) (show(dt h m g).2=true from KI) rfl rfl aht trivial
  have anW:=b_ IH
  refine S.aI 7 .nil ((bZ (el (aK h m).1.U g.toNat))==4) (fun ac w β acS acb S=>?_) (fun ac w β acS acb S=>?_)
  ·refine S.go 2 .nil fun ac w β S=>?_
   refine dI ?_
   refine S.dP (f:=10) 9 (by kernel_rfl) (by kernel_rfl) fun w S=>?_
   refine S.hm 4 [0,1,2,3,5,6] [] [(100,.v (R av.1.mem.length kf.1)),(101,.v (aa av.2.1)),(102,.v (aa (bm (el (aK h m).1.U g.toNat)))),(105,.v (aa (el (aK h m).1.U g.toNat).acc))] .nil fun ac S=>?_
   refine S.iI 4 [] [(103,.v (aa (dr (bm (el (aK h m).1.U g.toNat)))))] 6 [] (.cons (aE fun w hw=>C5 w (bm (el (aK h m).1.U g.toNat)) (jU (af.el (aU.U (d:=(aK h m).1) dQ.ak) g.toNat (by omega)))) .nil) fun ac w β S=>?_
   refine ar.one (i:=7) (by kernel_rfl) ?_
   refine id (S.dz 106 (Pm w av.1.mem kf (S.rd jJ.ak) av.2.1 (dr (bm (el (aK h m).1.U g.toNat))) (el (aK h m).1.U g.toNat).acc (az.acc (d:=(el (aK h m).1.U g.toNat)) (af.el (aU.U (d:=(aK h m).1) dQ.ak) g.toNat (by omega)))) fun ac w N BR alv S up wa Dk=>?_)
   refine ar.next S up (by kernel_rfl) ?_
   have rK:=J.w Dk hG.sub
   have aak:=J.w Dk gW.sub
   have aal:=J.w Dk iQ.sub
   replace bJ:=bJ.up up
   replace bE:=bE.up up
   replace bG:=bG.up up
   replace bh:=bh.up up
   replace dQ:=dQ.up up
   replace jJ:=jJ.up up
   replace hG:=hG.up up
   replace gW:=gW.up up
   replace iQ:=iQ.up up
   clear up Dk
   refine S.a9 8 [8] [] [(107,.p 5 0)] .nil fun ac S=>?_
   refine S.c9 9 [] [] 6 [(5,[R (gf av.1.mem av.2.1 (dr (bm (el (aK h m).1.U g.toNat))) (el (aK h m).1.U g.toNat).acc).length BR.1,R av.1.I.length fl.1,R av.1.buf.length kL.1,R av.1.ag.length kM.1])] .nil fun ac w β S=>?_
   refine ar.done (by kernel_rfl) ?_ _
   refine S.ex fun S=>?_
   refine S.go 3 .nil fun ac w β S=>S.cN (r:=a4 (el (aK h m).1.U g.toNat)) (d:=109) (Ph w (el (aK h m).1.U g.toNat) (e2.U.2 g.toNat) (S.rd (af.el (aU.U (d:=(aK h m).1) dQ.ak) g.toNat (by omega)))) fun ac w N BS Wy S up ahu rM=>?_
   have qG:=J.w rM hG.sub
   have aam:=J.w rM gW.sub
   have zQ:=J.w rM iQ.sub
   have aan:=J.w rM wa.sub
   replace bJ:=bJ.up up
   replace bE:=bE.up up
   replace bG:=bG.up up
   replace bh:=bh.up up
   replace dQ:=dQ.up up
   replace hG:=hG.up up
   replace gW:=gW.up up
   replace iQ:=iQ.up up
   replace wa:=wa.up up
   clear up rM
   refine S.go 5 .nil fun ac w β S=>?_
   refine dI ?_
   refine S.dP (f:=10) 9 (by kernel_rfl) (by kernel_rfl) fun w S=>?_
   refine S.hm 1 [0,1,2,3,4,5,6,7,8] [] [(117,.v (GT.val (a4 (el (aK h m).1.U g.toNat)) BS)),(118,.v (bg (fl.2 m.toNat).U.1.b ((fl.2 m.toNat).U.1.off+g.toNat*15)))] (.cons (cp hG.ak m Tryz.underlying28) (.cons (cz hG.ak 71 m.toNat 3 (R (el av.1.I m.toNat).U.length (fl.2 m.toNat).U.1)) (.cons (cp (aU.U (d:=(el av.1.I m.toNat)) (af.el hG.ak m.toNat (by omega))) g Tryz.underlying71) .nil))) fun ac S=>?_
   refine ar.one (i:=9) (by kernel_rfl) ?_
   obtain⟨CN,tC,pG,Xw⟩:=o_ hG (k:=m.toNat) (show m.toNat<av.1.I.length by omega)
   have ao_:=af.le tC.ak
   have agL:=tC.sub
   refine id (S.kO (α:=ax) tC (t:=70) (k:=g.toNat) (off:=(fl.2 m.toNat).U.1.off+g.toNat*15) ahu (J.symm (J.symm (J.part qG pG))) fun w N alw apR S up Ut Dl ajC T4=>?_)
   refine ar.last (by kernel_rfl) ?_
   have aaq:=Dl _ (J.symm (J.part (J.symm d319) pG)) aam gW.sub
   have uF:=Dl _ (J.symm (J.part (J.symm d321) pG)) zQ iQ.sub
   have aar:=Dl _ (J.symm (J.part rK pG)) aan wa.sub
   replace bJ:=bJ.bw (J.symm (J.part (J.symm d300) pG)) up
   replace bE:=bE.bw (J.symm (J.part (J.symm d304) pG)) up
   replace bG:=bG.bw (J.symm (J.part (J.symm d308) pG)) up
   replace bh:=bh.bw (J.symm (J.part (J.symm d312) pG)) up
   replace dQ:=dQ.bw (J.symm (J.part (J.symm d316) pG)) up
   replace gW:=gW.bw (J.symm (J.part (J.symm d319) pG)) up
   replace iQ:=iQ.bw (J.symm (J.part (J.symm d321) pG)) up
   replace wa:=wa.bw (J.symm (J.part rK pG)) up
   clear Dl tC
   obtain⟨UT,ahv,amm⟩:=Xw _ _ _ _ _ Wy up Ut ajC qG (by show [R _ _]=[R _ _];rw [List.length_set]) (fun b h=>T4 b (agL b h))
   clear up Ut T4
   have apb:(av.1.I.set m.toNat ({el av.1.I m.toNat with U:=((el av.1.I m.toNat).U.set g.toNat (a4 (el (aK h m).1.U g.toNat)))})).length=av.1.I.length:=List.length_set
   replace S:=S.z (σ':=⟨[(6,.p 1 0),(15,.p 5 0),(117,.v (GT.val (a4 (el (aK h m).1.U g.toNat)) BS)),(118,.v (bg (fl.2 m.toNat).U.1.b ((fl.2 m.toNat).U.1.off+g.toNat*15)))],[GT.cells h ai,ck ah,[R h.mem.length ae.mem.1,R h.I.length ae.I.1,R h.buf.length ae.buf.1,R h.ag.length ae.ag.1],GT.cells (aK h m).1 e2,GT.cells (a4 (el (aK h m).1.U g.toNat)) BS,[R (gf av.1.mem av.2.1 (dr (bm (el (aK h m).1.U g.toNat))) (el (aK h m).1.U g.toNat).acc).length BR.1,R av.1.I.length fl.1,R av.1.buf.length kL.1,R av.1.ag.length kM.1]]⟩)
   replace S:=S.cast (σ':=⟨[(6,.p 1 0),(15,.p 5 0),(117,.v (GT.val (a4 (el (aK h m).1.U g.toNat)) BS)),(118,.v (bg (fl.2 m.toNat).U.1.b ((fl.2 m.toNat).U.1.off+g.toNat*15)))],[GT.cells h ai,ck ah,[R h.mem.length ae.mem.1,R h.I.length ae.I.1,R h.buf.length ae.buf.1,R h.ag.length ae.ag.1],GT.cells (aK h m).1 e2,GT.cells (a4 (el (aK h m).1.U g.toNat)) BS,[R (gf av.1.mem av.2.1 (dr (bm (el (aK h m).1.U g.toNat))) (el (aK h m).1.U g.toNat).acc).length BR.1,R (av.1.I.set m.toNat ({el av.1.I m.toNat with U:=((el av.1.I m.toNat).U.set g.toNat (a4 (el (aK h m).1.U g.toNat)))})).length fl.1,R av.1.buf.length kL.1,R av.1.ag.length kM.1]]⟩) (by rw [show(av.1.I.set m.toNat ({el av.1.I m.toNat with U:=((el av.1.I m.toNat).U.set g.toNat (a4 (el (aK h m).1.U g.toNat)))})).length=av.1.I.length by omega])
   refine ar.done (by kernel_rfl) ?_ _
   refine S.ex fun S=>?_
   refine S.bq 9 .nil [GT.val (⟨(gf av.1.mem av.2.1 (dr (bm (el (aK h m).1.U g.toNat))) (el (aK h m).1.U g.toNat).acc),(av.1.I.set m.toNat ({el av.1.I m.toNat with U:=((el av.1.I m.toNat).U.set g.toNat (a4 (el (aK h m).1.U g.toNat)))})),av.1.buf,av.1.ag⟩:ah) (⟨BR,(fl.1,UT),kL,kM⟩:cb),B true] fun ac w β S=>?_
   have ahw:=fi (x:=(⟨(gf av.1.mem av.2.1 (dr (bm (el (aK h m).1.U g.toNat))) (el (aK h m).1.U g.toNat).acc),(av.1.I.set m.toNat ({el av.1.I m.toNat with U:=((el av.1.I m.toNat).U.set g.toNat (a4 (el (aK h m).1.U g.toNat)))})),av.1.buf,av.1.ag⟩:ah)) (p:=(⟨BR,(fl.1,UT),kL,kM⟩:cb)) wa ahv gW iQ (J.symm (J.or rK (J.symm aar))) (J.symm aak) (J.symm aal) (J.symm (J.symm (J.or (J.symm d319) (J.symm aaq)))) (J.symm (J.symm (J.or (J.symm d321) (J.symm uF)))) d317
   exact f_ (p':=()) S (show(dt h m g).1=(⟨(gf av.1.mem av.2.1 (dr (bm (el (aK h m).1.U g.toNat))) (el (aK h m).1.U g.toNat).acc),(av.1.I.set m.toNat ({el av.1.I m.toNat with U:=((el av.1.I m.toNat).U.set g.toNat (a4 (el (aK h m).1.U g.toNat)))})),av.1.buf,av.1.ag⟩:ah) from Ka) (show(dt h m g).2=true from KI) rfl rfl ahw trivial
  refine S.go 1 .nil fun ac w β S=>?_
  refine dI ?_
  refine S.dP (f:=9) 8 (by kernel_rfl) (by kernel_rfl) fun w S=>?_
  refine S.hm 4 [0,1,2,3,4] [] [(80,.v (GT.val (el (aK h m).1.U g.toNat) (e2.U.2 g.toNat))),(82,.v (R av.1.mem.length kf.1)),(83,.v (aa av.2.1)),(84,.v (aa (bm (el (aK h m).1.U g.toNat))))] .nil fun ac S=>?_
  refine S.iI 5 [] [(85,.v (aa (dr (bm (el (aK h m).1.U g.toNat)))))] 6 [] (.cons (aE fun w hw=>C5 w (bm (el (aK h m).1.U g.toNat)) (jU (af.el (aU.U (d:=(aK h m).1) dQ.ak) g.toNat (by omega)))) .nil) fun ac w β S=>?_
  refine S.iI 6 [] [(86,.v (aa (fB av.1.mem av.2.1 (dr (bm (el (aK h m).1.U g.toNat))))))] 6 [] (.cons (aE fun w hw=>O3 w av.1.mem kf (bN jJ.ak hw) av.2.1 (dr (bm (el (aK h m).1.U g.toNat)))) .nil) fun ac w β S=>?_
  refine ar.one (i:=7) (by kernel_rfl) ?_
  refine id (S.dz 87 (Pb w (el (aK h m).1.U g.toNat) (e2.U.2 g.toNat) (S.rd (af.el (aU.U (d:=(aK h m).1) dQ.ak) g.toNat (by omega))) (fB av.1.mem av.2.1 (dr (bm (el (aK h m).1.U g.toNat)))) (Hn jJ.ak av.2.1 (dr (bm (el (aK h m).1.U g.toNat))))) fun ac w N yP Wz S up ahx zS=>?_)
  refine ar.next S up (by kernel_rfl) ?_
  have aas:=J.w zS jJ.sub
  have Qa:=J.w zS hG.sub
  have aat:=J.w zS gW.sub
  have rN:=J.w zS iQ.sub
  replace bJ:=bJ.up up
  replace bE:=bE.up up
  replace bG:=bG.up up
  replace bh:=bh.up up
  replace jJ:=jJ.up up
  replace hG:=hG.up up
  replace gW:=gW.up up
  replace iQ:=iQ.up up
  clear up zS
  refine S.c9 8 [] [] 6 [(4,GT.cells (h5 (el (aK h m).1.U g.toNat) (fB av.1.mem av.2.1 (dr (bm (el (aK h m).1.U g.toNat))))) yP)] .nil fun ac w β S=>?_
  refine ar.done (by kernel_rfl) ?_ _
  refine S.ex fun S=>?_
  refine S.go 3 .nil fun ac w β S=>?_
  refine dI ?_
  refine S.dP (f:=10) 9 (by kernel_rfl) (by kernel_rfl) fun w S=>?_
  refine S.hm 1 [0,1,2,3,4,5,6,7,8] [] [(117,.v (GT.val (h5 (el (aK h m).1.U g.toNat) (fB av.1.mem av.2.1 (dr (bm (el (aK h m).1.U g.toNat))))) yP)),(118,.v (bg (fl.2 m.toNat).U.1.b ((fl.2 m.toNat).U.1.off+g.toNat*15)))] (.cons (cp hG.ak m Tryz.underlying28) (.cons (cz hG.ak 71 m.toNat 3 (R (el av.1.I m.toNat).U.length (fl.2 m.toNat).U.1)) (.cons (cp (aU.U (d:=(el av.1.I m.toNat)) (af.el hG.ak m.toNat (by omega))) g Tryz.underlying71) .nil))) fun ac S=>?_
  refine ar.one (i:=9) (by kernel_rfl) ?_
  obtain⟨aly,E4,qs,Xy⟩:=o_ hG (k:=m.toNat) (show m.toNat<av.1.I.length by omega)
  have apc:=af.le E4.ak
  have agN:=E4.sub
  refine id (S.kO (α:=ax) E4 (t:=70) (k:=g.toNat) (off:=(fl.2 m.toNat).U.1.off+g.toNat*15) ahx (J.symm (J.symm (J.part Qa qs))) fun w N alz apS S up Uu Dm ajD T5=>?_)
  refine ar.last (by kernel_rfl) ?_
  have aau:=Dm _ (J.symm (J.part (J.symm d322) qs)) aas jJ.sub
  have aav:=Dm _ (J.symm (J.part (J.symm d319) qs)) aat gW.sub
  have uJ:=Dm _ (J.symm (J.part (J.symm d321) qs)) rN iQ.sub
  replace bJ:=bJ.bw (J.symm (J.part (J.symm d300) qs)) up
  replace bE:=bE.bw (J.symm (J.part (J.symm d304) qs)) up
  replace bG:=bG.bw (J.symm (J.part (J.symm d308) qs)) up
  replace bh:=bh.bw (J.symm (J.part (J.symm d312) qs)) up
  replace jJ:=jJ.bw (J.symm (J.part (J.symm d322) qs)) up
  replace gW:=gW.bw (J.symm (J.part (J.symm d319) qs)) up
  replace iQ:=iQ.bw (J.symm (J.part (J.symm d321) qs)) up
  clear Dm E4
  obtain⟨UU,ahy,amn⟩:=Xy _ _ _ _ _ Wz up Uu ajD Qa (by show [R _ _]=[R _ _];rw [List.length_set]) (fun b h=>T5 b (agN b h))
  clear up Uu T5
  have ape:(av.1.I.set m.toNat ({el av.1.I m.toNat with U:=((el av.1.I m.toNat).U.set g.toNat (h5 (el (aK h m).1.U g.toNat) (fB av.1.mem av.2.1 (dr (bm (el (aK h m).1.U g.toNat))))))})).length=av.1.I.length:=List.length_set
  replace S:=S.z (σ':=⟨[(6,.p 1 0),(15,.p 5 0),(117,.v (GT.val (h5 (el (aK h m).1.U g.toNat) (fB av.1.mem av.2.1 (dr (bm (el (aK h m).1.U g.toNat))))) yP)),(118,.v (bg (fl.2 m.toNat).U.1.b ((fl.2 m.toNat).U.1.off+g.toNat*15)))],[GT.cells h ai,ck ah,[R h.mem.length ae.mem.1,R h.I.length ae.I.1,R h.buf.length ae.buf.1,R h.ag.length ae.ag.1],GT.cells (aK h m).1 e2,GT.cells (h5 (el (aK h m).1.U g.toNat) (fB av.1.mem av.2.1 (dr (bm (el (aK h m).1.U g.toNat))))) yP,[R av.1.mem.length kf.1,R av.1.I.length fl.1,R av.1.buf.length kL.1,R av.1.ag.length kM.1]]⟩)
  replace S:=S.cast (σ':=⟨[(6,.p 1 0),(15,.p 5 0),(117,.v (GT.val (h5 (el (aK h m).1.U g.toNat) (fB av.1.mem av.2.1 (dr (bm (el (aK h m).1.U g.toNat))))) yP)),(118,.v (bg (fl.2 m.toNat).U.1.b ((fl.2 m.toNat).U.1.off+g.toNat*15)))],[GT.cells h ai,ck ah,[R h.mem.length ae.mem.1,R h.I.length ae.I.1,R h.buf.length ae.buf.1,R h.ag.length ae.ag.1],GT.cells (aK h m).1 e2,GT.cells (h5 (el (aK h m).1.U g.toNat) (fB av.1.mem av.2.1 (dr (bm (el (aK h m).1.U g.toNat))))) yP,[R av.1.mem.length kf.1,R (av.1.I.set m.toNat ({el av.1.I m.toNat with U:=((el av.1.I m.toNat).U.set g.toNat (h5 (el (aK h m).1.U g.toNat) (fB av.1.mem av.2.1 (dr (bm (el (aK h m).1.U g.toNat))))))})).length fl.1,R av.1.buf.length kL.1,R av.1.ag.length kM.1]]⟩) (by rw [show(av.1.I.set m.toNat ({el av.1.I m.toNat with U:=((el av.1.I m.toNat).U.set g.toNat (h5 (el (aK h m).1.U g.toNat) (fB av.1.mem av.2.1 (dr (bm (el (aK h m).1.U g.toNat))))))})).length=av.1.I.length by omega])
  refine ar.done (by kernel_rfl) ?_ _
  refine S.ex fun S=>?_
  refine S.bq 9 .nil [GT.val (⟨av.1.mem,(av.1.I.set m.toNat ({el av.1.I m.toNat with U:=((el av.1.I m.toNat).U.set g.toNat (h5 (el (aK h m).1.U g.toNat) (fB av.1.mem av.2.1 (dr (bm (el (aK h m).1.U g.toNat))))))})),av.1.buf,av.1.ag⟩:ah) (⟨kf,(fl.1,UU),kL,kM⟩:cb),B true] fun ac w β S=>?_
  have Bz:=fi (x:=(⟨av.1.mem,(av.1.I.set m.toNat ({el av.1.I m.toNat with U:=((el av.1.I m.toNat).U.set g.toNat (h5 (el (aK h m).1.U g.toNat) (fB av.1.mem av.2.1 (dr (bm (el (aK h m).1.U g.toNat))))))})),av.1.buf,av.1.ag⟩:ah)) (p:=(⟨kf,(fl.1,UU),kL,kM⟩:cb)) jJ ahy gW iQ (J.symm (J.or (J.symm d322) (J.symm aau))) (J.symm d318) (J.symm d320) (J.symm (J.symm (J.or (J.symm d319) (J.symm aav)))) (J.symm (J.symm (J.or (J.symm d321) (J.symm uJ)))) d317
  exact f_ (p':=()) S (show(dt h m g).1=(⟨av.1.mem,(av.1.I.set m.toNat ({el av.1.I m.toNat with U:=((el av.1.I m.toNat).U.set g.toNat (h5 (el (aK h m).1.U g.toNat) (fB av.1.mem av.2.1 (dr (bm (el (aK h m).1.U g.toNat))))))})),av.1.buf,av.1.ag⟩:ah) from Ka) (show(dt h m g).2=true from KI) rfl rfl Bz trivial
 obtain⟨acT,acU⟩:=nU u0
 have anB:¬((bZ (el (aK h m).1.U g.toNat))=3):=ne_of_beq_false acT
 have anC:¬((bZ (el (aK h m).1.U g.toNat))=4):=ne_of_beq_false acU
 refine S.go 8 .nil fun ac w β S=>?_
 refine S.pV ⟨[(1,.v (aa m)),(2,.v (aa g)),(3,.p 0 0),(6,.p 1 0),(8,.p 2 0),(12,.v (aa (bZ (el (aK h m).1.U g.toNat)))),(120,.v (B (((bZ (el (aK h m).1.U g.toNat))==5)||((bZ (el (aK h m).1.U g.toNat))==7))))],[GT.cells h ai,ck ah,[R h.mem.length ae.mem.1,R h.I.length ae.I.1,R h.buf.length ae.buf.1,R h.ag.length ae.ag.1]]⟩ ?_ ?_
 ·clear S;intro S
  refine S.aI 0 .nil ((bZ (el (aK h m).1.U g.toNat))==5) (fun ac w β IJ acd S=>?_) (fun ac w β IJ acd S=>?_)
  ·exact S.dF 2 .nil fun ac w β S=>⟨rfl,_,by rw [IJ];exact S.z⟩
  exact S.dF 5 .nil fun ac w β S=>⟨rfl,_,by rw [IJ];exact S.z⟩
 clear S;intro ac w β S
 refine S.bb 1 .nil (((bZ (el (aK h m).1.U g.toNat))==5)||((bZ (el (aK h m).1.U g.toNat))==7)) (fun ac w β IK S=>?_) (fun ac w β IK S=>?_)
 ·have anD:=Dx IK
  refine S.go 9 (.cons (cp bE.ak m Tryz.underlying28) .nil) fun ac w β S=>S.WL (d:=129) bE (Yz w h.I ae.I m.toNat (by omega) eX (S.fX bE) (fun b hb=>(S.sep b (bE.sub b hb)).1) g (bZ (el (aK h m).1.U g.toNat)) (by(first|omega|assumption)) (by(first|omega|assumption))) fun ac w N UW alA S up ahz Dn=>?_
  have aaw:=Dn _ d17 bJ.sub
  have rO:=Dn _ (J.symm d20) bG.sub
  have aax:=Dn _ (J.symm d21) bh.sub
  replace bJ:=bJ.bw d17 up
  replace bG:=bG.bw (J.symm d20) up
  replace bh:=bh.bw (J.symm d21) up
  clear up Dn bE
  have apf:(h.I.set m.toNat (jr (el h.I m.toNat) g (el (el h.I m.toNat).U g.toNat) (bZ (el (aK h m).1.U g.toNat)))).length=h.I.length:=List.length_set
  replace S:=S.z (σ':=⟨[(6,.p 1 0),(8,.p 2 0),(126,.v (bg ae.I.1.b (ae.I.1.off+m.toNat*9))),(127,.v (aa g)),(128,.v (aa (bZ (el (aK h m).1.U g.toNat))))],[GT.cells h ai,ck ah,[R h.mem.length ae.mem.1,R h.I.length ae.I.1,R h.buf.length ae.buf.1,R h.ag.length ae.ag.1]]⟩)
  replace S:=S.cast (σ':=⟨[(6,.p 1 0),(8,.p 2 0),(126,.v (bg ae.I.1.b (ae.I.1.off+m.toNat*9))),(127,.v (aa g)),(128,.v (aa (bZ (el (aK h m).1.U g.toNat))))],[GT.cells h ai,ck ah,[R h.mem.length ae.mem.1,R (h.I.set m.toNat (jr (el h.I m.toNat) g (el (el h.I m.toNat).U g.toNat) (bZ (el (aK h m).1.U g.toNat)))).length ae.I.1,R h.buf.length ae.buf.1,R h.ag.length ae.ag.1]]⟩) (by rw [show(h.I.set m.toNat (jr (el h.I m.toNat) g (el (el h.I m.toNat).U g.toNat) (bZ (el (aK h m).1.U g.toNat)))).length=h.I.length by omega])
  refine S.is fun S=>?_
  refine S.bq 10 .nil [GT.val (⟨h.mem,(h.I.set m.toNat (jr (el h.I m.toNat) g (el (el h.I m.toNat).U g.toNat) (bZ (el (aK h m).1.U g.toNat)))),h.buf,h.ag⟩:ah) (⟨ae.mem,((ae.I.1,UW):aC aO),ae.buf,ae.ag⟩:cb),B true] fun ac w β S=>?_
  have ahA:=fi (x:=(⟨h.mem,(h.I.set m.toNat (jr (el h.I m.toNat) g (el (el h.I m.toNat).U g.toNat) (bZ (el (aK h m).1.U g.toNat)))),h.buf,h.ag⟩:ah)) (p:=(⟨ae.mem,((ae.I.1,UW):aC aO),ae.buf,ae.ag⟩:cb)) bJ ahz bG bh aaw d18 d19 (J.symm rO) (J.symm aax) d22
  exact f_ (p':=()) S (show(dt h m g).1=(⟨h.mem,(h.I.set m.toNat (jr (el h.I m.toNat) g (el (el h.I m.toNat).U g.toNat) (bZ (el (aK h m).1.U g.toNat)))),h.buf,h.ag⟩:ah) from yB) (show(dt h m g).2=true from yC) rfl rfl ahA trivial
 obtain⟨acV,acW⟩:=nU IK
 have anE:¬((bZ (el (aK h m).1.U g.toNat))=5):=ne_of_beq_false acV
 have anF:¬((bZ (el (aK h m).1.U g.toNat))=7):=ne_of_beq_false acW
 refine S.go 8 .nil fun ac w β S=>S.cN (r:=e9 h m) (d:=134) (Yr w h ai (S.rd (S.arg a1)) m) fun ac w N Vl alB S up Uv aay=>?_
 replace bJ:=bJ.up up
 replace bE:=bE.up up
 replace bG:=bG.up up
 replace bh:=bh.up up
 clear up aay
 have ae4:a_ (e9 h m).aB:=fE.aB (d:=(e9 h m)) Uv.ak
 obtain⟨alC,alD,alE,ahB,ahC,ahD,_,_,_,_,_,_⟩:=FT Uv
 refine S.go 1 .nil fun ac w β S=>S.rA (r:=(eS (e9 h m) g).1) (r':=(eS (e9 h m) g).2) (d:=136) (X5 w (e9 h m) Vl (S.rd (show GT.rd b7 _ _ (e9 h m) Vl from⟨ahB.ak,ahC.ak,ahD.ak,ae4⟩)) g) fun ac w N nX apT alF alG S up ahE apE rP zZ ams=>?_
 have aaA:=J.w rP bJ.sub
 have Qc:=J.w rP bE.sub
 have aaB:=J.w rP bG.sub
 have aaC:=J.w rP bh.sub
 replace bJ:=bJ.up up
 replace bE:=bE.up up
 replace bG:=bG.up up
 replace bh:=bh.up up
 clear up rP
 clear zZ
 obtain⟨alH,alI,alJ,apF,LP,apG,_,Ck,_,_,_,_⟩:=FT ahE
 refine S.go 17 (.cons (cp bE.ak m Tryz.underlying28) .nil) fun ac w β S=>S.W1 (α:=aO) bE (t:=71) (k:=m.toNat) (j:=3) (off:=ae.I.1.off+m.toNat*9+3) (v:=R (eS (e9 h m) g).1.U.length nX.U.1) (y:=({el h.I m.toNat with U:=(eS (e9 h m) g).1.U}:aO)) (q:=({ae.I.2 m.toNat with U:=nX.U}:fj)) (fun G fk p7=>⟨_,aic fk LP.own (fun b h an=>(J.symm (J.part (J.symm Qc) Ck)) b (p7 b h) an),fun _ h=>h⟩) (J.symm (J.part (J.symm Qc) Ck)) LP.sub LP.dJ fun w N alK Vp S up ahG sW ap7 agR=>?_
 have aaD:=sW _ d17 (J.symm (J.part (J.symm aaA) Ck)) bJ.sub
 have aaE:=sW _ (J.symm d20) (J.symm (J.part (J.symm aaB) Ck)) bG.sub
 have aaF:=sW _ (J.symm d21) (J.symm (J.part (J.symm aaC) Ck)) bh.sub
 replace bJ:=bJ.bw d17 up
 replace bG:=bG.bw (J.symm d20) up
 replace bh:=bh.bw (J.symm d21) up
 clear up sW bE agR
 have apk:(h.I.set m.toNat ({el h.I m.toNat with U:=(eS (e9 h m) g).1.U})).length=h.I.length:=List.length_set
 replace S:=S.z (σ':=⟨[(6,.p 1 0),(8,.p 2 0),(143,.v (R (eS (e9 h m) g).1.U.length nX.U.1)),(145,.v (bg ae.I.1.b (ae.I.1.off+m.toNat*9+3)))],[GT.cells h ai,ck ah,[R h.mem.length ae.mem.1,R h.I.length ae.I.1,R h.buf.length ae.buf.1,R h.ag.length ae.ag.1],[R (eS (e9 h m) g).1.mem.length nX.mem.1,R (eS (e9 h m) g).1.U.length nX.U.1,R (eS (e9 h m) g).1.outs.length nX.outs.1,aa (eS (e9 h m) g).1.aB]]⟩)
 replace S:=S.cast (σ':=⟨[(6,.p 1 0),(8,.p 2 0),(143,.v (R (eS (e9 h m) g).1.U.length nX.U.1)),(145,.v (bg ae.I.1.b (ae.I.1.off+m.toNat*9+3)))],[GT.cells h ai,ck ah,[R h.mem.length ae.mem.1,R (h.I.set m.toNat ({el h.I m.toNat with U:=(eS (e9 h m) g).1.U})).length ae.I.1,R h.buf.length ae.buf.1,R h.ag.length ae.ag.1],[R (eS (e9 h m) g).1.mem.length nX.mem.1,R (eS (e9 h m) g).1.U.length nX.U.1,R (eS (e9 h m) g).1.outs.length nX.outs.1,aa (eS (e9 h m) g).1.aB]]⟩) (by rw [show(h.I.set m.toNat ({el h.I m.toNat with U:=(eS (e9 h m) g).1.U})).length=h.I.length by omega])
 refine S.is fun S=>?_
 refine S.bq 10 .nil [GT.val (⟨h.mem,(h.I.set m.toNat ({el h.I m.toNat with U:=(eS (e9 h m) g).1.U})),h.buf,h.ag⟩:ah) (⟨ae.mem,(ae.I.1,Vp),ae.buf,ae.ag⟩:cb),B true] fun ac w β S=>?_
 have ahH:=fi (x:=(⟨h.mem,(h.I.set m.toNat ({el h.I m.toNat with U:=(eS (e9 h m) g).1.U})),h.buf,h.ag⟩:ah)) (p:=(⟨ae.mem,(ae.I.1,Vp),ae.buf,ae.ag⟩:cb)) bJ ahG bG bh aaD d18 d19 (J.symm aaE) (J.symm aaF) d22
 exact f_ (p':=()) S (show(dt h m g).1=(⟨h.mem,(h.I.set m.toNat ({el h.I m.toNat with U:=(eS (e9 h m) g).1.U})),h.buf,h.ag⟩:ah) from yB) (show(dt h m g).2=true from yC) rfl rfl ahH trivial
theorem Kj {p:Prop} (h:p:=by clear S;first|(simp;intro e;subst e;simp_all;done)|(simp;rw [fb (by omega),fb (by omega)] at he;exact he)|(simp;exact sH (by simp_all))):p:=h
theorem Hc (w0:World) (a:List Int) (pa:aC Int) (ay:bT w0 a pa) (b:List Int) (bB:aC Int) (hb:bT w0 b bB):Calls Tryz.prog 17 [R a.length pa.1,R b.length bB.1].toArray w0 (fun e w'=>e= .returned (B (decide (a=b)))/\bu ab w0 w'):=by
 refine Calls.run ab Tryz.func17 ?_
 intro ac β S
 have fy:a.length<=4194304:=af.le ay
 have kD:b.length<=4194304:=af.le hb
 refine S.aI 15 .nil ((a.length:Int) != (b.length:Int)) (fun ac w β h1 a8 S=>?_) (fun ac w β h1 a8 S=>?_)
 ·exact S.aq 7 .nil [B false] (a6 Kj)
 refine S.go 10 .nil fun ac w β S=>?_
 refine dc (fun a5 ac w=>∃(k:Nat) (u:_) (N:_) (β:_),a5=a.length-k/\(k<=a.length)/\(a.length=b.length)/\(a.take k=b.take k)/\aj Tryz.prog Tryz.f17.ntmps w0 ab u N β ⟨[(0,.v (R a.length pa.1)),(1,.v (R b.length bB.1)),(5,.v (aa (k:Int)))],[]⟩ ac w) _ ⟨0,_,_,_,rfl,cv,cv,(by simp),S.z⟩ ?_
 clear S
 rintro f3 a5 iw ac w ⟨k,u,N,β,rfl,hk,ka,he,S⟩
 refine S.rs fun S=>?_
 refine S.aI 9 .nil (decide ((k:Int)<(a.length:Int))) (fun ac w β bl c7 S=>?_) (fun ac w β bl c7 S=>?_)
 ·refine S.aI 8 (.cons (b6 (S.arg ay) k Tryz.underlying38) (.cons (cj (S.arg ay) 3 k) (.cons (b6 (S.arg hb) k Tryz.underlying38) (.cons (cj (S.arg hb) 3 k) .nil)))) ((el a k) != (el b k)) (fun ac w β cD e_ S=>?_) (fun ac w β cD e_ S=>?_)
  ·exact S.aq 7 .nil [B false] (a6 Kj)
  refine S.ge 9 (.cons (cg (k:Int) 1) .nil) f3 fun ac w β S=>iw.of (a.length-(k+1)) _ _ (by omega) ⟨k+1,_,_,_,rfl,?_,?_,?_,S.z⟩
  ·exact cO
  ·exact cO
  ·clear S;exact sG (by omega) (by omega) he (by simp_all)
 exact S.aq 12 .nil [B true] (a6 Kj)
theorem Kk {p:Prop} (h:p:=by clear S;first|(simp;intro e;subst e;simp_all;done)|(simp;rw [fb (by omega),fb (by omega)] at he;exact he)|(simp;exact sH (by simp_all))):p:=h
theorem Pu (w0:World) (a:List (List Int)) (pa:aC (List Int)) (ay:bT w0 a pa) (b:List (List Int)) (bB:aC (List Int)) (hb:bT w0 b bB):Calls Tryz.prog 57 [R a.length pa.1,R b.length bB.1].toArray w0 (fun e w'=>e= .returned (B (decide (a=b)))/\bu ab w0 w'):=by
 refine Calls.run ab Tryz.func57 ?_
 intro ac β S
 have fy:a.length<=4194304:=af.le ay
 have kD:b.length<=4194304:=af.le hb
 refine S.aI 15 .nil ((a.length:Int) != (b.length:Int)) (fun ac w β h1 a8 S=>?_) (fun ac w β h1 a8 S=>?_)
 ·exact S.aq 7 .nil [B false] (a6 Kk)
 refine S.go 10 .nil fun ac w β S=>?_
 refine dc (fun a5 ac w=>∃(k:Nat) (u:_) (N:_) (β:_),a5=a.length-k/\(k<=a.length)/\(a.length=b.length)/\(a.take k=b.take k)/\aj Tryz.prog Tryz.f57.ntmps w0 ab u N β ⟨[(0,.v (R a.length pa.1)),(1,.v (R b.length bB.1)),(5,.v (aa (k:Int)))],[]⟩ ac w) _ ⟨0,_,_,_,rfl,cv,cv,(by simp),S.z⟩ ?_
 clear S
 rintro f3 a5 iw ac w ⟨k,u,N,β,rfl,hk,ka,he,S⟩
 refine S.rs fun S=>?_
 refine S.aI 9 .nil (decide ((k:Int)<(a.length:Int))) (fun ac w β bl c7 S=>?_) (fun ac w β bl c7 S=>?_)
 ·refine S.bb 8 (.cons (b6 (S.arg ay) k Tryz.underlying22) (.cons (cj (S.arg ay) 38 k) (.cons (b6 (S.arg hb) k Tryz.underlying22) (.cons (cj (S.arg hb) 38 k) (.cons (aE fun w hw=>Hc w (el a k) (pa.2 k) (bN (af.el (S.arg ay) k (by omega)) hw) (el b k) (bB.2 k) (bN (af.el (S.arg hb) k (by omega)) hw)) .nil))))) (!(decide ((el a k)=(el b k)))) (fun ac w β cD S=>?_) (fun ac w β cD S=>?_)
  ·have db:=cn cD
   have fx:=of_decide_eq_false db
   exact S.aq 7 .nil [B false] (a6 Kk)
  have c3:=b_ cD
  have dY:=of_decide_eq_true c3
  refine S.ge 9 (.cons (cg (k:Int) 1) .nil) f3 fun ac w β S=>iw.of (a.length-(k+1)) _ _ (by omega) ⟨k+1,_,_,_,rfl,?_,?_,?_,S.z⟩
  ·exact cO
  ·exact cO
  ·clear S;exact sG (by omega) (by omega) he (by simp_all)
 exact S.aq 12 .nil [B true] (a6 Kk)
theorem Ko {p:Prop} (h:p:=by clear S;first|(simp [aQ.ext_iff, *];done)|(simp_all [aQ.ext_iff];done)):p:=h
theorem YS (w0:World) (a:aQ) (b:aQ):Calls Tryz.prog 315 [GT.val a (),GT.val b ()].toArray w0 (fun e w'=>e= .returned (B (decide (a=b)))/\bu ab w0 w'):=by
 refine Calls.run ab Tryz.func315 ?_
 intro ac β S
 refine S.aI 17 .nil (a.page != b.page) (fun ac w β h1 a8 S=>?_) (fun ac w β h1 a8 S=>?_)
 ·exact S.aq 7 .nil [B false] (a6 Ko)
 refine S.aI 13 .nil (a.bd != b.bd) (fun ac w β aF cB S=>?_) (fun ac w β aF cB S=>?_)
 ·exact S.aq 7 .nil [B false] (a6 Ko)
 exact S.aq 9 .nil [B true] (a6 Ko)
theorem Kp {p:Prop} (h:p:=by clear S;first|(simp;intro e;subst e;simp_all;done)|(simp;rw [fb (by omega),fb (by omega)] at he;exact he)|(simp;exact sH (by simp_all))):p:=h
theorem Da (w0:World) (a:List aQ) (pa:aC aQ) (ay:bT w0 a pa) (b:List aQ) (bB:aC aQ) (hb:bT w0 b bB):Calls Tryz.prog 258 [R a.length pa.1,R b.length bB.1].toArray w0 (fun e w'=>e= .returned (B (decide (a=b)))/\bu ab w0 w'):=by
 refine Calls.run ab Tryz.func258 ?_
 intro ac β S
 have fy:a.length<=4194304:=af.le ay
 have kD:b.length<=4194304:=af.le hb
 refine S.aI 15 .nil ((a.length:Int) != (b.length:Int)) (fun ac w β h1 a8 S=>?_) (fun ac w β h1 a8 S=>?_)
 ·exact S.aq 7 .nil [B false] (a6 Kp)
 refine S.go 10 .nil fun ac w β S=>?_
 refine dc (fun a5 ac w=>∃(k:Nat) (u:_) (N:_) (β:_),a5=a.length-k/\(k<=a.length)/\(a.length=b.length)/\(a.take k=b.take k)/\aj Tryz.prog Tryz.f258.ntmps w0 ab u N β ⟨[(0,.v (R a.length pa.1)),(1,.v (R b.length bB.1)),(5,.v (aa (k:Int)))],[]⟩ ac w) _ ⟨0,_,_,_,rfl,cv,cv,(by simp),S.z⟩ ?_
 clear S
 rintro f3 a5 iw ac w ⟨k,u,N,β,rfl,hk,ka,he,S⟩
 refine S.rs fun S=>?_
 refine S.aI 9 .nil (decide ((k:Int)<(a.length:Int))) (fun ac w β bl c7 S=>?_) (fun ac w β bl c7 S=>?_)
 ·refine S.bb 8 (.cons (b6 (S.arg ay) k Tryz.underlying64) (.cons (dy (S.arg ay) 111 k) (.cons (b6 (S.arg hb) k Tryz.underlying64) (.cons (dy (S.arg hb) 111 k) (.cons (aE fun w hw=>YS w (el a k) (el b k)) .nil))))) (!(decide ((el a k)=(el b k)))) (fun ac w β cD S=>?_) (fun ac w β cD S=>?_)
  ·have db:=cn cD
   have fx:=of_decide_eq_false db
   exact S.aq 7 .nil [B false] (a6 Kp)
  have c3:=b_ cD
  have dY:=of_decide_eq_true c3
  refine S.ge 9 (.cons (cg (k:Int) 1) .nil) f3 fun ac w β S=>iw.of (a.length-(k+1)) _ _ (by omega) ⟨k+1,_,_,_,rfl,?_,?_,?_,S.z⟩
  ·exact cO
  ·exact cO
  ·clear S;exact sG (by omega) (by omega) he (by simp_all)
 exact S.aq 12 .nil [B true] (a6 Kp)
theorem Ke {p:Prop} (h:p:=by clear S;first|(simp;intro e;subst e;simp_all;done)|(simp;rw [fb (by omega),fb (by omega)] at he;exact he)|(simp;exact sH (by simp_all))):p:=h
theorem Ps (w0:World) (a:List Bool) (pa:aC Bool) (ay:bT w0 a pa) (b:List Bool) (bB:aC Bool) (hb:bT w0 b bB):Calls Tryz.prog 16 [R a.length pa.1,R b.length bB.1].toArray w0 (fun e w'=>e= .returned (B (decide (a=b)))/\bu ab w0 w'):=by
 refine Calls.run ab Tryz.func16 ?_
 intro ac β S
 have fy:a.length<=4194304:=af.le ay
 have kD:b.length<=4194304:=af.le hb
 refine S.aI 15 .nil ((a.length:Int) != (b.length:Int)) (fun ac w β h1 a8 S=>?_) (fun ac w β h1 a8 S=>?_)
 ·exact S.aq 7 .nil [B false] (a6 Ke)
 refine S.go 10 .nil fun ac w β S=>?_
 refine dc (fun a5 ac w=>∃(k:Nat) (u:_) (N:_) (β:_),a5=a.length-k/\(k<=a.length)/\(a.length=b.length)/\(a.take k=b.take k)/\aj Tryz.prog Tryz.f16.ntmps w0 ab u N β ⟨[(0,.v (R a.length pa.1)),(1,.v (R b.length bB.1)),(5,.v (aa (k:Int)))],[]⟩ ac w) _ ⟨0,_,_,_,rfl,cv,cv,(by simp),S.z⟩ ?_
 clear S
 rintro f3 a5 iw ac w ⟨k,u,N,β,rfl,hk,ka,he,S⟩
 refine S.rs fun S=>?_
 refine S.aI 9 .nil (decide ((k:Int)<(a.length:Int))) (fun ac w β bl c7 S=>?_) (fun ac w β bl c7 S=>?_)
 ·refine S.bb 8 (.cons (b6 (S.arg ay) k Tryz.underlying39) (.cons (cj (S.arg ay) 4 k) (.cons (b6 (S.arg hb) k Tryz.underlying39) (.cons (cj (S.arg hb) 4 k) .nil)))) (!((el a k)==(el b k))) (fun ac w β cD S=>?_) (fun ac w β cD S=>?_)
  ·have db:=cn cD
   have fx:¬((el a k)=(el b k)):=ne_of_beq_false db
   exact S.aq 7 .nil [B false] (a6 Ke)
  have c3:=b_ cD
  have dY:(el a k)=(el b k):=eq_of_beq c3
  refine S.ge 9 (.cons (cg (k:Int) 1) .nil) f3 fun ac w β S=>iw.of (a.length-(k+1)) _ _ (by omega) ⟨k+1,_,_,_,rfl,?_,?_,?_,S.z⟩
  ·exact cO
  ·exact cO
  ·clear S;exact sG (by omega) (by omega) he (by simp_all)
 exact S.aq 12 .nil [B true] (a6 Ke)
theorem Kh {p:Prop} (h:p:=by clear S;first|(simp [c_.ext_iff, *];done)|(simp_all [c_.ext_iff];done)):p:=h
theorem YM (w0:World) (a:c_) (b:c_):Calls Tryz.prog 349 [GT.val a (),GT.val b ()].toArray w0 (fun e w'=>e= .returned (B (decide (a=b)))/\bu ab w0 w'):=by
 refine Calls.run ab Tryz.func349 ?_
 intro ac β S
 refine S.aI 17 .nil (a.eF != b.eF) (fun ac w β h1 a8 S=>?_) (fun ac w β h1 a8 S=>?_)
 ·exact S.aq 7 .nil [B false] (a6 Kh)
 refine S.aI 13 .nil (a.x != b.x) (fun ac w β aF cB S=>?_) (fun ac w β aF cB S=>?_)
 ·exact S.aq 7 .nil [B false] (a6 Kh)
 exact S.aq 9 .nil [B true] (a6 Kh)
theorem Ki {p:Prop} (h:p:=by clear S;first|(simp;intro e;subst e;simp_all;done)|(simp;rw [fb (by omega),fb (by omega)] at he;exact he)|(simp;exact sH (by simp_all))):p:=h
theorem YN (w0:World) (a:List c_) (pa:aC c_) (ay:bT w0 a pa) (b:List c_) (bB:aC c_) (hb:bT w0 b bB):Calls Tryz.prog 343 [R a.length pa.1,R b.length bB.1].toArray w0 (fun e w'=>e= .returned (B (decide (a=b)))/\bu ab w0 w'):=by
 refine Calls.run ab Tryz.func343 ?_
 intro ac β S
 have fy:a.length<=4194304:=af.le ay
 have kD:b.length<=4194304:=af.le hb
 refine S.aI 15 .nil ((a.length:Int) != (b.length:Int)) (fun ac w β h1 a8 S=>?_) (fun ac w β h1 a8 S=>?_)
 ·exact S.aq 7 .nil [B false] (a6 Ki)
 refine S.go 10 .nil fun ac w β S=>?_
 refine dc (fun a5 ac w=>∃(k:Nat) (u:_) (N:_) (β:_),a5=a.length-k/\(k<=a.length)/\(a.length=b.length)/\(a.take k=b.take k)/\aj Tryz.prog Tryz.f343.ntmps w0 ab u N β ⟨[(0,.v (R a.length pa.1)),(1,.v (R b.length bB.1)),(5,.v (aa (k:Int)))],[]⟩ ac w) _ ⟨0,_,_,_,rfl,cv,cv,(by simp),S.z⟩ ?_
 clear S
 rintro f3 a5 iw ac w ⟨k,u,N,β,rfl,hk,ka,he,S⟩
 refine S.rs fun S=>?_
 refine S.aI 9 .nil (decide ((k:Int)<(a.length:Int))) (fun ac w β bl c7 S=>?_) (fun ac w β bl c7 S=>?_)
 ·refine S.bb 8 (.cons (b6 (S.arg ay) k Tryz.underlying63) (.cons (dy (S.arg ay) 128 k) (.cons (b6 (S.arg hb) k Tryz.underlying63) (.cons (dy (S.arg hb) 128 k) (.cons (aE fun w hw=>YM w (el a k) (el b k)) .nil))))) (!(decide ((el a k)=(el b k)))) (fun ac w β cD S=>?_) (fun ac w β cD S=>?_)
  ·have db:=cn cD
   have fx:=of_decide_eq_false db
   exact S.aq 7 .nil [B false] (a6 Ki)
  have c3:=b_ cD
  have dY:=of_decide_eq_true c3
  refine S.ge 9 (.cons (cg (k:Int) 1) .nil) f3 fun ac w β S=>iw.of (a.length-(k+1)) _ _ (by omega) ⟨k+1,_,_,_,rfl,?_,?_,?_,S.z⟩
  ·exact cO
  ·exact cO
  ·clear S;exact sG (by omega) (by omega) he (by simp_all)
 exact S.aq 12 .nil [B true] (a6 Ki)
theorem Ex {p:Prop} (h:p:=by clear S;first|(simp [fo.ext_iff, *];done)|(simp_all [fo.ext_iff];done)):p:=h
theorem YH (w0:World) (a:fo) (b:fo):Calls Tryz.prog 344 [GT.val a (),GT.val b ()].toArray w0 (fun e w'=>e= .returned (B (decide (a=b)))/\bu ab w0 w'):=by
 refine Calls.run ab Tryz.func344 ?_
 intro ac β S
 refine S.aI 17 .nil (a.aX != b.aX) (fun ac w β h1 a8 S=>?_) (fun ac w β h1 a8 S=>?_)
 ·exact S.aq 7 .nil [B false] (a6 Ex)
 refine S.aI 13 .nil (a.post != b.post) (fun ac w β aF cB S=>?_) (fun ac w β aF cB S=>?_)
 ·exact S.aq 7 .nil [B false] (a6 Ex)
 refine S.bb 13 .nil (!(a.eV==b.eV)) (fun ac w β bl S=>?_) (fun ac w β bl S=>?_)
 ·have cR:=cn bl
  have gC:¬(a.eV=b.eV):=ne_of_beq_false cR
  exact S.aq 7 .nil [B false] (a6 Ex)
 have db:=b_ bl
 have fx:a.eV=b.eV:=eq_of_beq db
 exact S.aq 9 .nil [B true] (a6 Ex)
theorem A8 {p:Prop} (h:p:=by clear S;first|(simp [df.ext_iff, *];done)|(simp_all [df.ext_iff];done)):p:=h
theorem YJ (w0:World) (a:df) (b:df):Calls Tryz.prog 345 [GT.val a (),GT.val b ()].toArray w0 (fun e w'=>e= .returned (B (decide (a=b)))/\bu ab w0 w'):=by
 refine Calls.run ab Tryz.func345 ?_
 intro ac β S
 refine S.aI 17 .nil (a.kind != b.kind) (fun ac w β h1 a8 S=>?_) (fun ac w β h1 a8 S=>?_)
 ·exact S.aq 7 .nil [B false] (a6 A8)
 refine S.aI 13 .nil (a.page != b.page) (fun ac w β aF cB S=>?_) (fun ac w β aF cB S=>?_)
 ·exact S.aq 7 .nil [B false] (a6 A8)
 refine S.bb 13 .nil (!(a.wr==b.wr)) (fun ac w β bl S=>?_) (fun ac w β bl S=>?_)
 ·have cR:=cn bl
  have gC:¬(a.wr=b.wr):=ne_of_beq_false cR
  exact S.aq 7 .nil [B false] (a6 A8)
 have db:=b_ bl
 have fx:a.wr=b.wr:=eq_of_beq db
 refine S.aI 13 .nil (a.n != b.n) (fun ac w β c3 dY S=>?_) (fun ac w β c3 dY S=>?_)
 ·exact S.aq 7 .nil [B false] (a6 A8)
 exact S.aq 9 .nil [B true] (a6 A8)
theorem qf {p:Prop} (h:p:=by clear S;first|(simp [ax.ext_iff, *];done)|(simp_all [ax.ext_iff];done)):p:=h
theorem YK (w0:World) (a:ax) (pa:c6) (ay:bT w0 a pa) (b:ax) (bB:c6) (hb:bT w0 b bB):Calls Tryz.prog 316 [GT.val a pa,GT.val b bB].toArray w0 (fun e w'=>e= .returned (B (decide (a=b)))/\bu ab w0 w'):=by
 refine Calls.run ab Tryz.func316 ?_
 intro ac β S
 have aer:a.prog.length<=4194304:=af.le (az.prog (d:=a) ay)
 have aev:a.written.length<=4194304:=af.le (az.written (d:=a) ay)
 have aen:a.live.length<=4194304:=af.le (az.live (d:=a) ay)
 have aes:a.seen.length<=4194304:=af.le (az.seen (d:=a) ay)
 have aoj:b.prog.length<=4194304:=af.le (az.prog (d:=b) hb)
 have aon:b.written.length<=4194304:=af.le (az.written (d:=b) hb)
 have aof:b.live.length<=4194304:=af.le (az.live (d:=b) hb)
 have aok:b.seen.length<=4194304:=af.le (az.seen (d:=b) hb)
 refine S.bb 18 (.cons (aE fun w hw=>YN w a.prog pa.prog (bN (az.prog (d:=a) (S.arg ay)) hw) b.prog bB.prog (bN (az.prog (d:=b) (S.arg hb)) hw)) .nil) (!(decide (a.prog=b.prog))) (fun ac w β h1 S=>?_) (fun ac w β h1 S=>?_)
 ·have an:=cn h1
  have b4:=of_decide_eq_false an
  exact S.aq 7 .nil [B false] (a6 qf)
 have b2:=b_ h1
 have dK:=of_decide_eq_true b2
 refine S.aI 13 .nil (a.acc != b.acc) (fun ac w β cR gC S=>?_) (fun ac w β cR gC S=>?_)
 ·exact S.aq 7 .nil [B false] (a6 qf)
 refine S.aI 13 .nil (a.aw != b.aw) (fun ac w β db fx S=>?_) (fun ac w β db fx S=>?_)
 ·exact S.aq 7 .nil [B false] (a6 qf)
 refine S.bb 14 (.cons (aE fun w hw=>Da w a.written pa.written (bN (az.written (d:=a) (S.arg ay)) hw) b.written bB.written (bN (az.written (d:=b) (S.arg hb)) hw)) .nil) (!(decide (a.written=b.written))) (fun ac w β c3 S=>?_) (fun ac w β c3 S=>?_)
 ·have eL:=cn c3
  have h8:=of_decide_eq_false eL
  exact S.aq 7 .nil [B false] (a6 qf)
 have jD:=b_ c3
 have nK:=of_decide_eq_true jD
 refine S.bb 14 (.cons (aE fun w hw=>Da w a.live pa.live (bN (az.live (d:=a) (S.arg ay)) hw) b.live bB.live (bN (az.live (d:=b) (S.arg hb)) hw)) .nil) (!(decide (a.live=b.live))) (fun ac w β oj S=>?_) (fun ac w β oj S=>?_)
 ·have lO:=cn oj
  have Il:=of_decide_eq_false lO
  exact S.aq 7 .nil [B false] (a6 qf)
 have nM:=b_ oj
 have xO:=of_decide_eq_true nM
 refine S.bb 14 (.cons (aE fun w hw=>YH w a.aN b.aN) .nil) (!(decide (a.aN=b.aN))) (fun ac w β hj S=>?_) (fun ac w β hj S=>?_)
 ·have lj:=cn hj
  have uT:=of_decide_eq_false lj
  exact S.aq 7 .nil [B false] (a6 qf)
 have rW:=b_ hj
 have anz:=of_decide_eq_true rW
 refine S.aI 13 .nil (a.aB != b.aB) (fun ac w β x4 p6 S=>?_) (fun ac w β x4 p6 S=>?_)
 ·exact S.aq 7 .nil [B false] (a6 qf)
 refine S.bb 14 (.cons (aE fun w hw=>YJ w a.exit b.exit) .nil) (!(decide (a.exit=b.exit))) (fun ac w β lP S=>?_) (fun ac w β lP S=>?_)
 ·have hB:=cn lP
  have lN:=of_decide_eq_false hB
  exact S.aq 7 .nil [B false] (a6 qf)
 have lk:=b_ lP
 have xP:=of_decide_eq_true lk
 refine S.bb 13 .nil (!(a.halted==b.halted)) (fun ac w β pf S=>?_) (fun ac w β pf S=>?_)
 ·have mW:=cn pf
  have rV:¬(a.halted=b.halted):=ne_of_beq_false mW
  exact S.aq 7 .nil [B false] (a6 qf)
 have kA:=b_ pf
 have pd:a.halted=b.halted:=eq_of_beq kA
 refine S.bb 14 (.cons (aE fun w hw=>Hc w a.seen pa.seen (bN (az.seen (d:=a) (S.arg ay)) hw) b.seen bB.seen (bN (az.seen (d:=b) (S.arg hb)) hw)) .nil) (!(decide (a.seen=b.seen))) (fun ac w β ja S=>?_) (fun ac w β ja S=>?_)
 ·have qQ:=cn ja
  have xR:=of_decide_eq_false qQ
  exact S.aq 7 .nil [B false] (a6 qf)
 have kZ:=b_ ja
 have Ip:=of_decide_eq_true kZ
 exact S.aq 9 .nil [B true] (a6 qf)
theorem Kg {p:Prop} (h:p:=by clear S;first|(simp;intro e;subst e;simp_all;done)|(simp;rw [fb (by omega),fb (by omega)] at he;exact he)|(simp;exact sH (by simp_all))):p:=h
theorem YL (w0:World) (a:List ax) (pa:aC ax) (ay:bT w0 a pa) (b:List ax) (bB:aC ax) (hb:bT w0 b bB):Calls Tryz.prog 259 [R a.length pa.1,R b.length bB.1].toArray w0 (fun e w'=>e= .returned (B (decide (a=b)))/\bu ab w0 w'):=by
 refine Calls.run ab Tryz.func259 ?_
 intro ac β S
 have fy:a.length<=4194304:=af.le ay
 have kD:b.length<=4194304:=af.le hb
 refine S.aI 15 .nil ((a.length:Int) != (b.length:Int)) (fun ac w β h1 a8 S=>?_) (fun ac w β h1 a8 S=>?_)
 ·exact S.aq 7 .nil [B false] (a6 Kg)
 refine S.go 10 .nil fun ac w β S=>?_
 refine dc (fun a5 ac w=>∃(k:Nat) (u:_) (N:_) (β:_),a5=a.length-k/\(k<=a.length)/\(a.length=b.length)/\(a.take k=b.take k)/\aj Tryz.prog Tryz.f259.ntmps w0 ab u N β ⟨[(0,.v (R a.length pa.1)),(1,.v (R b.length bB.1)),(5,.v (aa (k:Int)))],[]⟩ ac w) _ ⟨0,_,_,_,rfl,cv,cv,(by simp),S.z⟩ ?_
 clear S
 rintro f3 a5 iw ac w ⟨k,u,N,β,rfl,hk,ka,he,S⟩
 refine S.rs fun S=>?_
 refine S.aI 9 .nil (decide ((k:Int)<(a.length:Int))) (fun ac w β bl c7 S=>?_) (fun ac w β bl c7 S=>?_)
 ·refine S.bb 8 (.cons (b6 (S.arg ay) k Tryz.underlying71) (.cons (dy (S.arg ay) 70 k) (.cons (b6 (S.arg hb) k Tryz.underlying71) (.cons (dy (S.arg hb) 70 k) (.cons (aE fun w hw=>YK w (el a k) (pa.2 k) (bN (af.el (S.arg ay) k (by omega)) hw) (el b k) (bB.2 k) (bN (af.el (S.arg hb) k (by omega)) hw)) .nil))))) (!(decide ((el a k)=(el b k)))) (fun ac w β cD S=>?_) (fun ac w β cD S=>?_)
  ·have db:=cn cD
   have fx:=of_decide_eq_false db
   exact S.aq 7 .nil [B false] (a6 Kg)
  have c3:=b_ cD
  have dY:=of_decide_eq_true c3
  refine S.ge 9 (.cons (cg (k:Int) 1) .nil) f3 fun ac w β S=>iw.of (a.length-(k+1)) _ _ (by omega) ⟨k+1,_,_,_,rfl,?_,?_,?_,S.z⟩
  ·exact cO
  ·exact cO
  ·clear S;exact sG (by omega) (by omega) he (by simp_all)
 exact S.aq 12 .nil [B true] (a6 Kg)
theorem Kl {p:Prop} (h:p:=by clear S;first|(simp [bQ.ext_iff, *];done)|(simp_all [bQ.ext_iff];done)):p:=h
theorem YO (w0:World) (a:bQ) (pa:fm) (ay:bT w0 a pa) (b:bQ) (bB:fm) (hb:bT w0 b bB):Calls Tryz.prog 317 [GT.val a pa,GT.val b bB].toArray w0 (fun e w'=>e= .returned (B (decide (a=b)))/\bu ab w0 w'):=by
 refine Calls.run ab Tryz.func317 ?_
 intro ac β S
 have aem:a.known.length<=4194304:=af.le (er.known (d:=a) ay)
 have aet:a.aY.length<=4194304:=af.le (er.aY (d:=a) ay)
 have aoe:b.known.length<=4194304:=af.le (er.known (d:=b) hb)
 have aol:b.aY.length<=4194304:=af.le (er.aY (d:=b) hb)
 refine S.bb 18 (.cons (aE fun w hw=>Ps w a.known pa.known (bN (er.known (d:=a) (S.arg ay)) hw) b.known bB.known (bN (er.known (d:=b) (S.arg hb)) hw)) .nil) (!(decide (a.known=b.known))) (fun ac w β h1 S=>?_) (fun ac w β h1 S=>?_)
 ·have an:=cn h1
  have b4:=of_decide_eq_false an
  exact S.aq 7 .nil [B false] (a6 Kl)
 have b2:=b_ h1
 have dK:=of_decide_eq_true b2
 refine S.bb 14 (.cons (aE fun w hw=>Da w a.aY pa.aY (bN (er.aY (d:=a) (S.arg ay)) hw) b.aY bB.aY (bN (er.aY (d:=b) (S.arg hb)) hw)) .nil) (!(decide (a.aY=b.aY))) (fun ac w β cR S=>?_) (fun ac w β cR S=>?_)
 ·have cD:=cn cR
  have e_:=of_decide_eq_false cD
  exact S.aq 7 .nil [B false] (a6 Kl)
 have et:=b_ cR
 have iP:=of_decide_eq_true et
 exact S.aq 9 .nil [B true] (a6 Kl)
theorem Km {p:Prop} (h:p:=by clear S;first|(simp;intro e;subst e;simp_all;done)|(simp;rw [fb (by omega),fb (by omega)] at he;exact he)|(simp;exact sH (by simp_all))):p:=h
theorem YP (w0:World) (a:List bQ) (pa:aC bQ) (ay:bT w0 a pa) (b:List bQ) (bB:aC bQ) (hb:bT w0 b bB):Calls Tryz.prog 260 [R a.length pa.1,R b.length bB.1].toArray w0 (fun e w'=>e= .returned (B (decide (a=b)))/\bu ab w0 w'):=by
 refine Calls.run ab Tryz.func260 ?_
 intro ac β S
 have fy:a.length<=4194304:=af.le ay
 have kD:b.length<=4194304:=af.le hb
 refine S.aI 15 .nil ((a.length:Int) != (b.length:Int)) (fun ac w β h1 a8 S=>?_) (fun ac w β h1 a8 S=>?_)
 ·exact S.aq 7 .nil [B false] (a6 Km)
 refine S.go 10 .nil fun ac w β S=>?_
 refine dc (fun a5 ac w=>∃(k:Nat) (u:_) (N:_) (β:_),a5=a.length-k/\(k<=a.length)/\(a.length=b.length)/\(a.take k=b.take k)/\aj Tryz.prog Tryz.f260.ntmps w0 ab u N β ⟨[(0,.v (R a.length pa.1)),(1,.v (R b.length bB.1)),(5,.v (aa (k:Int)))],[]⟩ ac w) _ ⟨0,_,_,_,rfl,cv,cv,(by simp),S.z⟩ ?_
 clear S
 rintro f3 a5 iw ac w ⟨k,u,N,β,rfl,hk,ka,he,S⟩
 refine S.rs fun S=>?_
 refine S.aI 9 .nil (decide ((k:Int)<(a.length:Int))) (fun ac w β bl c7 S=>?_) (fun ac w β bl c7 S=>?_)
 ·refine S.bb 8 (.cons (b6 (S.arg ay) k Tryz.underlying72) (.cons (dy (S.arg ay) 165 k) (.cons (b6 (S.arg hb) k Tryz.underlying72) (.cons (dy (S.arg hb) 165 k) (.cons (aE fun w hw=>YO w (el a k) (pa.2 k) (bN (af.el (S.arg ay) k (by omega)) hw) (el b k) (bB.2 k) (bN (af.el (S.arg hb) k (by omega)) hw)) .nil))))) (!(decide ((el a k)=(el b k)))) (fun ac w β cD S=>?_) (fun ac w β cD S=>?_)
  ·have db:=cn cD
   have fx:=of_decide_eq_false db
   exact S.aq 7 .nil [B false] (a6 Km)
  have c3:=b_ cD
  have dY:=of_decide_eq_true c3
  refine S.ge 9 (.cons (cg (k:Int) 1) .nil) f3 fun ac w β S=>iw.of (a.length-(k+1)) _ _ (by omega) ⟨k+1,_,_,_,rfl,?_,?_,?_,S.z⟩
  ·exact cO
  ·exact cO
  ·clear S;exact sG (by omega) (by omega) he (by simp_all)
 exact S.aq 12 .nil [B true] (a6 Km)
theorem qZ {p:Prop} (h:p:=by clear S;first|(simp [aO.ext_iff, *];done)|(simp_all [aO.ext_iff];done)):p:=h
theorem YQ (w0:World) (a:aO) (pa:fj) (ay:bT w0 a pa) (b:aO) (bB:fj) (hb:bT w0 b bB):Calls Tryz.prog 154 [GT.val a pa,GT.val b bB].toArray w0 (fun e w'=>e= .returned (B (decide (a=b)))/\bu ab w0 w'):=by
 refine Calls.run ab Tryz.func154 ?_
 intro ac β S
 have aep:a.outer.length<=4194304:=af.le (aU.outer (d:=a) ay)
 have aeo:a.out.length<=4194304:=af.le (aU.out (d:=a) ay)
 have aek:a.aT.length<=4194304:=af.le (aU.aT (d:=a) ay)
 have ael:a.U.length<=4194304:=af.le (aU.U (d:=a) ay)
 have aeq:a.outs.length<=4194304:=af.le (aU.outs (d:=a) ay)
 have aeu:a.tables.length<=4194304:=af.le (aU.tables (d:=a) ay)
 have aoi:b.outer.length<=4194304:=af.le (aU.outer (d:=b) hb)
 have aoh:b.out.length<=4194304:=af.le (aU.out (d:=b) hb)
 have aoc:b.aT.length<=4194304:=af.le (aU.aT (d:=b) hb)
 have ye:b.U.length<=4194304:=af.le (aU.U (d:=b) hb)
 have yg:b.outs.length<=4194304:=af.le (aU.outs (d:=b) hb)
 have aom:b.tables.length<=4194304:=af.le (aU.tables (d:=b) hb)
 refine S.bb 18 (.cons (aE fun w hw=>Da w a.outer pa.outer (bN (aU.outer (d:=a) (S.arg ay)) hw) b.outer bB.outer (bN (aU.outer (d:=b) (S.arg hb)) hw)) .nil) (!(decide (a.outer=b.outer))) (fun ac w β h1 S=>?_) (fun ac w β h1 S=>?_)
 ·have an:=cn h1
  have b4:=of_decide_eq_false an
  exact S.aq 7 .nil [B false] (a6 qZ)
 have b2:=b_ h1
 have dK:=of_decide_eq_true b2
 refine S.bb 14 (.cons (aE fun w hw=>Pu w a.out pa.out (bN (aU.out (d:=a) (S.arg ay)) hw) b.out bB.out (bN (aU.out (d:=b) (S.arg hb)) hw)) .nil) (!(decide (a.out=b.out))) (fun ac w β cR S=>?_) (fun ac w β cR S=>?_)
 ·have cD:=cn cR
  have e_:=of_decide_eq_false cD
  exact S.aq 7 .nil [B false] (a6 qZ)
 have et:=b_ cR
 have iP:=of_decide_eq_true et
 refine S.bb 14 (.cons (aE fun w hw=>Ps w a.aT pa.aT (bN (aU.aT (d:=a) (S.arg ay)) hw) b.aT bB.aT (bN (aU.aT (d:=b) (S.arg hb)) hw)) .nil) (!(decide (a.aT=b.aT))) (fun ac w β eL S=>?_) (fun ac w β eL S=>?_)
 ·have dZ:=cn eL
  have hA:=of_decide_eq_false dZ
  exact S.aq 7 .nil [B false] (a6 qZ)
 have h9:=b_ eL
 have lM:=of_decide_eq_true h9
 refine S.bb 14 (.cons (aE fun w hw=>YL w a.U pa.U (bN (aU.U (d:=a) (S.arg ay)) hw) b.U bB.U (bN (aU.U (d:=b) (S.arg hb)) hw)) .nil) (!(decide (a.U=b.U))) (fun ac w β lO S=>?_) (fun ac w β lO S=>?_)
 ·have jE:=cn lO
  have pc:=of_decide_eq_false jE
  exact S.aq 7 .nil [B false] (a6 qZ)
 have iZ:=b_ lO
 have p5:=of_decide_eq_true iZ
 refine S.bb 14 (.cons (aE fun w hw=>Hc w a.outs pa.outs (bN (aU.outs (d:=a) (S.arg ay)) hw) b.outs bB.outs (bN (aU.outs (d:=b) (S.arg hb)) hw)) .nil) (!(decide (a.outs=b.outs))) (fun ac w β lj S=>?_) (fun ac w β lj S=>?_)
 ·have pe:=cn lj
  have tc:=of_decide_eq_false pe
  exact S.aq 7 .nil [B false] (a6 qZ)
 have gM:=b_ lj
 have jC:=of_decide_eq_true gM
 refine S.aI 13 .nil (a.aB != b.aB) (fun ac w β gN td S=>?_) (fun ac w β gN td S=>?_)
 ·exact S.aq 7 .nil [B false] (a6 qZ)
 refine S.aI 13 .nil (a.aX != b.aX) (fun ac w β hB lN S=>?_) (fun ac w β hB lN S=>?_)
 ·exact S.aq 7 .nil [B false] (a6 qZ)
 refine S.bb 14 (.cons (aE fun w hw=>YP w a.tables pa.tables (bN (aU.tables (d:=a) (S.arg ay)) hw) b.tables bB.tables (bN (aU.tables (d:=b) (S.arg hb)) hw)) .nil) (!(decide (a.tables=b.tables))) (fun ac w β lk S=>?_) (fun ac w β lk S=>?_)
 ·have lQ:=cn lk
  have uU:=of_decide_eq_false lQ
  exact S.aq 7 .nil [B false] (a6 qZ)
 have mW:=b_ lk
 have rV:=of_decide_eq_true mW
 refine S.aI 13 .nil (a.owned != b.owned) (fun ac w β kA pd S=>?_) (fun ac w β kA pd S=>?_)
 ·exact S.aq 7 .nil [B false] (a6 qZ)
 exact S.aq 9 .nil [B true] (a6 qZ)
theorem Kn {p:Prop} (h:p:=by clear S;first|(simp;intro e;subst e;simp_all;done)|(simp;rw [fb (by omega),fb (by omega)] at he;exact he)|(simp;exact sH (by simp_all))):p:=h
theorem YR (w0:World) (a:List aO) (pa:aC aO) (ay:bT w0 a pa) (b:List aO) (bB:aC aO) (hb:bT w0 b bB):Calls Tryz.prog 58 [R a.length pa.1,R b.length bB.1].toArray w0 (fun e w'=>e= .returned (B (decide (a=b)))/\bu ab w0 w'):=by
 refine Calls.run ab Tryz.func58 ?_
 intro ac β S
 have fy:a.length<=4194304:=af.le ay
 have kD:b.length<=4194304:=af.le hb
 refine S.aI 15 .nil ((a.length:Int) != (b.length:Int)) (fun ac w β h1 a8 S=>?_) (fun ac w β h1 a8 S=>?_)
 ·exact S.aq 7 .nil [B false] (a6 Kn)
 refine S.go 10 .nil fun ac w β S=>?_
 refine dc (fun a5 ac w=>∃(k:Nat) (u:_) (N:_) (β:_),a5=a.length-k/\(k<=a.length)/\(a.length=b.length)/\(a.take k=b.take k)/\aj Tryz.prog Tryz.f58.ntmps w0 ab u N β ⟨[(0,.v (R a.length pa.1)),(1,.v (R b.length bB.1)),(5,.v (aa (k:Int)))],[]⟩ ac w) _ ⟨0,_,_,_,rfl,cv,cv,(by simp),S.z⟩ ?_
 clear S
 rintro f3 a5 iw ac w ⟨k,u,N,β,rfl,hk,ka,he,S⟩
 refine S.rs fun S=>?_
 refine S.aI 9 .nil (decide ((k:Int)<(a.length:Int))) (fun ac w β bl c7 S=>?_) (fun ac w β bl c7 S=>?_)
 ·refine S.bb 8 (.cons (b6 (S.arg ay) k Tryz.underlying28) (.cons (dy (S.arg ay) 74 k) (.cons (b6 (S.arg hb) k Tryz.underlying28) (.cons (dy (S.arg hb) 74 k) (.cons (aE fun w hw=>YQ w (el a k) (pa.2 k) (bN (af.el (S.arg ay) k (by omega)) hw) (el b k) (bB.2 k) (bN (af.el (S.arg hb) k (by omega)) hw)) .nil))))) (!(decide ((el a k)=(el b k)))) (fun ac w β cD S=>?_) (fun ac w β cD S=>?_)
  ·have db:=cn cD
   have fx:=of_decide_eq_false db
   exact S.aq 7 .nil [B false] (a6 Kn)
  have c3:=b_ cD
  have dY:=of_decide_eq_true c3
  refine S.ge 9 (.cons (cg (k:Int) 1) .nil) f3 fun ac w β S=>iw.of (a.length-(k+1)) _ _ (by omega) ⟨k+1,_,_,_,rfl,?_,?_,?_,S.z⟩
  ·exact cO
  ·exact cO
  ·clear S;exact sG (by omega) (by omega) he (by simp_all)
 exact S.aq 12 .nil [B true] (a6 Kn)
theorem A7 {p:Prop} (h:p:=by clear S;first|(simp [aG.ext_iff, *];done)|(simp_all [aG.ext_iff];done)):p:=h
theorem YI (w0:World) (a:aG) (b:aG):Calls Tryz.prog 155 [GT.val a (),GT.val b ()].toArray w0 (fun e w'=>e= .returned (B (decide (a=b)))/\bu ab w0 w'):=by
 refine Calls.run ab Tryz.func155 ?_
 intro ac β S
 refine S.aI 17 .nil (a.tag != b.tag) (fun ac w β h1 a8 S=>?_) (fun ac w β h1 a8 S=>?_)
 ·exact S.aq 7 .nil [B false] (a6 A7)
 refine S.aI 13 .nil (a.page != b.page) (fun ac w β aF cB S=>?_) (fun ac w β aF cB S=>?_)
 ·exact S.aq 7 .nil [B false] (a6 A7)
 refine S.aI 13 .nil (a.host != b.host) (fun ac w β bl c7 S=>?_) (fun ac w β bl c7 S=>?_)
 ·exact S.aq 7 .nil [B false] (a6 A7)
 refine S.aI 13 .nil (a.bd != b.bd) (fun ac w β cD e_ S=>?_) (fun ac w β cD e_ S=>?_)
 ·exact S.aq 7 .nil [B false] (a6 A7)
 exact S.aq 9 .nil [B true] (a6 A7)
theorem Kf {p:Prop} (h:p:=by clear S;first|(simp;intro e;subst e;simp_all;done)|(simp;rw [fb (by omega),fb (by omega)] at he;exact he)|(simp;exact sH (by simp_all))):p:=h
theorem Pt (w0:World) (a:List aG) (pa:aC aG) (ay:bT w0 a pa) (b:List aG) (bB:aC aG) (hb:bT w0 b bB):Calls Tryz.prog 59 [R a.length pa.1,R b.length bB.1].toArray w0 (fun e w'=>e= .returned (B (decide (a=b)))/\bu ab w0 w'):=by
 refine Calls.run ab Tryz.func59 ?_
 intro ac β S
 have fy:a.length<=4194304:=af.le ay
 have kD:b.length<=4194304:=af.le hb
 refine S.aI 15 .nil ((a.length:Int) != (b.length:Int)) (fun ac w β h1 a8 S=>?_) (fun ac w β h1 a8 S=>?_)
 ·exact S.aq 7 .nil [B false] (a6 Kf)
 refine S.go 10 .nil fun ac w β S=>?_
 refine dc (fun a5 ac w=>∃(k:Nat) (u:_) (N:_) (β:_),a5=a.length-k/\(k<=a.length)/\(a.length=b.length)/\(a.take k=b.take k)/\aj Tryz.prog Tryz.f59.ntmps w0 ab u N β ⟨[(0,.v (R a.length pa.1)),(1,.v (R b.length bB.1)),(5,.v (aa (k:Int)))],[]⟩ ac w) _ ⟨0,_,_,_,rfl,cv,cv,(by simp),S.z⟩ ?_
 clear S
 rintro f3 a5 iw ac w ⟨k,u,N,β,rfl,hk,ka,he,S⟩
 refine S.rs fun S=>?_
 refine S.aI 9 .nil (decide ((k:Int)<(a.length:Int))) (fun ac w β bl c7 S=>?_) (fun ac w β bl c7 S=>?_)
 ·refine S.bb 8 (.cons (b6 (S.arg ay) k Tryz.underlying29) (.cons (dy (S.arg ay) 138 k) (.cons (b6 (S.arg hb) k Tryz.underlying29) (.cons (dy (S.arg hb) 138 k) (.cons (aE fun w hw=>YI w (el a k) (el b k)) .nil))))) (!(decide ((el a k)=(el b k)))) (fun ac w β cD S=>?_) (fun ac w β cD S=>?_)
  ·have db:=cn cD
   have fx:=of_decide_eq_false db
   exact S.aq 7 .nil [B false] (a6 Kf)
  have c3:=b_ cD
  have dY:=of_decide_eq_true c3
  refine S.ge 9 (.cons (cg (k:Int) 1) .nil) f3 fun ac w β S=>iw.of (a.length-(k+1)) _ _ (by omega) ⟨k+1,_,_,_,rfl,?_,?_,?_,S.z⟩
  ·exact cO
  ·exact cO
  ·clear S;exact sG (by omega) (by omega) he (by simp_all)
 exact S.aq 12 .nil [B true] (a6 Kf)
theorem A9 {p:Prop} (h:p:=by clear S;first|(simp [ah.ext_iff, *];done)|(simp_all [ah.ext_iff];done)):p:=h
theorem C_ (w0:World) (a:ah) (pa:cb) (ay:bT w0 a pa) (b:ah) (bB:cb) (hb:bT w0 b bB):Calls Tryz.prog 10 [GT.val a pa,GT.val b bB].toArray w0 (fun e w'=>e= .returned (B (decide (a=b)))/\bu ab w0 w'):=by
 refine Calls.run ab Tryz.func10 ?_
 intro ac β S
 have Ss:a.mem.length<=4194304:=af.le (bz.mem (d:=a) ay)
 have St:a.I.length<=4194304:=af.le (bz.I (d:=a) ay)
 have Sq:a.buf.length<=4194304:=af.le (bz.buf (d:=a) ay)
 have Sr:a.ag.length<=4194304:=af.le (bz.ag (d:=a) ay)
 have yf:b.mem.length<=4194304:=af.le (bz.mem (d:=b) hb)
 have aog:b.I.length<=4194304:=af.le (bz.I (d:=b) hb)
 have aob:b.buf.length<=4194304:=af.le (bz.buf (d:=b) hb)
 have aod:b.ag.length<=4194304:=af.le (bz.ag (d:=b) hb)
 refine S.bb 18 (.cons (aE fun w hw=>Pu w a.mem pa.mem (bN (bz.mem (d:=a) (S.arg ay)) hw) b.mem bB.mem (bN (bz.mem (d:=b) (S.arg hb)) hw)) .nil) (!(decide (a.mem=b.mem))) (fun ac w β h1 S=>?_) (fun ac w β h1 S=>?_)
 ·have an:=cn h1
  have b4:=of_decide_eq_false an
  exact S.aq 7 .nil [B false] (a6 A9)
 have b2:=b_ h1
 have dK:=of_decide_eq_true b2
 refine S.bb 14 (.cons (aE fun w hw=>YR w a.I pa.I (bN (bz.I (d:=a) (S.arg ay)) hw) b.I bB.I (bN (bz.I (d:=b) (S.arg hb)) hw)) .nil) (!(decide (a.I=b.I))) (fun ac w β cR S=>?_) (fun ac w β cR S=>?_)
 ·have cD:=cn cR
  have e_:=of_decide_eq_false cD
  exact S.aq 7 .nil [B false] (a6 A9)
 have et:=b_ cR
 have iP:=of_decide_eq_true et
 refine S.bb 14 (.cons (aE fun w hw=>Pt w a.buf pa.buf (bN (bz.buf (d:=a) (S.arg ay)) hw) b.buf bB.buf (bN (bz.buf (d:=b) (S.arg hb)) hw)) .nil) (!(decide (a.buf=b.buf))) (fun ac w β eL S=>?_) (fun ac w β eL S=>?_)
 ·have dZ:=cn eL
  have hA:=of_decide_eq_false dZ
  exact S.aq 7 .nil [B false] (a6 A9)
 have h9:=b_ eL
 have lM:=of_decide_eq_true h9
 refine S.bb 14 (.cons (aE fun w hw=>Pt w a.ag pa.ag (bN (bz.ag (d:=a) (S.arg ay)) hw) b.ag bB.ag (bN (bz.ag (d:=b) (S.arg hb)) hw)) .nil) (!(decide (a.ag=b.ag))) (fun ac w β lO S=>?_) (fun ac w β lO S=>?_)
 ·have jE:=cn lO
  have pc:=of_decide_eq_false jE
  exact S.aq 7 .nil [B false] (a6 A9)
 have iZ:=b_ lO
 have p5:=of_decide_eq_true iZ
 exact S.aq 9 .nil [B true] (a6 A9)
theorem He (w0:World) (a:List Int) (pa:aC Int) (F:au) (ay:GT.own b7 F w0 a pa) (eM:∀b,F b->b<w0.heap.size) (k:Int) (ft:0<=k) (gP:k+16*(aS.aW a:Int)<=4611686018427387904):Calls Tryz.prog 18 [R a.length pa.1,aa k].toArray w0 (n6 aR F w0 pa a k):=by
 refine Calls.run F Tryz.func18 ?_
 intro ac β S
 have ig:ad w0 F w0 (fc w0.heap.size) F a pa:=⟨ay,eM,fun b hb=> .inr hb⟩
 have ed:=VO a
 have fy:a.length<=4194304:=g1.le ay
 refine S.go 12 .nil fun ac w β S=>?_
 refine dc (fun a5 ac w=>∃(i:Nat) (acc:List Int) (j:Int) (ae:_) (br:_) (u:_) (N:_) (β:_),a5=a.length-i/\(i<=a.length)/\(acc=oe i k++a.drop i)/\(j=k+1*(i:Int))/\aj Tryz.prog Tryz.f18.ntmps w0 F u N β ⟨[(0,.v (R a.length ae.1)),(1,.v (aa j)),(5,.v (aa (i:Int)))],[]⟩ ac w/\ad w0 F u N br acc ae/\ae.1=pa.1/\(∀b,br b->F b)) _ ⟨0,a,k,pa,F,_,_,_,rfl,cv,(by simp [oe]),(by simp),S.z,ig,rfl,(fun _ h=>h)⟩ ?_
 clear S ig
 rintro f4 a5 lS ac w ⟨i,acc,j,ae,br,u,N,β,rfl,hi,bt,b0,S,aD,a9,hs⟩
 refine S.rs fun S=>?_
 have gD:acc.length=a.length:=by rw [bt];simp [oe];omega
 refine S.aI 9 .nil (decide ((i:Int)<(a.length:Int))) (fun ac w β cR gC S=>?_) (fun ac w β cR gC S=>?_)
 ·refine S.go 11 (.cons (eI aD.ak (l:=a.length) (k:=i) (i:=(i:Int)) (by rw [bt];simp [oe];omega) rfl (by omega) Tryz.underlying38 (by kernel_rfl)) .nil) fun ac w β S=>S.fM (α:=Int) aD (t:=3) (k:=i) (j:=0) (off:=ae.1.off+i*1) (v:=aa j) (y:=j) (q:=()) (fun _ _ _=>⟨ab,⟨by omega,by omega⟩,fun _ h=>False.elim h⟩) fun w N bU fY S up bP d11 M7 K7=>?_
  have M_:∀b,bU b->F b:=fun b h=>(M7 b h).elim (hs b) (fun h=>False.elim h)
  clear up d11 aD K7
  have afz:(acc.set i j).length=acc.length:=List.length_set
  refine S.ge 14 (.cons (cg j 1) (.cons (cg (i:Int) 1) .nil)) f4 fun ac w β S=>lS.of (a.length-(i+1)) _ _ (by omega) ⟨i+1,(acc.set i j),(j+1),(ae.1,fY),bU,_,_,_,rfl,?_,?_,?_,S.z,bP,a9,M_⟩
  ·exact cO
  ·clear S;(have eP:i<acc.length:=(by omega));rw [bt,←aga (by omega) b0];(first|rfl|(simp [xY,Int.add_assoc];done))
  ·clear S;omega
 refine S.bq 13 .nil [aa j] fun ac w β S=>?_
 have k1:aR acc k=j:=by clear S;(have e:i=a.length:=(by omega));subst e;rw [bt,List.drop_length,List.append_nil,b0];exact Sd k (by omega) _ (by omega) id
 have hR:k<=j/\j<=k+16*((aS.aW a:Nat):Int):=by clear S;skip;constructor<;>omega
 exact rr S k1 hR.1 hR.2 (by show [R _ _]=[R _ _];rw [gD,a9]) aD hs
theorem PC (w0:World) (a:List (List Int)) (pa:aC (List Int)) (F:au) (ay:GT.own b7 F w0 a pa) (eM:∀b,F b->b<w0.heap.size) (k:Int) (ft:0<=k) (gP:k+16*(aS.aW a:Int)<=4611686018427387904):Calls Tryz.prog 60 [R a.length pa.1,aa k].toArray w0 (n6 aR F w0 pa a k):=by
 refine Calls.run F Tryz.func60 ?_
 intro ac β S
 have ig:ad w0 F w0 (fc w0.heap.size) F a pa:=⟨ay,eM,fun b hb=> .inr hb⟩
 have ed:=ns a
 have fy:a.length<=4194304:=g1.le ay
 refine S.go 12 .nil fun ac w β S=>?_
 refine dc (fun a5 ac w=>∃(i:Nat) (acc:List (List Int)) (j:Int) (ae:_) (br:_) (u:_) (N:_) (β:_),a5=a.length-i/\(i<=a.length)/\(acc.length=a.length)/\(∀f,hC (acc.take i) k f=f j)/\(acc.drop i=a.drop i)/\(k<=j)/\(j<=k+16*((i:Int)+(g9 (a.take i):Nat)))/\aj Tryz.prog Tryz.f60.ntmps w0 F u N β ⟨[(0,.v (R a.length ae.1)),(1,.v (aa j)),(5,.v (aa (i:Int)))],[]⟩ ac w/\ad w0 F u N br acc ae/\ae.1=pa.1/\(∀b,br b->F b)) _ ⟨0,a,k,pa,F,_,_,_,rfl,cv,(by rfl),(by intro f;rfl),(by rfl),cv,(by simp [tX]),S.z,ig,rfl,(fun _ h=>h)⟩ ?_
 clear S ig
 rintro f4 a5 lS ac w ⟨i,acc,j,ae,br,u,N,β,rfl,hi,hl,mX,mj,Jq,Jr,S,aD,a9,hs⟩
 refine S.rs fun S=>?_
 have h_:=Dv mj
 have qX:=hK a i
 refine S.aI 9 .nil (decide ((i:Int)<(a.length:Int))) (fun ac w β cR gC S=>?_) (fun ac w β cR gC S=>?_)
 ·obtain⟨eX,bE,wv,pQ⟩:=abJ aD (k:=i) (show i<acc.length by omega)
  have NJ:=j0 (xs:=a) (k:=i) (by omega)
  have NK:=hK a (i+1)
  have Qn:(el acc i)=el a i:=by simp only [h_]
  refine S.go 11 (.cons (eI aD.ak (l:=a.length) (k:=i) (i:=(i:Int)) (by omega) rfl (by omega) Tryz.underlying22 (by kernel_rfl)) (.cons (cj aD.ak 38 i) .nil)) fun ac w β S=>S.kV (hd:=aR) (d:=17) bE (He w (el acc i) (ae.2 i) eX (S.fX bE) (fun b hb=>(S.sep b (bE.sub b hb)).1) j (by omega) (by rw [Qn];omega)) fun ac w N nj V6 afi S up eU OQ aky Xh CY=>?_
  rw [Qn] at CY
  obtain⟨aiq,jX⟩:=pQ _ _ _ _ up eU OQ
  clear up aD bE wv pQ eU OQ
  obtain⟨w7,sZ⟩:∃z,z=acc.set i V6:=⟨_,rfl⟩
  rw [←sZ] at jX
  have afK:w7.length=acc.length:=by rw [sZ];exact List.length_set
  have aaN:el w7 i=V6:=by rw [sZ];exact dS (show i<acc.length by omega)
  have t29:w7.take i=acc.take i:=by rw [sZ];exact iJ
  have d30:w7.drop (i+1)=acc.drop (i+1):=by rw [sZ];exact im
  clear sZ
  refine S.ge 9 (.cons (cg (i:Int) 1) .nil) f4 fun ac w β S=>lS.of (a.length-(i+1)) _ _ (by omega) ⟨i+1,w7,afi,(ae.1,aiq),br,_,_,_,rfl,?_,?_,?_,?_,?_,?_,S.z,jX,a9,hs⟩
  ·exact cO
  ·clear S;omega
  ·clear S;refine EO (acc:=w7) (by omega) (by intro f;rw [t29];exact mX f) ?_;intro f;simp (disch:=first|omega|rfl) only [tj,tj,aaN,aky,AL,r4,r3]
  ·clear S;rw [d30];exact Dq mj
  ·clear S;omega
  ·clear S;omega
 refine S.bq 13 .nil [aa j] fun ac w β S=>?_
 have k1:aR acc k=j:=by clear S;exact EN (by omega) mX
 have hR:k<=j/\j<=k+16*((aS.aW a:Nat):Int):=by clear S;have vN:=hK a i;constructor<;>omega
 exact rr S k1 hR.1 hR.2 (by show [R _ _]=[R _ _];rw [hl,a9]) aD hs
theorem Dc (w0:World) (a:List aQ) (pa:aC aQ) (F:au) (ay:GT.own b7 F w0 a pa) (eM:∀b,F b->b<w0.heap.size) (k:Int) (ft:0<=k) (gP:k+16*(aS.aW a:Int)<=4611686018427387904):Calls Tryz.prog 156 [R a.length pa.1,aa k].toArray w0 (n6 aR F w0 pa a k):=by
 refine Calls.run F Tryz.func156 ?_
 intro ac β S
 have ig:ad w0 F w0 (fc w0.heap.size) F a pa:=⟨ay,eM,fun b hb=> .inr hb⟩
 have ed:=VR a
 have fy:a.length<=4194304:=g1.le ay
 refine S.go 12 .nil fun ac w β S=>?_
 refine dc (fun a5 ac w=>∃(i:Nat) (acc:List aQ) (j:Int) (ae:_) (br:_) (u:_) (N:_) (β:_),a5=a.length-i/\(i<=a.length)/\(acc=nF i k++a.drop i)/\(j=k+2*(i:Int))/\aj Tryz.prog Tryz.f156.ntmps w0 F u N β ⟨[(0,.v (R a.length ae.1)),(1,.v (aa j)),(5,.v (aa (i:Int)))],[]⟩ ac w/\ad w0 F u N br acc ae/\ae.1=pa.1/\(∀b,br b->F b)) _ ⟨0,a,k,pa,F,_,_,_,rfl,cv,(by simp [nF]),(by simp),S.z,ig,rfl,(fun _ h=>h)⟩ ?_
 clear S ig
 rintro f4 a5 lS ac w ⟨i,acc,j,ae,br,u,N,β,rfl,hi,bt,b0,S,aD,a9,hs⟩
 refine S.rs fun S=>?_
 have gD:acc.length=a.length:=by rw [bt];simp [nF];omega
 refine S.aI 9 .nil (decide ((i:Int)<(a.length:Int))) (fun ac w β cR gC S=>?_) (fun ac w β cR gC S=>?_)
 ·have ky:ea (el acc i):=(af.el aD.ak i (by omega))
  refine S.go 12 (.cons (eI aD.ak (l:=a.length) (k:=i) (i:=(i:Int)) (by rw [bt];simp [nF];omega) rfl (by omega) Tryz.underlying64 (by kernel_rfl)) .nil) fun ac w β S=>S.fM (α:=aQ) aD (t:=3) (k:=i) (j:=0) (off:=ae.1.off+i*2) (v:=aa j) (y:=(⟨j,(el acc i).bd⟩:aQ)) (q:=()) (fun _ _ _=>⟨ab,(show ea (⟨j,(el acc i).bd⟩:aQ) from⟨(show a_ j from⟨by omega,by omega⟩),(ea.bd (d:=(el acc i)) ky)⟩),fun _ h=>False.elim h⟩) fun w N dT yK S up bE d12 B5 vY=>?_
  have B6:∀b,dT b->F b:=fun b h=>(B5 b h).elim (hs b) (fun h=>False.elim h)
  clear up d12 aD vY
  have Bb:(acc.set i (⟨j,(el acc i).bd⟩:aQ)).length=acc.length:=List.length_set
  refine S.go 16 (.cons (cg j 1) (.cons (eI bE.ak (l:=a.length) (k:=i) (i:=(i:Int)) (by rw [List.length_set];exact(by rw [bt];simp [nF];omega)) rfl (by omega) Tryz.underlying64 (by kernel_rfl)) .nil)) fun ac w β S=>S.zr bE (α:=aQ) (t:=3) (v:=aa (j+1)) (k:=i) (j:=1) (off:=ae.1.off+i*2+1) (y:=(⟨j,(j+1)⟩:aQ)) (q:=()) (Fy:=ab) (by omega) (Nat.le_of_ble_eq_true (by kernel_rfl)) (fun _ _ _=>⟨ab,(show ea (⟨j,(j+1)⟩:aQ) from⟨(show a_ j from⟨by omega,by omega⟩),(show a_ (j+1) from⟨by omega,by omega⟩)⟩),fun _ h=>False.elim h⟩) (fun b _ h=>False.elim h) (fun b h=>False.elim h) (fun b h=>False.elim h) ?_ (hc:=(by rw [dS (show i<acc.length by omega)];kernel_rfl))
  clear S;intro w N kn dg S up eo d20 sA oC
  have yW:∀b,kn b->F b:=fun b h=>(sA b h).elim (B6 b) (fun h=>False.elim h)
  clear up d20 bE oC
  rw [List.set_set] at eo
  have KN:(acc.set i (⟨j,(j+1)⟩:aQ)).length=acc.length:=List.length_set
  refine S.ge 14 (.cons (cg (j+1) 1) (.cons (cg (i:Int) 1) .nil)) f4 fun ac w β S=>lS.of (a.length-(i+1)) _ _ (by omega) ⟨i+1,(acc.set i (⟨j,(j+1)⟩:aQ)),((j+1)+1),(ae.1,dg),kn,_,_,_,rfl,?_,?_,?_,S.z,eo,a9,yW⟩
  ·exact cO
  ·clear S;(have eP:i<acc.length:=(by omega));rw [bt,←agb (by omega) b0];(first|rfl|(simp [xZ,Int.add_assoc];done))
  ·clear S;omega
 refine S.bq 13 .nil [aa j] fun ac w β S=>?_
 have k1:aR acc k=j:=by clear S;(have e:i=a.length:=(by omega));subst e;rw [bt,List.drop_length,List.append_nil,b0];exact Se k (by omega) _ (by omega) id
 have hR:k<=j/\j<=k+16*((aS.aW a:Nat):Int):=by clear S;skip;constructor<;>omega
 exact rr S k1 hR.1 hR.2 (by show [R _ _]=[R _ _];rw [gD,a9]) aD hs
theorem Pz (w0:World) (a:List Bool) (pa:aC Bool) (F:au) (ay:GT.own b7 F w0 a pa) (eM:∀b,F b->b<w0.heap.size) (k:Int) (ft:0<=k) (gP:k+16*(aS.aW a:Int)<=4611686018427387904):Calls Tryz.prog 19 [R a.length pa.1,aa k].toArray w0 (n6 aR F w0 pa a k):=by
 refine Calls.run F Tryz.func19 ?_
 intro ac β S
 have ig:ad w0 F w0 (fc w0.heap.size) F a pa:=⟨ay,eM,fun b hb=> .inr hb⟩
 have ed:=VN a
 have fy:a.length<=4194304:=g1.le ay
 refine S.go 12 .nil fun ac w β S=>?_
 refine dc (fun a5 ac w=>∃(i:Nat) (acc:List Bool) (j:Int) (ae:_) (br:_) (u:_) (N:_) (β:_),a5=a.length-i/\(i<=a.length)/\(acc=od i k++a.drop i)/\(j=k+1*(i:Int))/\aj Tryz.prog Tryz.f19.ntmps w0 F u N β ⟨[(0,.v (R a.length ae.1)),(1,.v (aa j)),(5,.v (aa (i:Int)))],[]⟩ ac w/\ad w0 F u N br acc ae/\ae.1=pa.1/\(∀b,br b->F b)) _ ⟨0,a,k,pa,F,_,_,_,rfl,cv,(by simp [od]),(by simp),S.z,ig,rfl,(fun _ h=>h)⟩ ?_
 clear S ig
 rintro f4 a5 lS ac w ⟨i,acc,j,ae,br,u,N,β,rfl,hi,bt,b0,S,aD,a9,hs⟩
 refine S.rs fun S=>?_
 have gD:acc.length=a.length:=by rw [bt];simp [od];omega
 refine S.aI 9 .nil (decide ((i:Int)<(a.length:Int))) (fun ac w β cR gC S=>?_) (fun ac w β cR gC S=>?_)
 ·refine S.go 13 (.cons (oU (x:=j) (y:=3) (by decide)) (.cons (eI aD.ak (l:=a.length) (k:=i) (i:=(i:Int)) (by rw [bt];simp [od];omega) rfl (by omega) Tryz.underlying39 (by kernel_rfl)) .nil)) fun ac w β S=>S.fM (α:=Bool) aD (t:=4) (k:=i) (j:=0) (off:=ae.1.off+i*1) (v:=B ((Int.tmod j 3)==0)) (y:=((Int.tmod j 3)==0)) (q:=()) (fun _ _ _=>⟨ab,trivial,fun _ h=>False.elim h⟩) fun w N bU fY S up bP d11 M7 K7=>?_
  have M_:∀b,bU b->F b:=fun b h=>(M7 b h).elim (hs b) (fun h=>False.elim h)
  clear up d11 aD K7
  have afz:(acc.set i ((Int.tmod j 3)==0)).length=acc.length:=List.length_set
  refine S.ge 14 (.cons (cg j 1) (.cons (cg (i:Int) 1) .nil)) f4 fun ac w β S=>lS.of (a.length-(i+1)) _ _ (by omega) ⟨i+1,(acc.set i ((Int.tmod j 3)==0)),(j+1),(ae.1,fY),bU,_,_,_,rfl,?_,?_,?_,S.z,bP,a9,M_⟩
  ·exact cO
  ·clear S;(have eP:i<acc.length:=(by omega));rw [bt,←af8 (by omega) b0];(first|rfl|(simp [xV,Int.add_assoc];done))
  ·clear S;omega
 refine S.bq 13 .nil [aa j] fun ac w β S=>?_
 have k1:aR acc k=j:=by clear S;(have e:i=a.length:=(by omega));subst e;rw [bt,List.drop_length,List.append_nil,b0];exact Sa k (by omega) _ (by omega) id
 have hR:k<=j/\j<=k+16*((aS.aW a:Nat):Int):=by clear S;skip;constructor<;>omega
 exact rr S k1 hR.1 hR.2 (by show [R _ _]=[R _ _];rw [gD,a9]) aD hs
theorem YY (w0:World) (a:List c_) (pa:aC c_) (F:au) (ay:GT.own b7 F w0 a pa) (eM:∀b,F b->b<w0.heap.size) (k:Int) (ft:0<=k) (gP:k+16*(aS.aW a:Int)<=4611686018427387904):Calls Tryz.prog 261 [R a.length pa.1,aa k].toArray w0 (n6 aR F w0 pa a k):=by
 refine Calls.run F Tryz.func261 ?_
 intro ac β S
 have ig:ad w0 F w0 (fc w0.heap.size) F a pa:=⟨ay,eM,fun b hb=> .inr hb⟩
 have ed:=VQ a
 have fy:a.length<=4194304:=g1.le ay
 refine S.go 12 .nil fun ac w β S=>?_
 refine dc (fun a5 ac w=>∃(i:Nat) (acc:List c_) (j:Int) (ae:_) (br:_) (u:_) (N:_) (β:_),a5=a.length-i/\(i<=a.length)/\(acc=nE i k++a.drop i)/\(j=k+2*(i:Int))/\aj Tryz.prog Tryz.f261.ntmps w0 F u N β ⟨[(0,.v (R a.length ae.1)),(1,.v (aa j)),(5,.v (aa (i:Int)))],[]⟩ ac w/\ad w0 F u N br acc ae/\ae.1=pa.1/\(∀b,br b->F b)) _ ⟨0,a,k,pa,F,_,_,_,rfl,cv,(by simp [nE]),(by simp),S.z,ig,rfl,(fun _ h=>h)⟩ ?_
 clear S ig
 rintro f4 a5 lS ac w ⟨i,acc,j,ae,br,u,N,β,rfl,hi,bt,b0,S,aD,a9,hs⟩
 refine S.rs fun S=>?_
 have gD:acc.length=a.length:=by rw [bt];simp [nE];omega
 refine S.aI 9 .nil (decide ((i:Int)<(a.length:Int))) (fun ac w β cR gC S=>?_) (fun ac w β cR gC S=>?_)
 ·have ky:iY (el acc i):=(af.el aD.ak i (by omega))
  refine S.go 12 (.cons (eI aD.ak (l:=a.length) (k:=i) (i:=(i:Int)) (by rw [bt];simp [nE];omega) rfl (by omega) Tryz.underlying63 (by kernel_rfl)) .nil) fun ac w β S=>S.fM (α:=c_) aD (t:=3) (k:=i) (j:=0) (off:=ae.1.off+i*2) (v:=aa j) (y:=(⟨j,(el acc i).x⟩:c_)) (q:=()) (fun _ _ _=>⟨ab,(show iY (⟨j,(el acc i).x⟩:c_) from⟨(show a_ j from⟨by omega,by omega⟩),(iY.x (d:=(el acc i)) ky)⟩),fun _ h=>False.elim h⟩) fun w N dT yK S up bE d12 B5 vY=>?_
  have B6:∀b,dT b->F b:=fun b h=>(B5 b h).elim (hs b) (fun h=>False.elim h)
  clear up d12 aD vY
  have Bb:(acc.set i (⟨j,(el acc i).x⟩:c_)).length=acc.length:=List.length_set
  refine S.go 16 (.cons (cg j 1) (.cons (eI bE.ak (l:=a.length) (k:=i) (i:=(i:Int)) (by rw [List.length_set];exact(by rw [bt];simp [nE];omega)) rfl (by omega) Tryz.underlying63 (by kernel_rfl)) .nil)) fun ac w β S=>S.zr bE (α:=c_) (t:=3) (v:=aa (j+1)) (k:=i) (j:=1) (off:=ae.1.off+i*2+1) (y:=(⟨j,(j+1)⟩:c_)) (q:=()) (Fy:=ab) (by omega) (Nat.le_of_ble_eq_true (by kernel_rfl)) (fun _ _ _=>⟨ab,(show iY (⟨j,(j+1)⟩:c_) from⟨(show a_ j from⟨by omega,by omega⟩),(show a_ (j+1) from⟨by omega,by omega⟩)⟩),fun _ h=>False.elim h⟩) (fun b _ h=>False.elim h) (fun b h=>False.elim h) (fun b h=>False.elim h) ?_ (hc:=(by rw [dS (show i<acc.length by omega)];kernel_rfl))
  clear S;intro w N kn dg S up eo d20 sA oC
  have yW:∀b,kn b->F b:=fun b h=>(sA b h).elim (B6 b) (fun h=>False.elim h)
  clear up d20 bE oC
  rw [List.set_set] at eo
  have KN:(acc.set i (⟨j,(j+1)⟩:c_)).length=acc.length:=List.length_set
  refine S.ge 14 (.cons (cg (j+1) 1) (.cons (cg (i:Int) 1) .nil)) f4 fun ac w β S=>lS.of (a.length-(i+1)) _ _ (by omega) ⟨i+1,(acc.set i (⟨j,(j+1)⟩:c_)),((j+1)+1),(ae.1,dg),kn,_,_,_,rfl,?_,?_,?_,S.z,eo,a9,yW⟩
  ·exact cO
  ·clear S;(have eP:i<acc.length:=(by omega));rw [bt,←af_ (by omega) b0];(first|rfl|(simp [xX,Int.add_assoc];done))
  ·clear S;omega
 refine S.bq 13 .nil [aa j] fun ac w β S=>?_
 have k1:aR acc k=j:=by clear S;(have e:i=a.length:=(by omega));subst e;rw [bt,List.drop_length,List.append_nil,b0];exact Sc k (by omega) _ (by omega) id
 have hR:k<=j/\j<=k+16*((aS.aW a:Nat):Int):=by clear S;skip;constructor<;>omega
 exact rr S k1 hR.1 hR.2 (by show [R _ _]=[R _ _];rw [gD,a9]) aD hs
theorem YX (w0:World) (a:List ax) (pa:aC ax) (F:au) (ay:GT.own b7 F w0 a pa) (eM:∀b,F b->b<w0.heap.size) (k:Int) (ft:0<=k) (gP:k+16*(aS.aW a:Int)<=4611686018427387904):Calls Tryz.prog 157 [R a.length pa.1,aa k].toArray w0 (n6 aR F w0 pa a k):=by
 refine Calls.run F Tryz.func157 ?_
 intro ac β S
 have ig:ad w0 F w0 (fc w0.heap.size) F a pa:=⟨ay,eM,fun b hb=> .inr hb⟩
 have ed:=ns a
 have fy:a.length<=4194304:=g1.le ay
 refine S.go 12 .nil fun ac w β S=>?_
 refine dc (fun a5 ac w=>∃(i:Nat) (acc:List ax) (j:Int) (ae:_) (br:_) (u:_) (N:_) (β:_),a5=a.length-i/\(i<=a.length)/\(acc.length=a.length)/\(∀f,hC (acc.take i) k f=f j)/\(acc.drop i=a.drop i)/\(k<=j)/\(j<=k+16*((i:Int)+(g9 (a.take i):Nat)))/\aj Tryz.prog Tryz.f157.ntmps w0 F u N β ⟨[(0,.v (R a.length ae.1)),(1,.v (aa j)),(5,.v (aa (i:Int)))],[]⟩ ac w/\ad w0 F u N br acc ae/\ae.1=pa.1/\(∀b,br b->F b)) _ ⟨0,a,k,pa,F,_,_,_,rfl,cv,(by rfl),(by intro f;rfl),(by rfl),cv,(by simp [tX]),S.z,ig,rfl,(fun _ h=>h)⟩ ?_
 clear S ig
 rintro f4 a5 lS ac w ⟨i,acc,j,ae,br,u,N,β,rfl,hi,hl,mX,mj,Jq,Jr,S,aD,a9,hs⟩
 refine S.rs fun S=>?_
 have h_:=Dv mj
 have qX:=hK a i
 refine S.aI 9 .nil (decide ((i:Int)<(a.length:Int))) (fun ac w β cR gC S=>?_) (fun ac w β cR gC S=>?_)
 ·obtain⟨eX,bE,wv,pQ⟩:=abx aD (k:=i) (show i<acc.length by omega)
  have NJ:=j0 (xs:=a) (k:=i) (by omega)
  have NK:=hK a (i+1)
  have Wc:=y7 (el a i)
  have sY:(el acc i).prog=(el a i).prog:=by simp only [h_]
  refine S.go 13 (.cons (eI aD.ak (l:=a.length) (k:=i) (i:=(i:Int)) (by omega) rfl (by omega) Tryz.underlying71 (by kernel_rfl)) (.cons (cz aD.ak 63 i 0 (R (el acc i).prog.length (ae.2 i).prog.1)) .nil)) fun ac w β S=>S.kV (hd:=aR) (d:=18) bE (YY w (el acc i).prog (ae.2 i).prog eX (S.fX bE) (fun b hb=>(S.sep b (bE.sub b hb)).1) j (by omega) (by rw [sY];omega)) fun ac w N cG t_ m7 S up iD sS CB CY zz=>?_
  rw [sY] at zz
  obtain⟨tK,dC⟩:=pQ _ _ _ _ up iD sS
  clear up aD bE wv pQ iD sS
  obtain⟨fv,kx⟩:∃z,z=acc.set i ({el acc i with prog:=t_}):=⟨_,rfl⟩
  rw [←kx] at dC
  have TI:fv.length=acc.length:=by rw [kx];exact List.length_set
  have nA:el fv i={el acc i with prog:=t_}:=by rw [kx];exact dS (show i<acc.length by omega)
  have t30:fv.take i=acc.take i:=by rw [kx];exact iJ
  have d31:fv.drop (i+1)=acc.drop (i+1):=by rw [kx];exact im
  clear kx
  refine S.go 10 (.cons (eI dC.ak (l:=a.length) (k:=i) (i:=(i:Int)) (by omega) rfl (by omega) Tryz.underlying71 (by kernel_rfl)) .nil) fun ac w β S=>S.fM (α:=ax) dC (t:=3) (k:=i) (j:=1) (off:=ae.1.off+i*15+1) (v:=aa m7) (y:=({el fv i with acc:=m7}:ax)) (q:=((ae.1,tK).2 i)) (fun G fk _=>⟨G,aij fk (⟨by omega,by omega⟩),fun _ h=> .inl h⟩) fun w N qy l7 S up fV d35 Nh Lb=>?_
  have Cg:∀b,qy b->F b:=fun b h=>(Nh b h).elim (hs b) (fun h=>False.elim h)
  clear up d35 dC Lb
  obtain⟨o0,xw⟩:∃z,z=fv.set i ({el fv i with acc:=m7}):=⟨_,rfl⟩
  rw [←xw] at fV
  have apa:o0.length=fv.length:=by rw [xw];exact List.length_set
  have Ds:el o0 i={el fv i with acc:=m7}:=by rw [xw];exact dS (show i<fv.length by omega)
  have t43:o0.take i=fv.take i:=by rw [xw];exact iJ
  have d44:o0.drop (i+1)=fv.drop (i+1):=by rw [xw];exact im
  clear xw
  refine S.go 16 (.cons (cg m7 1) (.cons (eI fV.ak (l:=a.length) (k:=i) (i:=(i:Int)) (by omega) rfl (by omega) Tryz.underlying71 (by kernel_rfl)) .nil)) fun ac w β S=>S.fM (α:=ax) fV (t:=3) (k:=i) (j:=2) (off:=ae.1.off+i*15+2) (v:=aa (m7+1)) (y:=({el o0 i with aw:=(m7+1)}:ax)) (q:=((ae.1,l7).2 i)) (fun G fk _=>⟨G,ail fk (⟨by omega,by omega⟩),fun _ h=> .inl h⟩) fun w N N5 tO S up ey d48 ajE T6=>?_
  have ajG:∀b,N5 b->F b:=fun b h=>(ajE b h).elim (Cg b) (fun h=>False.elim h)
  clear up d48 fV T6
  obtain⟨mL,nB⟩:∃z,z=o0.set i ({el o0 i with aw:=(m7+1)}):=⟨_,rfl⟩
  rw [←nB] at ey
  have apj:mL.length=o0.length:=by rw [nB];exact List.length_set
  have Dt:el mL i={el o0 i with aw:=(m7+1)}:=by rw [nB];exact dS (show i<o0.length by omega)
  have t56:mL.take i=o0.take i:=by rw [nB];exact iJ
  have d57:mL.drop (i+1)=o0.drop (i+1):=by rw [nB];exact im
  clear nB
  obtain⟨kr,eY,Nl,OF⟩:=abz ey (k:=i) (show i<mL.length by omega)
  have akZ:=j0 (xs:=a) (k:=i) (by omega)
  have aqx:=hK a (i+1)
  have aqy:=y7 (el a i)
  have Du:(el mL i).written=(el a i).written:=by simp only [Dt,Ds,nA,h_]
  refine S.go 17 (.cons (cg (m7+1) 1) (.cons (eI ey.ak (l:=a.length) (k:=i) (i:=(i:Int)) (by omega) rfl (by omega) Tryz.underlying71 (by kernel_rfl)) (.cons (cz ey.ak 64 i 3 (R (el mL i).written.length ((ae.1,tO).2 i).written.1)) .nil))) fun ac w β S=>S.kV (hd:=aR) (d:=39) eY (Dc w (el mL i).written ((ae.1,tO).2 i).written kr (S.fX eY) (fun b hb=>(S.sep b (eY.sub b hb)).1) ((m7+1)+1) (by omega) (by rw [Du];omega)) fun ac w N yQ V_ afp S up jY OW akG ame OG=>?_
  rw [Du] at OG
  obtain⟨U2,nS⟩:=OF _ _ _ _ up jY OW
  clear up ey eY Nl OF jY OW
  obtain⟨mN,pZ⟩:∃z,z=mL.set i ({el mL i with written:=V_}):=⟨_,rfl⟩
  rw [←pZ] at nS
  have afV:mN.length=mL.length:=by rw [pZ];exact List.length_set
  have HY:el mN i={el mL i with written:=V_}:=by rw [pZ];exact dS (show i<mL.length by omega)
  have t80:mN.take i=mL.take i:=by rw [pZ];exact iJ
  have d81:mN.drop (i+1)=mL.drop (i+1):=by rw [pZ];exact im
  clear pZ
  obtain⟨uk,oH,Nn,OI⟩:=abw nS (k:=i) (show i<mN.length by omega)
  have ak0:=j0 (xs:=a) (k:=i) (by omega)
  have aqC:=hK a (i+1)
  have aqD:=y7 (el a i)
  have Qy:(el mN i).live=(el a i).live:=by simp only [HY,Dt,Ds,nA,h_]
  refine S.go 11 (.cons (eI nS.ak (l:=a.length) (k:=i) (i:=(i:Int)) (by omega) rfl (by omega) Tryz.underlying71 (by kernel_rfl)) (.cons (cz nS.ak 64 i 4 (R (el mN i).live.length ((ae.1,U2).2 i).live.1)) .nil)) fun ac w β S=>S.kV (hd:=aR) (d:=46) oH (Dc w (el mN i).live ((ae.1,U2).2 i).live uk (S.fX oH) (fun b hb=>(S.sep b (oH.sub b hb)).1) afp (by omega) (by rw [Qy];omega)) fun ac w N B1 Wb ek S up gi OY akI amj XK=>?_
  rw [Qy] at XK
  obtain⟨aiv,my⟩:=OI _ _ _ _ up gi OY
  clear up nS oH Nn OI gi OY
  obtain⟨jR,qI⟩:∃z,z=mN.set i ({el mN i with live:=Wb}):=⟨_,rfl⟩
  rw [←qI] at my
  have aoB:jR.length=mN.length:=by rw [qI];exact List.length_set
  have Qh:el jR i={el mN i with live:=Wb}:=by rw [qI];exact dS (show i<mN.length by omega)
  have t104:jR.take i=mN.take i:=by rw [qI];exact iJ
  have d105:jR.drop (i+1)=mN.drop (i+1):=by rw [qI];exact im
  clear qI
  refine S.go 11 (.cons (eI my.ak (l:=a.length) (k:=i) (i:=(i:Int)) (by omega) rfl (by omega) Tryz.underlying71 (by kernel_rfl)) .nil) fun ac w β S=>S.fM (α:=ax) my (t:=3) (k:=i) (j:=5) (off:=ae.1.off+i*15+5) (v:=aa ek) (y:=({el jR i with aN:=(⟨ek,(el jR i).aN.post,(el jR i).aN.eV⟩:fo)}:ax)) (q:=((ae.1,aiv).2 i)) (fun G fk _=>⟨G,Ma fk (show hr (⟨ek,(el jR i).aN.post,(el jR i).aN.eV⟩:fo) from⟨(show a_ ek from⟨by omega,by omega⟩),(hr.post (d:=(el jR i).aN) (az.aN (d:=(el jR i)) (af.el my.ak i (by omega))))⟩),fun _ h=> .inl h⟩) fun w N ij aiB S up q5 d109 ai6 agj=>?_
  have ai7:∀b,ij b->F b:=fun b h=>(ai6 b h).elim (ajG b) (fun h=>False.elim h)
  clear up d109 my agj
  obtain⟨jS,xg⟩:∃z,z=jR.set i ({el jR i with aN:=(⟨ek,(el jR i).aN.post,(el jR i).aN.eV⟩:fo)}):=⟨_,rfl⟩
  rw [←xg] at q5
  have aoE:jS.length=jR.length:=by rw [xg];exact List.length_set
  have Qj:el jS i={el jR i with aN:=(⟨ek,(el jR i).aN.post,(el jR i).aN.eV⟩:fo)}:=by rw [xg];exact dS (show i<jR.length by omega)
  have t117:jS.take i=jR.take i:=by rw [xg];exact iJ
  have d118:jS.drop (i+1)=jR.drop (i+1):=by rw [xg];exact im
  clear xg
  refine S.go 17 (.cons (cg ek 1) (.cons (eI q5.ak (l:=a.length) (k:=i) (i:=(i:Int)) (by omega) rfl (by omega) Tryz.underlying71 (by kernel_rfl)) .nil)) fun ac w β S=>S.fM (α:=ax) q5 (t:=3) (k:=i) (j:=6) (off:=ae.1.off+i*15+6) (v:=aa (ek+1)) (y:=({el jS i with aN:=(⟨(el jS i).aN.aX,(ek+1),(el jS i).aN.eV⟩:fo)}:ax)) (q:=((ae.1,aiB).2 i)) (fun G fk _=>⟨G,Ma fk (show hr (⟨(el jS i).aN.aX,(ek+1),(el jS i).aN.eV⟩:fo) from⟨(hr.aX (d:=(el jS i).aN) (az.aN (d:=(el jS i)) (af.el q5.ak i (by omega)))),(show a_ (ek+1) from⟨by omega,by omega⟩)⟩),fun _ h=> .inl h⟩) fun w N F_ aiD S up px d122 ai8 agk=>?_
  have tT:∀b,F_ b->F b:=fun b h=>(ai8 b h).elim (ai7 b) (fun h=>False.elim h)
  clear up d122 q5 agk
  obtain⟨jm,xi⟩:∃z,z=jS.set i ({el jS i with aN:=(⟨(el jS i).aN.aX,(ek+1),(el jS i).aN.eV⟩:fo)}):=⟨_,rfl⟩
  rw [←xi] at px
  have afw:jm.length=jS.length:=by rw [xi];exact List.length_set
  have Dr:el jm i={el jS i with aN:=(⟨(el jS i).aN.aX,(ek+1),(el jS i).aN.eV⟩:fo)}:=by rw [xi];exact dS (show i<jS.length by omega)
  have t130:jm.take i=jS.take i:=by rw [xi];exact iJ
  have d131:jm.drop (i+1)=jS.drop (i+1):=by rw [xi];exact im
  clear xi
  refine S.go 19 (.cons (cg (ek+1) 1) (.cons (oU (x:=((ek+1)+1)) (y:=3) (by decide)) (.cons (eI px.ak (l:=a.length) (k:=i) (i:=(i:Int)) (by omega) rfl (by omega) Tryz.underlying71 (by kernel_rfl)) .nil))) fun ac w β S=>S.fM (α:=ax) px (t:=4) (k:=i) (j:=7) (off:=ae.1.off+i*15+7) (v:=B ((Int.tmod ((ek+1)+1) 3)==0)) (y:=({el jm i with aN:=(⟨(el jm i).aN.aX,(el jm i).aN.post,((Int.tmod ((ek+1)+1) 3)==0)⟩:fo)}:ax)) (q:=((ae.1,aiD).2 i)) (fun G fk _=>⟨G,Ma fk (show hr (⟨(el jm i).aN.aX,(el jm i).aN.post,((Int.tmod ((ek+1)+1) 3)==0)⟩:fo) from⟨(hr.aX (d:=(el jm i).aN) (az.aN (d:=(el jm i)) (af.el px.ak i (by omega)))),(hr.post (d:=(el jm i).aN) (az.aN (d:=(el jm i)) (af.el px.ak i (by omega))))⟩),fun _ h=> .inl h⟩) fun w N NS aiF S up tA d135 ai_ agm=>?_
  have aja:∀b,NS b->F b:=fun b h=>(ai_ b h).elim (tT b) (fun h=>False.elim h)
  clear up d135 px agm
  obtain⟨oX,xk⟩:∃z,z=jm.set i ({el jm i with aN:=(⟨(el jm i).aN.aX,(el jm i).aN.post,((Int.tmod ((ek+1)+1) 3)==0)⟩:fo)}):=⟨_,rfl⟩
  rw [←xk] at tA
  have afx:oX.length=jm.length:=by rw [xk];exact List.length_set
  have HV:el oX i={el jm i with aN:=(⟨(el jm i).aN.aX,(el jm i).aN.post,((Int.tmod ((ek+1)+1) 3)==0)⟩:fo)}:=by rw [xk];exact dS (show i<jm.length by omega)
  have t143:oX.take i=jm.take i:=by rw [xk];exact iJ
  have d144:oX.drop (i+1)=jm.drop (i+1):=by rw [xk];exact im
  clear xk
  refine S.go 16 (.cons (cg ((ek+1)+1) 1) (.cons (eI tA.ak (l:=a.length) (k:=i) (i:=(i:Int)) (by omega) rfl (by omega) Tryz.underlying71 (by kernel_rfl)) .nil)) fun ac w β S=>S.fM (α:=ax) tA (t:=3) (k:=i) (j:=8) (off:=ae.1.off+i*15+8) (v:=aa (((ek+1)+1)+1)) (y:=({el oX i with aB:=(((ek+1)+1)+1)}:ax)) (q:=((ae.1,aiF).2 i)) (fun G fk _=>⟨G,aim fk (⟨by omega,by omega⟩),fun _ h=> .inl h⟩) fun w N CJ aiH S up gW d148 ajd ago=>?_
  have aje:∀b,CJ b->F b:=fun b h=>(ajd b h).elim (aja b) (fun h=>False.elim h)
  clear up d148 tA ago
  obtain⟨hW,xm⟩:∃z,z=oX.set i ({el oX i with aB:=(((ek+1)+1)+1)}):=⟨_,rfl⟩
  rw [←xm] at gW
  have aoL:hW.length=oX.length:=by rw [xm];exact List.length_set
  have Qp:el hW i={el oX i with aB:=(((ek+1)+1)+1)}:=by rw [xm];exact dS (show i<oX.length by omega)
  have t156:hW.take i=oX.take i:=by rw [xm];exact iJ
  have d157:hW.drop (i+1)=oX.drop (i+1):=by rw [xm];exact im
  clear xm
  refine S.go 17 (.cons (cg (((ek+1)+1)+1) 1) (.cons (eI gW.ak (l:=a.length) (k:=i) (i:=(i:Int)) (by omega) rfl (by omega) Tryz.underlying71 (by kernel_rfl)) .nil)) fun ac w β S=>S.fM (α:=ax) gW (t:=3) (k:=i) (j:=9) (off:=ae.1.off+i*15+9) (v:=aa ((((ek+1)+1)+1)+1)) (y:=({el hW i with exit:=(⟨((((ek+1)+1)+1)+1),(el hW i).exit.page,(el hW i).exit.wr,(el hW i).exit.n⟩:df)}:ax)) (q:=((ae.1,aiH).2 i)) (fun G fk _=>⟨G,Fm fk (show fF (⟨((((ek+1)+1)+1)+1),(el hW i).exit.page,(el hW i).exit.wr,(el hW i).exit.n⟩:df) from⟨(show a_ ((((ek+1)+1)+1)+1) from⟨by omega,by omega⟩),(fF.page (d:=(el hW i).exit) (az.exit (d:=(el hW i)) (af.el gW.ak i (by omega)))),(fF.n (d:=(el hW i).exit) (az.exit (d:=(el hW i)) (af.el gW.ak i (by omega))))⟩),fun _ h=> .inl h⟩) fun w N lD aiI S up oE d161 ajg K8=>?_
  have ajh:∀b,lD b->F b:=fun b h=>(ajg b h).elim (aje b) (fun h=>False.elim h)
  clear up d161 gW K8
  obtain⟨hX,xn⟩:∃z,z=hW.set i ({el hW i with exit:=(⟨((((ek+1)+1)+1)+1),(el hW i).exit.page,(el hW i).exit.wr,(el hW i).exit.n⟩:df)}):=⟨_,rfl⟩
  rw [←xn] at oE
  have aoN:hX.length=hW.length:=by rw [xn];exact List.length_set
  have Qr:el hX i={el hW i with exit:=(⟨((((ek+1)+1)+1)+1),(el hW i).exit.page,(el hW i).exit.wr,(el hW i).exit.n⟩:df)}:=by rw [xn];exact dS (show i<hW.length by omega)
  have t169:hX.take i=hW.take i:=by rw [xn];exact iJ
  have d170:hX.drop (i+1)=hW.drop (i+1):=by rw [xn];exact im
  clear xn
  refine S.go 17 (.cons (cg ((((ek+1)+1)+1)+1) 1) (.cons (eI oE.ak (l:=a.length) (k:=i) (i:=(i:Int)) (by omega) rfl (by omega) Tryz.underlying71 (by kernel_rfl)) .nil)) fun ac w β S=>S.fM (α:=ax) oE (t:=3) (k:=i) (j:=10) (off:=ae.1.off+i*15+10) (v:=aa (((((ek+1)+1)+1)+1)+1)) (y:=({el hX i with exit:=(⟨(el hX i).exit.kind,(((((ek+1)+1)+1)+1)+1),(el hX i).exit.wr,(el hX i).exit.n⟩:df)}:ax)) (q:=((ae.1,aiI).2 i)) (fun G fk _=>⟨G,Fm fk (show fF (⟨(el hX i).exit.kind,(((((ek+1)+1)+1)+1)+1),(el hX i).exit.wr,(el hX i).exit.n⟩:df) from⟨(fF.kind (d:=(el hX i).exit) (az.exit (d:=(el hX i)) (af.el oE.ak i (by omega)))),(show a_ (((((ek+1)+1)+1)+1)+1) from⟨by omega,by omega⟩),(fF.n (d:=(el hX i).exit) (az.exit (d:=(el hX i)) (af.el oE.ak i (by omega))))⟩),fun _ h=> .inl h⟩) fun w N Wl aiK S up py d174 ajj ags=>?_
  have ajk:∀b,Wl b->F b:=fun b h=>(ajj b h).elim (ajh b) (fun h=>False.elim h)
  clear up d174 oE ags
  obtain⟨ht,xp⟩:∃z,z=hX.set i ({el hX i with exit:=(⟨(el hX i).exit.kind,(((((ek+1)+1)+1)+1)+1),(el hX i).exit.wr,(el hX i).exit.n⟩:df)}):=⟨_,rfl⟩
  rw [←xp] at py
  have aoR:ht.length=hX.length:=by rw [xp];exact List.length_set
  have Qs:el ht i={el hX i with exit:=(⟨(el hX i).exit.kind,(((((ek+1)+1)+1)+1)+1),(el hX i).exit.wr,(el hX i).exit.n⟩:df)}:=by rw [xp];exact dS (show i<hX.length by omega)
  have t182:ht.take i=hX.take i:=by rw [xp];exact iJ
  have d183:ht.drop (i+1)=hX.drop (i+1):=by rw [xp];exact im
  clear xp
  refine S.go 19 (.cons (cg (((((ek+1)+1)+1)+1)+1) 1) (.cons (oU (x:=((((((ek+1)+1)+1)+1)+1)+1)) (y:=3) (by decide)) (.cons (eI py.ak (l:=a.length) (k:=i) (i:=(i:Int)) (by omega) rfl (by omega) Tryz.underlying71 (by kernel_rfl)) .nil))) fun ac w β S=>S.fM (α:=ax) py (t:=4) (k:=i) (j:=11) (off:=ae.1.off+i*15+11) (v:=B ((Int.tmod ((((((ek+1)+1)+1)+1)+1)+1) 3)==0)) (y:=({el ht i with exit:=(⟨(el ht i).exit.kind,(el ht i).exit.page,((Int.tmod ((((((ek+1)+1)+1)+1)+1)+1) 3)==0),(el ht i).exit.n⟩:df)}:ax)) (q:=((ae.1,aiK).2 i)) (fun G fk _=>⟨G,Fm fk (show fF (⟨(el ht i).exit.kind,(el ht i).exit.page,((Int.tmod ((((((ek+1)+1)+1)+1)+1)+1) 3)==0),(el ht i).exit.n⟩:df) from⟨(fF.kind (d:=(el ht i).exit) (az.exit (d:=(el ht i)) (af.el py.ak i (by omega)))),(fF.page (d:=(el ht i).exit) (az.exit (d:=(el ht i)) (af.el py.ak i (by omega)))),(fF.n (d:=(el ht i).exit) (az.exit (d:=(el ht i)) (af.el py.ak i (by omega))))⟩),fun _ h=> .inl h⟩) fun w N NY aiM S up yD d187 ajm agw=>?_
  have ajo:∀b,NY b->F b:=fun b h=>(ajm b h).elim (ajk b) (fun h=>False.elim h)
  clear up d187 py agw
  obtain⟨hZ,xr⟩:∃z,z=ht.set i ({el ht i with exit:=(⟨(el ht i).exit.kind,(el ht i).exit.page,((Int.tmod ((((((ek+1)+1)+1)+1)+1)+1) 3)==0),(el ht i).exit.n⟩:df)}):=⟨_,rfl⟩
  rw [←xr] at yD
  have aoT:hZ.length=ht.length:=by rw [xr];exact List.length_set
  have Qt:el hZ i={el ht i with exit:=(⟨(el ht i).exit.kind,(el ht i).exit.page,((Int.tmod ((((((ek+1)+1)+1)+1)+1)+1) 3)==0),(el ht i).exit.n⟩:df)}:=by rw [xr];exact dS (show i<ht.length by omega)
  have t195:hZ.take i=ht.take i:=by rw [xr];exact iJ
  have d196:hZ.drop (i+1)=ht.drop (i+1):=by rw [xr];exact im
  clear xr
  refine S.go 17 (.cons (cg ((((((ek+1)+1)+1)+1)+1)+1) 1) (.cons (eI yD.ak (l:=a.length) (k:=i) (i:=(i:Int)) (by omega) rfl (by omega) Tryz.underlying71 (by kernel_rfl)) .nil)) fun ac w β S=>S.fM (α:=ax) yD (t:=3) (k:=i) (j:=12) (off:=ae.1.off+i*15+12) (v:=aa (((((((ek+1)+1)+1)+1)+1)+1)+1)) (y:=({el hZ i with exit:=(⟨(el hZ i).exit.kind,(el hZ i).exit.page,(el hZ i).exit.wr,(((((((ek+1)+1)+1)+1)+1)+1)+1)⟩:df)}:ax)) (q:=((ae.1,aiM).2 i)) (fun G fk _=>⟨G,Fm fk (show fF (⟨(el hZ i).exit.kind,(el hZ i).exit.page,(el hZ i).exit.wr,(((((((ek+1)+1)+1)+1)+1)+1)+1)⟩:df) from⟨(fF.kind (d:=(el hZ i).exit) (az.exit (d:=(el hZ i)) (af.el yD.ak i (by omega)))),(fF.page (d:=(el hZ i).exit) (az.exit (d:=(el hZ i)) (af.el yD.ak i (by omega)))),(show a_ (((((((ek+1)+1)+1)+1)+1)+1)+1) from⟨by omega,by omega⟩)⟩),fun _ h=> .inl h⟩) fun w N Wo aiN S up kH d200 ajq agz=>?_
  have ajr:∀b,Wo b->F b:=fun b h=>(ajq b h).elim (ajo b) (fun h=>False.elim h)
  clear up d200 yD agz
  obtain⟨oZ,xt⟩:∃z,z=hZ.set i ({el hZ i with exit:=(⟨(el hZ i).exit.kind,(el hZ i).exit.page,(el hZ i).exit.wr,(((((((ek+1)+1)+1)+1)+1)+1)+1)⟩:df)}):=⟨_,rfl⟩
  rw [←xt] at kH
  have aoW:oZ.length=hZ.length:=by rw [xt];exact List.length_set
  have Qu:el oZ i={el hZ i with exit:=(⟨(el hZ i).exit.kind,(el hZ i).exit.page,(el hZ i).exit.wr,(((((((ek+1)+1)+1)+1)+1)+1)+1)⟩:df)}:=by rw [xt];exact dS (show i<hZ.length by omega)
  have t208:oZ.take i=hZ.take i:=by rw [xt];exact iJ
  have d209:oZ.drop (i+1)=hZ.drop (i+1):=by rw [xt];exact im
  clear xt
  refine S.go 18 (.cons (cg (((((((ek+1)+1)+1)+1)+1)+1)+1) 1) (.cons (oU (x:=((((((((ek+1)+1)+1)+1)+1)+1)+1)+1)) (y:=3) (by decide)) (.cons (eI kH.ak (l:=a.length) (k:=i) (i:=(i:Int)) (by omega) rfl (by omega) Tryz.underlying71 (by kernel_rfl)) .nil))) fun ac w β S=>S.fM (α:=ax) kH (t:=4) (k:=i) (j:=13) (off:=ae.1.off+i*15+13) (v:=B ((Int.tmod ((((((((ek+1)+1)+1)+1)+1)+1)+1)+1) 3)==0)) (y:=({el oZ i with halted:=((Int.tmod ((((((((ek+1)+1)+1)+1)+1)+1)+1)+1) 3)==0)}:ax)) (q:=((ae.1,aiN).2 i)) (fun G fk _=>⟨G,aik fk,fun _ h=> .inl h⟩) fun w N N0 Vk S up Bu d213 ajt agB=>?_
  have aju:∀b,N0 b->F b:=fun b h=>(ajt b h).elim (ajr b) (fun h=>False.elim h)
  clear up d213 kH agB
  obtain⟨mK,xu⟩:∃z,z=oZ.set i ({el oZ i with halted:=((Int.tmod ((((((((ek+1)+1)+1)+1)+1)+1)+1)+1) 3)==0)}):=⟨_,rfl⟩
  rw [←xu] at Bu
  have aoY:mK.length=oZ.length:=by rw [xu];exact List.length_set
  have Qv:el mK i={el oZ i with halted:=((Int.tmod ((((((((ek+1)+1)+1)+1)+1)+1)+1)+1) 3)==0)}:=by rw [xu];exact dS (show i<oZ.length by omega)
  have t221:mK.take i=oZ.take i:=by rw [xu];exact iJ
  have d222:mK.drop (i+1)=oZ.drop (i+1):=by rw [xu];exact im
  clear xu
  obtain⟨N1,yF,ajv,OA⟩:=aby Bu (k:=i) (show i<mK.length by omega)
  have aqs:=j0 (xs:=a) (k:=i) (by omega)
  have aqt:=hK a (i+1)
  have wN:=y7 (el a i)
  have Qw:(el mK i).seen=(el a i).seen:=by simp only [Qv,Qu,Qt,Qs,Qr,Qp,HV,Dr,Qj,Qh,HY,Dt,Ds,nA,h_]
  refine S.go 16 (.cons (cg ((((((((ek+1)+1)+1)+1)+1)+1)+1)+1) 1) (.cons (eI Bu.ak (l:=a.length) (k:=i) (i:=(i:Int)) (by omega) rfl (by omega) Tryz.underlying71 (by kernel_rfl)) (.cons (cz Bu.ak 38 i 14 (R (el mK i).seen.length ((ae.1,Vk).2 i).seen.1)) .nil))) fun ac w β S=>S.kV (hd:=aR) (d:=129) yF (He w (el mK i).seen ((ae.1,Vk).2 i).seen N1 (S.fX yF) (fun b hb=>(S.sep b (yF.sub b hb)).1) (((((((((ek+1)+1)+1)+1)+1)+1)+1)+1)+1) (by omega) (by rw [Qw];omega)) fun ac w N iU V8 afl S up Um OS akz al1 Xj=>?_
  rw [Qw] at Xj
  obtain⟨air,Uo⟩:=OA _ _ _ _ up Um OS
  clear up Bu yF ajv OA Um OS
  obtain⟨w6,xv⟩:∃z,z=mK.set i ({el mK i with seen:=V8}):=⟨_,rfl⟩
  rw [←xv] at Uo
  have ao1:w6.length=mK.length:=by rw [xv];exact List.length_set
  have aaM:el w6 i={el mK i with seen:=V8}:=by rw [xv];exact dS (show i<mK.length by omega)
  have t245:w6.take i=mK.take i:=by rw [xv];exact iJ
  have d246:w6.drop (i+1)=mK.drop (i+1):=by rw [xv];exact im
  clear xv
  refine S.ge 9 (.cons (cg (i:Int) 1) .nil) f4 fun ac w β S=>lS.of (a.length-(i+1)) _ _ (by omega) ⟨i+1,w6,afl,(ae.1,air),N0,_,_,_,rfl,?_,?_,?_,?_,?_,?_,S.z,Uo,a9,aju⟩
  ·exact cO
  ·clear S;omega
  ·clear S;refine EO (acc:=w6) (by omega) (by intro f;rw [t245,t221,t208,t195,t182,t169,t156,t143,t130,t117,t104,t80,t56,t43,t30];exact mX f) ?_;intro f;simp (disch:=first|omega|rfl) only [tj,DW,aaM,Qv,Qu,Qt,Qs,Qr,Qp,HV,Dr,Qj,Qh,HY,Dt,Ds,nA,CB,akG,akI,akz,AL,r4,r3]
  ·clear S;rw [d246,d222,d209,d196,d183,d170,d157,d144,d131,d118,d105,d81,d57,d44,d31];exact Dq mj
  ·clear S;omega
  ·clear S;omega
 refine S.bq 13 .nil [aa j] fun ac w β S=>?_
 have k1:aR acc k=j:=by clear S;exact EN (by omega) mX
 have hR:k<=j/\j<=k+16*((aS.aW a:Nat):Int):=by clear S;have vN:=hK a i;constructor<;>omega
 exact rr S k1 hR.1 hR.2 (by show [R _ _]=[R _ _];rw [hl,a9]) aD hs
theorem YZ (w0:World) (a:List bQ) (pa:aC bQ) (F:au) (ay:GT.own b7 F w0 a pa) (eM:∀b,F b->b<w0.heap.size) (k:Int) (ft:0<=k) (gP:k+16*(aS.aW a:Int)<=4611686018427387904):Calls Tryz.prog 158 [R a.length pa.1,aa k].toArray w0 (n6 aR F w0 pa a k):=by
 refine Calls.run F Tryz.func158 ?_
 intro ac β S
 have ig:ad w0 F w0 (fc w0.heap.size) F a pa:=⟨ay,eM,fun b hb=> .inr hb⟩
 have ed:=ns a
 have fy:a.length<=4194304:=g1.le ay
 refine S.go 12 .nil fun ac w β S=>?_
 refine dc (fun a5 ac w=>∃(i:Nat) (acc:List bQ) (j:Int) (ae:_) (br:_) (u:_) (N:_) (β:_),a5=a.length-i/\(i<=a.length)/\(acc.length=a.length)/\(∀f,hC (acc.take i) k f=f j)/\(acc.drop i=a.drop i)/\(k<=j)/\(j<=k+16*((i:Int)+(g9 (a.take i):Nat)))/\aj Tryz.prog Tryz.f158.ntmps w0 F u N β ⟨[(0,.v (R a.length ae.1)),(1,.v (aa j)),(5,.v (aa (i:Int)))],[]⟩ ac w/\ad w0 F u N br acc ae/\ae.1=pa.1/\(∀b,br b->F b)) _ ⟨0,a,k,pa,F,_,_,_,rfl,cv,(by rfl),(by intro f;rfl),(by rfl),cv,(by simp [tX]),S.z,ig,rfl,(fun _ h=>h)⟩ ?_
 clear S ig
 rintro f4 a5 lS ac w ⟨i,acc,j,ae,br,u,N,β,rfl,hi,hl,mX,mj,Jq,Jr,S,aD,a9,hs⟩
 refine S.rs fun S=>?_
 have h_:=Dv mj
 have qX:=hK a i
 refine S.aI 9 .nil (decide ((i:Int)<(a.length:Int))) (fun ac w β cR gC S=>?_) (fun ac w β cR gC S=>?_)
 ·obtain⟨eX,bE,wv,pQ⟩:=abA aD (k:=i) (show i<acc.length by omega)
  have NJ:=j0 (xs:=a) (k:=i) (by omega)
  have NK:=hK a (i+1)
  have Wc:=FW (el a i)
  have sY:(el acc i).known=(el a i).known:=by simp only [h_]
  refine S.go 13 (.cons (eI aD.ak (l:=a.length) (k:=i) (i:=(i:Int)) (by omega) rfl (by omega) Tryz.underlying72 (by kernel_rfl)) (.cons (cz aD.ak 39 i 0 (R (el acc i).known.length (ae.2 i).known.1)) .nil)) fun ac w β S=>S.kV (hd:=aR) (d:=18) bE (Pz w (el acc i).known (ae.2 i).known eX (S.fX bE) (fun b hb=>(S.sep b (bE.sub b hb)).1) j (by omega) (by rw [sY];omega)) fun ac w N cG t_ m7 S up iD sS CB CY zz=>?_
  rw [sY] at zz
  obtain⟨tK,dC⟩:=pQ _ _ _ _ up iD sS
  clear up aD bE wv pQ iD sS
  obtain⟨fv,kx⟩:∃z,z=acc.set i ({el acc i with known:=t_}):=⟨_,rfl⟩
  rw [←kx] at dC
  have TI:fv.length=acc.length:=by rw [kx];exact List.length_set
  have nA:el fv i={el acc i with known:=t_}:=by rw [kx];exact dS (show i<acc.length by omega)
  have t30:fv.take i=acc.take i:=by rw [kx];exact iJ
  have d31:fv.drop (i+1)=acc.drop (i+1):=by rw [kx];exact im
  clear kx
  obtain⟨mF,gw,Ng,zA⟩:=abB dC (k:=i) (show i<fv.length by omega)
  have akV:=j0 (xs:=a) (k:=i) (by omega)
  have akW:=hK a (i+1)
  have akX:=FW (el a i)
  have z2:(el fv i).aY=(el a i).aY:=by simp only [nA,h_]
  refine S.go 10 (.cons (eI dC.ak (l:=a.length) (k:=i) (i:=(i:Int)) (by omega) rfl (by omega) Tryz.underlying72 (by kernel_rfl)) (.cons (cz dC.ak 64 i 1 (R (el fv i).aY.length ((ae.1,tK).2 i).aY.1)) .nil)) fun ac w β S=>S.kV (hd:=aR) (d:=25) gw (Dc w (el fv i).aY ((ae.1,tK).2 i).aY mF (S.fX gw) (fun b hb=>(S.sep b (gw.sub b hb)).1) m7 (by omega) (by rw [z2];omega)) fun ac w N Fz CC KJ S up k2 zE ND Xz w_=>?_
  rw [z2] at w_
  obtain⟨Fq,hS⟩:=zA _ _ _ _ up k2 zE
  clear up dC gw Ng zA k2 zE
  obtain⟨jT,ob⟩:∃z,z=fv.set i ({el fv i with aY:=CC}):=⟨_,rfl⟩
  rw [←ob] at hS
  have afQ:jT.length=fv.length:=by rw [ob];exact List.length_set
  have nB:el jT i={el fv i with aY:=CC}:=by rw [ob];exact dS (show i<fv.length by omega)
  have t54:jT.take i=fv.take i:=by rw [ob];exact iJ
  have d55:jT.drop (i+1)=fv.drop (i+1):=by rw [ob];exact im
  clear ob
  refine S.ge 9 (.cons (cg (i:Int) 1) .nil) f4 fun ac w β S=>lS.of (a.length-(i+1)) _ _ (by omega) ⟨i+1,jT,KJ,(ae.1,Fq),br,_,_,_,rfl,?_,?_,?_,?_,?_,?_,S.z,hS,a9,hs⟩
  ·exact cO
  ·clear S;omega
  ·clear S;refine EO (acc:=jT) (by omega) (by intro f;rw [t54,t30];exact mX f) ?_;intro f;simp (disch:=first|omega|rfl) only [tj,DZ,nB,nA,CB,ND,AL,r4,r3]
  ·clear S;rw [d55,d31];exact Dq mj
  ·clear S;omega
  ·clear S;omega
 refine S.bq 13 .nil [aa j] fun ac w β S=>?_
 have k1:aR acc k=j:=by clear S;exact EN (by omega) mX
 have hR:k<=j/\j<=k+16*((aS.aW a:Nat):Int):=by clear S;have vN:=hK a i;constructor<;>omega
 exact rr S k1 hR.1 hR.2 (by show [R _ _]=[R _ _];rw [hl,a9]) aD hs
theorem Y0 (w0:World) (a:List aO) (pa:aC aO) (F:au) (ay:GT.own b7 F w0 a pa) (eM:∀b,F b->b<w0.heap.size) (k:Int) (ft:0<=k) (gP:k+16*(aS.aW a:Int)<=4611686018427387904):Calls Tryz.prog 61 [R a.length pa.1,aa k].toArray w0 (n6 aR F w0 pa a k):=by
 refine Calls.run F Tryz.func61 ?_
 intro ac β S
 have ig:ad w0 F w0 (fc w0.heap.size) F a pa:=⟨ay,eM,fun b hb=> .inr hb⟩
 have ed:=ns a
 have fy:a.length<=4194304:=g1.le ay
 refine S.go 12 .nil fun ac w β S=>?_
 refine dc (fun a5 ac w=>∃(i:Nat) (acc:List aO) (j:Int) (ae:_) (br:_) (u:_) (N:_) (β:_),a5=a.length-i/\(i<=a.length)/\(acc.length=a.length)/\(∀f,hC (acc.take i) k f=f j)/\(acc.drop i=a.drop i)/\(k<=j)/\(j<=k+16*((i:Int)+(g9 (a.take i):Nat)))/\aj Tryz.prog Tryz.f61.ntmps w0 F u N β ⟨[(0,.v (R a.length ae.1)),(1,.v (aa j)),(5,.v (aa (i:Int)))],[]⟩ ac w/\ad w0 F u N br acc ae/\ae.1=pa.1/\(∀b,br b->F b)) _ ⟨0,a,k,pa,F,_,_,_,rfl,cv,(by rfl),(by intro f;rfl),(by rfl),cv,(by simp [tX]),S.z,ig,rfl,(fun _ h=>h)⟩ ?_
 clear S ig
 rintro f4 a5 lS ac w ⟨i,acc,j,ae,br,u,N,β,rfl,hi,hl,mX,mj,Jq,Jr,S,aD,a9,hs⟩
 refine S.rs fun S=>?_
 have h_:=Dv mj
 have qX:=hK a i
 refine S.aI 9 .nil (decide ((i:Int)<(a.length:Int))) (fun ac w β cR gC S=>?_) (fun ac w β cR gC S=>?_)
 ·obtain⟨eX,bE,wv,pQ⟩:=abF aD (k:=i) (show i<acc.length by omega)
  have NJ:=j0 (xs:=a) (k:=i) (by omega)
  have NK:=hK a (i+1)
  have Wc:=tW (el a i)
  have sY:(el acc i).outer=(el a i).outer:=by simp only [h_]
  refine S.go 13 (.cons (eI aD.ak (l:=a.length) (k:=i) (i:=(i:Int)) (by omega) rfl (by omega) Tryz.underlying28 (by kernel_rfl)) (.cons (cz aD.ak 64 i 0 (R (el acc i).outer.length (ae.2 i).outer.1)) .nil)) fun ac w β S=>S.kV (hd:=aR) (d:=18) bE (Dc w (el acc i).outer (ae.2 i).outer eX (S.fX bE) (fun b hb=>(S.sep b (bE.sub b hb)).1) j (by omega) (by rw [sY];omega)) fun ac w N cG t_ m7 S up iD sS CB CY zz=>?_
  rw [sY] at zz
  obtain⟨tK,dC⟩:=pQ _ _ _ _ up iD sS
  clear up aD bE wv pQ iD sS
  obtain⟨fv,kx⟩:∃z,z=acc.set i ({el acc i with outer:=t_}):=⟨_,rfl⟩
  rw [←kx] at dC
  have TI:fv.length=acc.length:=by rw [kx];exact List.length_set
  have nA:el fv i={el acc i with outer:=t_}:=by rw [kx];exact dS (show i<acc.length by omega)
  have t30:fv.take i=acc.take i:=by rw [kx];exact iJ
  have d31:fv.drop (i+1)=acc.drop (i+1):=by rw [kx];exact im
  clear kx
  obtain⟨mF,gw,Ng,zA⟩:=abE dC (k:=i) (show i<fv.length by omega)
  have akV:=j0 (xs:=a) (k:=i) (by omega)
  have akW:=hK a (i+1)
  have akX:=tW (el a i)
  have z2:(el fv i).out=(el a i).out:=by simp only [nA,h_]
  refine S.go 11 (.cons (eI dC.ak (l:=a.length) (k:=i) (i:=(i:Int)) (by omega) rfl (by omega) Tryz.underlying28 (by kernel_rfl)) (.cons (cz dC.ak 22 i 1 (R (el fv i).out.length ((ae.1,tK).2 i).out.1)) .nil)) fun ac w β S=>S.kV (hd:=aR) (d:=25) gw (PC w (el fv i).out ((ae.1,tK).2 i).out mF (S.fX gw) (fun b hb=>(S.sep b (gw.sub b hb)).1) m7 (by omega) (by rw [z2];omega)) fun ac w N Fz CC KJ S up k2 zE ND Xz w_=>?_
  rw [z2] at w_
  obtain⟨Fq,hS⟩:=zA _ _ _ _ up k2 zE
  clear up dC gw Ng zA k2 zE
  obtain⟨jT,ob⟩:∃z,z=fv.set i ({el fv i with out:=CC}):=⟨_,rfl⟩
  rw [←ob] at hS
  have afQ:jT.length=fv.length:=by rw [ob];exact List.length_set
  have nB:el jT i={el fv i with out:=CC}:=by rw [ob];exact dS (show i<fv.length by omega)
  have t54:jT.take i=fv.take i:=by rw [ob];exact iJ
  have d55:jT.drop (i+1)=fv.drop (i+1):=by rw [ob];exact im
  clear ob
  obtain⟨j4,m_,ajI,OE⟩:=abC hS (k:=i) (show i<jT.length by omega)
  have aqv:=j0 (xs:=a) (k:=i) (by omega)
  have aqw:=hK a (i+1)
  have akZ:=tW (el a i)
  have Qx:(el jT i).aT=(el a i).aT:=by simp only [nB,nA,h_]
  refine S.go 11 (.cons (eI hS.ak (l:=a.length) (k:=i) (i:=(i:Int)) (by omega) rfl (by omega) Tryz.underlying28 (by kernel_rfl)) (.cons (cz hS.ak 39 i 2 (R (el jT i).aT.length ((ae.1,Fq).2 i).aT.1)) .nil)) fun ac w β S=>S.kV (hd:=aR) (d:=32) m_ (Pz w (el jT i).aT ((ae.1,Fq).2 i).aT j4 (S.fX m_) (fun b hb=>(S.sep b (m_.sub b hb)).1) KJ (by omega) (by rw [Qx];omega)) fun ac w N BZ V9 afo S up so OV akF amd XE=>?_
  rw [Qx] at XE
  obtain⟨U1,hH⟩:=OE _ _ _ _ up so OV
  clear up hS m_ ajI OE so OV
  obtain⟨mM,xy⟩:∃z,z=jT.set i ({el jT i with aT:=V9}):=⟨_,rfl⟩
  rw [←xy] at hH
  have afU:mM.length=jT.length:=by rw [xy];exact List.length_set
  have pZ:el mM i={el jT i with aT:=V9}:=by rw [xy];exact dS (show i<jT.length by omega)
  have t78:mM.take i=jT.take i:=by rw [xy];exact iJ
  have d79:mM.drop (i+1)=jT.drop (i+1):=by rw [xy];exact im
  clear xy
  obtain⟨zj,nT,Nm,OH⟩:=abD hH (k:=i) (show i<mM.length by omega)
  have aqA:=j0 (xs:=a) (k:=i) (by omega)
  have aqB:=hK a (i+1)
  have ak0:=tW (el a i)
  have HZ:(el mM i).U=(el a i).U:=by simp only [pZ,nB,nA,h_]
  refine S.go 11 (.cons (eI hH.ak (l:=a.length) (k:=i) (i:=(i:Int)) (by omega) rfl (by omega) Tryz.underlying28 (by kernel_rfl)) (.cons (cz hH.ak 71 i 3 (R (el mM i).U.length ((ae.1,U1).2 i).U.1)) .nil)) fun ac w β S=>S.kV (hd:=aR) (d:=39) nT (YX w (el mM i).U ((ae.1,U1).2 i).U zj (S.fX nT) (fun b hb=>(S.sep b (nT.sub b hb)).1) afo (by omega) (by rw [HZ];omega)) fun ac w N ki Wa afq S up l1 OX akH ami XJ=>?_
  rw [HZ] at XJ
  obtain⟨U5,BG⟩:=OH _ _ _ _ up l1 OX
  clear up hH nT Nm OH l1 OX
  obtain⟨mO,xz⟩:∃z,z=mM.set i ({el mM i with U:=Wa}):=⟨_,rfl⟩
  rw [←xz] at BG
  have aoA:mO.length=mM.length:=by rw [xz];exact List.length_set
  have qI:el mO i={el mM i with U:=Wa}:=by rw [xz];exact dS (show i<mM.length by omega)
  have t102:mO.take i=mM.take i:=by rw [xz];exact iJ
  have d103:mO.drop (i+1)=mM.drop (i+1):=by rw [xz];exact im
  clear xz
  obtain⟨iM,nP,ai5,Ox⟩:=abG BG (k:=i) (show i<mO.length by omega)
  have aqm:=j0 (xs:=a) (k:=i) (by omega)
  have aqn:=hK a (i+1)
  have aqo:=tW (el a i)
  have Qi:(el mO i).outs=(el a i).outs:=by simp only [qI,pZ,nB,nA,h_]
  refine S.go 11 (.cons (eI BG.ak (l:=a.length) (k:=i) (i:=(i:Int)) (by omega) rfl (by omega) Tryz.underlying28 (by kernel_rfl)) (.cons (cz BG.ak 38 i 4 (R (el mO i).outs.length ((ae.1,U5).2 i).outs.1)) .nil)) fun ac w β S=>S.kV (hd:=aR) (d:=46) nP (He w (el mO i).outs ((ae.1,U5).2 i).outs iM (S.fX nP) (fun b hb=>(S.sep b (nP.sub b hb)).1) afq (by omega) (by rw [Qi];omega)) fun ac w N Va V5 qh S up jI ON akw alR W9=>?_
  rw [Qi] at W9
  obtain⟨Fo,sk⟩:=Ox _ _ _ _ up jI ON
  clear up BG nP ai5 Ox jI ON
  obtain⟨oV,xh⟩:∃z,z=mO.set i ({el mO i with outs:=V5}):=⟨_,rfl⟩
  rw [←xh] at sk
  have aoF:oV.length=mO.length:=by rw [xh];exact List.length_set
  have Ql:el oV i={el mO i with outs:=V5}:=by rw [xh];exact dS (show i<mO.length by omega)
  have t126:oV.take i=mO.take i:=by rw [xh];exact iJ
  have d127:oV.drop (i+1)=mO.drop (i+1):=by rw [xh];exact im
  clear xh
  refine S.go 10 (.cons (eI sk.ak (l:=a.length) (k:=i) (i:=(i:Int)) (by omega) rfl (by omega) Tryz.underlying28 (by kernel_rfl)) .nil) fun ac w β S=>S.fM (α:=aO) sk (t:=3) (k:=i) (j:=5) (off:=ae.1.off+i*9+5) (v:=aa qh) (y:=({el oV i with aB:=qh}:aO)) (q:=((ae.1,Fo).2 i)) (fun G fk _=>⟨G,ain fk (⟨by omega,by omega⟩),fun _ h=> .inl h⟩) fun w N zd Fv S up v7 d131 M8 ER=>?_
  have M9:∀b,zd b->F b:=fun b h=>(M8 b h).elim (hs b) (fun h=>False.elim h)
  clear up d131 sk ER
  obtain⟨oW,xj⟩:∃z,z=oV.set i ({el oV i with aB:=qh}):=⟨_,rfl⟩
  rw [←xj] at v7
  have aoJ:oW.length=oV.length:=by rw [xj];exact List.length_set
  have Qm:el oW i={el oV i with aB:=qh}:=by rw [xj];exact dS (show i<oV.length by omega)
  have t139:oW.take i=oV.take i:=by rw [xj];exact iJ
  have d140:oW.drop (i+1)=oV.drop (i+1):=by rw [xj];exact im
  clear xj
  refine S.go 16 (.cons (cg qh 1) (.cons (eI v7.ak (l:=a.length) (k:=i) (i:=(i:Int)) (by omega) rfl (by omega) Tryz.underlying28 (by kernel_rfl)) .nil)) fun ac w β S=>S.fM (α:=aO) v7 (t:=3) (k:=i) (j:=6) (off:=ae.1.off+i*9+6) (v:=aa (qh+1)) (y:=({el oW i with aX:=(qh+1)}:aO)) (q:=((ae.1,Fv).2 i)) (fun G fk _=>⟨G,aio fk (⟨by omega,by omega⟩),fun _ h=> .inl h⟩) fun w N NU fl S up sm d144 ajb agn=>?_
  have ajc:∀b,NU b->F b:=fun b h=>(ajb b h).elim (M9 b) (fun h=>False.elim h)
  clear up d144 v7 agn
  obtain⟨mJ,xl⟩:∃z,z=oW.set i ({el oW i with aX:=(qh+1)}):=⟨_,rfl⟩
  rw [←xl] at sm
  have afA:mJ.length=oW.length:=by rw [xl];exact List.length_set
  have Qo:el mJ i={el oW i with aX:=(qh+1)}:=by rw [xl];exact dS (show i<oW.length by omega)
  have t152:mJ.take i=oW.take i:=by rw [xl];exact iJ
  have d153:mJ.drop (i+1)=oW.drop (i+1):=by rw [xl];exact im
  clear xl
  obtain⟨Wh,jb,Na,Oy⟩:=abH sm (k:=i) (show i<mJ.length by omega)
  have aqp:=j0 (xs:=a) (k:=i) (by omega)
  have aqq:=hK a (i+1)
  have aqr:=tW (el a i)
  have Qq:(el mJ i).tables=(el a i).tables:=by simp only [Qo,Qm,Ql,qI,pZ,nB,nA,h_]
  refine S.go 17 (.cons (cg (qh+1) 1) (.cons (eI sm.ak (l:=a.length) (k:=i) (i:=(i:Int)) (by omega) rfl (by omega) Tryz.underlying28 (by kernel_rfl)) (.cons (cz sm.ak 72 i 7 (R (el mJ i).tables.length ((ae.1,fl).2 i).tables.1)) .nil))) fun ac w β S=>S.kV (hd:=aR) (d:=67) jb (YZ w (el mJ i).tables ((ae.1,fl).2 i).tables Wh (S.fX jb) (fun b hb=>(S.sep b (jb.sub b hb)).1) ((qh+1)+1) (by omega) (by rw [Qq];omega)) fun ac w N apL V7 yA S up v8 OP akx alV Xf=>?_
  rw [Qq] at Xf
  obtain⟨aip,py⟩:=Oy _ _ _ _ up v8 OP
  clear up sm jb Na Oy v8 OP
  obtain⟨oY,xo⟩:∃z,z=mJ.set i ({el mJ i with tables:=V7}):=⟨_,rfl⟩
  rw [←xo] at py
  have aoP:oY.length=mJ.length:=by rw [xo];exact List.length_set
  have aaI:el oY i={el mJ i with tables:=V7}:=by rw [xo];exact dS (show i<mJ.length by omega)
  have t176:oY.take i=mJ.take i:=by rw [xo];exact iJ
  have d177:oY.drop (i+1)=mJ.drop (i+1):=by rw [xo];exact im
  clear xo
  refine S.go 10 (.cons (eI py.ak (l:=a.length) (k:=i) (i:=(i:Int)) (by omega) rfl (by omega) Tryz.underlying28 (by kernel_rfl)) .nil) fun ac w β S=>S.fM (α:=aO) py (t:=3) (k:=i) (j:=8) (off:=ae.1.off+i*9+8) (v:=aa yA) (y:=({el oY i with owned:=yA}:aO)) (q:=((ae.1,aip).2 i)) (fun G fk _=>⟨G,Mb fk (⟨by omega,by omega⟩),fun _ h=> .inl h⟩) fun w N NX aiL S up Uj d181 ajl agu=>?_
  have Nc:∀b,NX b->F b:=fun b h=>(ajl b h).elim (ajc b) (fun h=>False.elim h)
  clear up d181 py agu
  obtain⟨w5,xq⟩:∃z,z=oY.set i ({el oY i with owned:=yA}):=⟨_,rfl⟩
  rw [←xq] at Uj
  have aoS:w5.length=oY.length:=by rw [xq];exact List.length_set
  have aaJ:el w5 i={el oY i with owned:=yA}:=by rw [xq];exact dS (show i<oY.length by omega)
  have t189:w5.take i=oY.take i:=by rw [xq];exact iJ
  have d190:w5.drop (i+1)=oY.drop (i+1):=by rw [xq];exact im
  clear xq
  refine S.ge 14 (.cons (cg yA 1) (.cons (cg (i:Int) 1) .nil)) f4 fun ac w β S=>lS.of (a.length-(i+1)) _ _ (by omega) ⟨i+1,w5,(yA+1),(ae.1,aiL),NX,_,_,_,rfl,?_,?_,?_,?_,?_,?_,S.z,Uj,a9,Nc⟩
  ·exact cO
  ·clear S;omega
  ·clear S;refine EO (acc:=w5) (by omega) (by intro f;rw [t189,t176,t152,t139,t126,t102,t78,t54,t30];exact mX f) ?_;intro f;simp (disch:=first|omega|rfl) only [tj,D0,aaJ,aaI,Qo,Qm,Ql,qI,pZ,nB,nA,CB,ND,akF,akH,akw,akx,AL,r4,r3]
  ·clear S;rw [d190,d177,d153,d140,d127,d103,d79,d55,d31];exact Dq mj
  ·clear S;omega
  ·clear S;omega
 refine S.bq 13 .nil [aa j] fun ac w β S=>?_
 have k1:aR acc k=j:=by clear S;exact EN (by omega) mX
 have hR:k<=j/\j<=k+16*((aS.aW a:Nat):Int):=by clear S;have vN:=hK a i;constructor<;>omega
 exact rr S k1 hR.1 hR.2 (by show [R _ _]=[R _ _];rw [hl,a9]) aD hs
theorem PA (w0:World) (a:List aG) (pa:aC aG) (F:au) (ay:GT.own b7 F w0 a pa) (eM:∀b,F b->b<w0.heap.size) (k:Int) (ft:0<=k) (gP:k+16*(aS.aW a:Int)<=4611686018427387904):Calls Tryz.prog 62 [R a.length pa.1,aa k].toArray w0 (n6 aR F w0 pa a k):=by
 refine Calls.run F Tryz.func62 ?_
 intro ac β S
 have ig:ad w0 F w0 (fc w0.heap.size) F a pa:=⟨ay,eM,fun b hb=> .inr hb⟩
 have ed:=VP a
 have fy:a.length<=4194304:=g1.le ay
 refine S.go 12 .nil fun ac w β S=>?_
 refine dc (fun a5 ac w=>∃(i:Nat) (acc:List aG) (j:Int) (ae:_) (br:_) (u:_) (N:_) (β:_),a5=a.length-i/\(i<=a.length)/\(acc=mc i k++a.drop i)/\(j=k+4*(i:Int))/\aj Tryz.prog Tryz.f62.ntmps w0 F u N β ⟨[(0,.v (R a.length ae.1)),(1,.v (aa j)),(5,.v (aa (i:Int)))],[]⟩ ac w/\ad w0 F u N br acc ae/\ae.1=pa.1/\(∀b,br b->F b)) _ ⟨0,a,k,pa,F,_,_,_,rfl,cv,(by simp [mc]),(by simp),S.z,ig,rfl,(fun _ h=>h)⟩ ?_
 clear S ig
 rintro f4 a5 lS ac w ⟨i,acc,j,ae,br,u,N,β,rfl,hi,bt,b0,S,aD,a9,hs⟩
 refine S.rs fun S=>?_
 have gD:acc.length=a.length:=by rw [bt];simp [mc];omega
 refine S.aI 9 .nil (decide ((i:Int)<(a.length:Int))) (fun ac w β cR gC S=>?_) (fun ac w β cR gC S=>?_)
 ·have ky:e7 (el acc i):=(af.el aD.ak i (by omega))
  refine S.go 12 (.cons (eI aD.ak (l:=a.length) (k:=i) (i:=(i:Int)) (by rw [bt];simp [mc];omega) rfl (by omega) Tryz.underlying29 (by kernel_rfl)) .nil) fun ac w β S=>S.fM (α:=aG) aD (t:=3) (k:=i) (j:=0) (off:=ae.1.off+i*4) (v:=aa j) (y:=(⟨j,(el acc i).page,(el acc i).host,(el acc i).bd⟩:aG)) (q:=()) (fun _ _ _=>⟨ab,(show e7 (⟨j,(el acc i).page,(el acc i).host,(el acc i).bd⟩:aG) from⟨(show a_ j from⟨by omega,by omega⟩),(e7.page (d:=(el acc i)) ky),(e7.host (d:=(el acc i)) ky),(e7.bd (d:=(el acc i)) ky)⟩),fun _ h=>False.elim h⟩) fun w N dT yK S up bE d12 B5 vY=>?_
  have B6:∀b,dT b->F b:=fun b h=>(B5 b h).elim (hs b) (fun h=>False.elim h)
  clear up d12 aD vY
  have Bb:(acc.set i (⟨j,(el acc i).page,(el acc i).host,(el acc i).bd⟩:aG)).length=acc.length:=List.length_set
  refine S.go 16 (.cons (cg j 1) (.cons (eI bE.ak (l:=a.length) (k:=i) (i:=(i:Int)) (by rw [List.length_set];exact(by rw [bt];simp [mc];omega)) rfl (by omega) Tryz.underlying29 (by kernel_rfl)) .nil)) fun ac w β S=>S.zr bE (α:=aG) (t:=3) (v:=aa (j+1)) (k:=i) (j:=1) (off:=ae.1.off+i*4+1) (y:=(⟨j,(j+1),(el acc i).host,(el acc i).bd⟩:aG)) (q:=()) (Fy:=ab) (by omega) (Nat.le_of_ble_eq_true (by kernel_rfl)) (fun _ _ _=>⟨ab,(show e7 (⟨j,(j+1),(el acc i).host,(el acc i).bd⟩:aG) from⟨(show a_ j from⟨by omega,by omega⟩),(show a_ (j+1) from⟨by omega,by omega⟩),(e7.host (d:=(el acc i)) ky),(e7.bd (d:=(el acc i)) ky)⟩),fun _ h=>False.elim h⟩) (fun b _ h=>False.elim h) (fun b h=>False.elim h) (fun b h=>False.elim h) ?_ (hc:=(by rw [dS (show i<acc.length by omega)];kernel_rfl))
  clear S;intro w N kn dg S up eo d20 sA oC
  have yW:∀b,kn b->F b:=fun b h=>(sA b h).elim (B6 b) (fun h=>False.elim h)
  clear up d20 bE oC
  rw [List.set_set] at eo
  have KN:(acc.set i (⟨j,(j+1),(el acc i).host,(el acc i).bd⟩:aG)).length=acc.length:=List.length_set
  refine S.go 16 (.cons (cg (j+1) 1) (.cons (eI eo.ak (l:=a.length) (k:=i) (i:=(i:Int)) (by rw [List.length_set];exact(by rw [bt];simp [mc];omega)) rfl (by omega) Tryz.underlying29 (by kernel_rfl)) .nil)) fun ac w β S=>S.zr eo (α:=aG) (t:=3) (v:=aa ((j+1)+1)) (k:=i) (j:=2) (off:=ae.1.off+i*4+2) (y:=(⟨j,(j+1),((j+1)+1),(el acc i).bd⟩:aG)) (q:=()) (Fy:=ab) (by omega) (Nat.le_of_ble_eq_true (by kernel_rfl)) (fun _ _ _=>⟨ab,(show e7 (⟨j,(j+1),((j+1)+1),(el acc i).bd⟩:aG) from⟨(show a_ j from⟨by omega,by omega⟩),(show a_ (j+1) from⟨by omega,by omega⟩),(show a_ ((j+1)+1) from⟨by omega,by omega⟩),(e7.bd (d:=(el acc i)) ky)⟩),fun _ h=>False.elim h⟩) (fun b _ h=>False.elim h) (fun b h=>False.elim h) (fun b h=>False.elim h) ?_ (hc:=(by rw [dS (show i<acc.length by omega)];kernel_rfl))
  clear S;intro w N kS eZ S up dC d28 Nf Bg
  have Cf:∀b,kS b->F b:=fun b h=>(Nf b h).elim (yW b) (fun h=>False.elim h)
  clear up d28 eo Bg
  rw [List.set_set] at dC
  have KP:(acc.set i (⟨j,(j+1),((j+1)+1),(el acc i).bd⟩:aG)).length=acc.length:=List.length_set
  refine S.go 16 (.cons (cg ((j+1)+1) 1) (.cons (eI dC.ak (l:=a.length) (k:=i) (i:=(i:Int)) (by rw [List.length_set];exact(by rw [bt];simp [mc];omega)) rfl (by omega) Tryz.underlying29 (by kernel_rfl)) .nil)) fun ac w β S=>S.zr dC (α:=aG) (t:=3) (v:=aa (((j+1)+1)+1)) (k:=i) (j:=3) (off:=ae.1.off+i*4+3) (y:=(⟨j,(j+1),((j+1)+1),(((j+1)+1)+1)⟩:aG)) (q:=()) (Fy:=ab) (by omega) (Nat.le_of_ble_eq_true (by kernel_rfl)) (fun _ _ _=>⟨ab,(show e7 (⟨j,(j+1),((j+1)+1),(((j+1)+1)+1)⟩:aG) from⟨(show a_ j from⟨by omega,by omega⟩),(show a_ (j+1) from⟨by omega,by omega⟩),(show a_ ((j+1)+1) from⟨by omega,by omega⟩),(show a_ (((j+1)+1)+1) from⟨by omega,by omega⟩)⟩),fun _ h=>False.elim h⟩) (fun b _ h=>False.elim h) (fun b h=>False.elim h) (fun b h=>False.elim h) ?_ (hc:=(by rw [dS (show i<acc.length by omega)];kernel_rfl))
  clear S;intro w N N3 tN S up gw d36 ajA agK
  have ajB:∀b,N3 b->F b:=fun b h=>(ajA b h).elim (Cf b) (fun h=>False.elim h)
  clear up d36 dC agK
  rw [List.set_set] at gw
  have afO:(acc.set i (⟨j,(j+1),((j+1)+1),(((j+1)+1)+1)⟩:aG)).length=acc.length:=List.length_set
  refine S.ge 14 (.cons (cg (((j+1)+1)+1) 1) (.cons (cg (i:Int) 1) .nil)) f4 fun ac w β S=>lS.of (a.length-(i+1)) _ _ (by omega) ⟨i+1,(acc.set i (⟨j,(j+1),((j+1)+1),(((j+1)+1)+1)⟩:aG)),((((j+1)+1)+1)+1),(ae.1,tN),N3,_,_,_,rfl,?_,?_,?_,S.z,gw,a9,ajB⟩
  ·exact cO
  ·clear S;(have eP:i<acc.length:=(by omega));rw [bt,←af9 (by omega) b0];(first|rfl|(simp [xW,Int.add_assoc];done))
  ·clear S;omega
 refine S.bq 13 .nil [aa j] fun ac w β S=>?_
 have k1:aR acc k=j:=by clear S;(have e:i=a.length:=(by omega));subst e;rw [bt,List.drop_length,List.append_nil,b0];exact Sb k (by omega) _ (by omega) id
 have hR:k<=j/\j<=k+16*((aS.aW a:Nat):Int):=by clear S;skip;constructor<;>omega
 exact rr S k1 hR.1 hR.2 (by show [R _ _]=[R _ _];rw [gD,a9]) aD hs
theorem PB (w0:World) (a:ah) (pa:cb) (F:au) (ay:GT.own b7 F w0 a pa) (eM:∀b,F b->b<w0.heap.size) (k:Int) (ft:0<=k) (gP:k+16*(aS.aW a:Int)<=4611686018427387904):Calls Tryz.prog 11 [GT.val a pa,aa k].toArray w0 (n6 ou F w0 pa a k):=by
 refine Calls.run F Tryz.func11 ?_
 intro ac β S
 have ig:ad w0 F w0 (fc w0.heap.size) F a pa:=⟨ay,eM,fun b hb=> .inr hb⟩
 obtain⟨cc,e4,e5,dT,bK,bY,bP,bo,_,_,_,_,d13,d14,d15,d16,d17,d18⟩:=jL ig
 have ed:=Cs a
 refine S.go 11 .nil fun ac w β S=>S.kV (hd:=aR) (d:=8) bK (PC w a.mem pa.mem cc (S.fX bK) (fun b hb=>(S.sep b (bK.sub b hb)).1) k (by omega) (by omega)) fun ac w N dg NF afk S up fh OR akA Xl al2=>?_
 replace bY:=bY.bw (J.symm d13) up
 replace bP:=bP.bw (J.symm d14) up
 replace bo:=bo.bw (J.symm d15) up
 clear up
 refine S.go 8 .nil fun ac w β S=>S.kV (hd:=aR) (d:=12) bY (Y0 w a.I pa.I e4 (S.fX bY) (fun b hb=>(S.sep b (bY.sub b hb)).1) afk (by omega) (by omega)) fun ac w N eZ NG afm S up gG XW akB al3 al4=>?_
 replace bP:=bP.bw (J.symm d16) up
 replace bo:=bo.bw (J.symm d17) up
 replace fh:=fh.bw (J.symm (J.symm d13)) up
 clear up
 refine S.go 8 .nil fun ac w β S=>S.kV (hd:=aR) (d:=16) bP (PA w a.buf pa.buf e5 (S.fX bP) (fun b hb=>(S.sep b (bP.sub b hb)).1) afm (by omega) (by omega)) fun ac w N tN NH afn S up lp XX akC al5 al6=>?_
 replace bo:=bo.bw (J.symm d18) up
 replace fh:=fh.bw (J.symm (J.symm d14)) up
 replace gG:=gG.bw (J.symm (J.symm d16)) up
 clear up
 refine S.go 8 .nil fun ac w β S=>S.kV (hd:=aR) (d:=20) bo (PA w a.ag pa.ag dT (S.fX bo) (fun b hb=>(S.sep b (bo.sub b hb)).1) afn (by omega) (by omega)) fun ac w N k4 NI EE S up nR XZ akD al7 al8=>?_
 replace fh:=fh.bw (J.symm (J.symm d15)) up
 replace gG:=gG.bw (J.symm (J.symm d17)) up
 replace lp:=lp.bw (J.symm (J.symm d18)) up
 clear up
 refine S.bq 10 .nil [aa EE] fun ac w β S=>?_
 have g6:=fi (x:=(⟨NF,NG,NH,NI⟩:ah)) (p:=(⟨dg,eZ,tN,k4⟩:cb)) fh gG lp nR (J.symm (J.symm d13)) (J.symm (J.symm d14)) (J.symm (J.symm d15)) (J.symm (J.symm d16)) (J.symm (J.symm d17)) (J.symm (J.symm d18))
 have Jh:=Z_ (x:=(⟨NF,NG,NH,NI⟩:ah)) (y:=a) (p:=(⟨dg,eZ,tN,k4⟩:cb)) (q:=pa) OR XW XX XZ
 have hF:=Cs a
 have k1:ou (⟨NF,NG,NH,NI⟩:ah) k=EE:=by clear S;simp (disch:=omega) only [ou,akA,akB,akC,akD,AL]
 have hR:k<=EE/\EE<=k+16*((aS.aW a:Nat):Int):=by clear S;constructor<;>omega
 exact rr S k1 hR.1 hR.2 Jh g6 (qu fun G cM=>by simp only [List.mem_cons,List.not_mem_nil,or_false] at cM;rcases cM with rfl|rfl|rfl|rfl<;>assumption)
theorem To {p:Prop} (h:p:=by clear S;(first|(rw [bn,r2 (by omega)];done)|(rw [bn,iv (by omega)];simp [DY,aZ,du,fQ,dj, *];done)|(rw [bn,iv (by omega)];simp_all [DY,aZ,du,fQ,dj];done))):p:=h
theorem Hd (w0:World) (a:List Int) (pa:aC Int) (ay:bT w0 a pa) (k:Int):Calls Tryz.prog 159 [R a.length pa.1,aa k].toArray w0 (fun e w'=>e= .returned (aa (aR a k))/\bu ab w0 w'):=by
 refine Calls.run ab Tryz.func159 ?_
 intro ac β S
 have fy:a.length<=4194304:=af.le ay
 refine S.go 12 .nil fun ac w β S=>?_
 refine dc (fun a5 ac w=>∃(i:Nat) (j:Int) (u:_) (N:_) (β:_),a5=a.length-i/\(i<=a.length)/\(aR a k=hC (a.drop i) j id)/\aj Tryz.prog Tryz.f159.ntmps w0 ab u N β ⟨[(0,.v (R a.length pa.1)),(1,.v (aa j)),(5,.v (aa (i:Int)))],[]⟩ ac w) _ ⟨0,k,_,_,_,rfl,cv,(by rfl),S.z⟩ ?_
 clear S
 rintro f1 a5 fa ac w ⟨i,j,u,N,β,rfl,hi,bn,S⟩
 refine S.rs fun S=>?_
 refine S.aI 9 .nil (decide ((i:Int)<(a.length:Int))) (fun ac w β aF cB S=>?_) (fun ac w β aF cB S=>?_)
 ·refine S.aI 16 (.cons (b6 (S.arg ay) i Tryz.underlying38) (.cons (cj (S.arg ay) 3 i) .nil)) ((el a i) != j) (fun ac w β bl c7 S=>?_) (fun ac w β bl c7 S=>?_)
  ·exact S.aq 7 .nil [aa (-1)] (b3 To)
  refine S.ge 15 (.cons (jl (x:=j) (y:=1)) (.cons (cg (i:Int) 1) .nil)) f1 fun ac w β S=>fa.of (a.length-(i+1)) _ _ (by omega) ⟨i+1,(aZ j),_,_,_,rfl,?_,?_,S.z⟩
  ·exact cO
  ·clear S;(rw [bn,iv (by omega)];simp [DY,aZ,du,fQ,dj, *])
 exact S.aq 13 .nil [aa j] (b3 To)
theorem Tp {p:Prop} (h:p:=by clear S;(first|(rw [bn,r2 (by omega)];done)|(rw [bn,iv (by omega)];simp [tj,aZ,du,fQ,dj, *];done)|(rw [bn,iv (by omega)];simp_all [tj,aZ,du,fQ,dj];done))):p:=h
theorem Py (w0:World) (a:List (List Int)) (pa:aC (List Int)) (ay:bT w0 a pa) (k:Int):Calls Tryz.prog 63 [R a.length pa.1,aa k].toArray w0 (fun e w'=>e= .returned (aa (aR a k))/\bu ab w0 w'):=by
 refine Calls.run ab Tryz.func63 ?_
 intro ac β S
 have fy:a.length<=4194304:=af.le ay
 refine S.go 12 .nil fun ac w β S=>?_
 refine dc (fun a5 ac w=>∃(i:Nat) (j:Int) (u:_) (N:_) (β:_),a5=a.length-i/\(i<=a.length)/\(aR a k=hC (a.drop i) j id)/\aj Tryz.prog Tryz.f63.ntmps w0 ab u N β ⟨[(0,.v (R a.length pa.1)),(1,.v (aa j)),(5,.v (aa (i:Int)))],[]⟩ ac w) _ ⟨0,k,_,_,_,rfl,cv,(by rfl),S.z⟩ ?_
 clear S
 rintro f1 a5 fa ac w ⟨i,j,u,N,β,rfl,hi,bn,S⟩
 refine S.rs fun S=>?_
 refine S.aI 9 .nil (decide ((i:Int)<(a.length:Int))) (fun ac w β aF cB S=>?_) (fun ac w β aF cB S=>?_)
 ·refine S.aI 22 (.cons (b6 (S.arg ay) i Tryz.underlying22) (.cons (cj (S.arg ay) 38 i) (.cons (aE fun w hw=>Hd w (el a i) (pa.2 i) (bN (af.el (S.arg ay) i (by omega)) hw) j) .nil))) (decide ((aR (el a i) j)<0)) (fun ac w β bl c7 S=>?_) (fun ac w β bl c7 S=>?_)
  ·exact S.aq 7 .nil [aa (-1)] (b3 Tp)
  refine S.ge 9 (.cons (cg (i:Int) 1) .nil) f1 fun ac w β S=>fa.of (a.length-(i+1)) _ _ (by omega) ⟨i+1,(aR (el a i) j),_,_,_,rfl,?_,?_,S.z⟩
  ·exact cO
  ·clear S;(rw [bn,iv (by omega)];simp [tj,aZ,du,fQ,dj, *])
 exact S.aq 13 .nil [aa j] (b3 Tp)
theorem Ks {p:Prop} (h:p:=by clear S;(first|(rw [bn,r2 (by omega)];done)|(rw [bn,iv (by omega)];simp [D1,aZ,du,fQ,dj, *];done)|(rw [bn,iv (by omega)];simp_all [D1,aZ,du,fQ,dj];done))):p:=h
theorem Db (w0:World) (a:List aQ) (pa:aC aQ) (ay:bT w0 a pa) (k:Int):Calls Tryz.prog 160 [R a.length pa.1,aa k].toArray w0 (fun e w'=>e= .returned (aa (aR a k))/\bu ab w0 w'):=by
 refine Calls.run ab Tryz.func160 ?_
 intro ac β S
 have fy:a.length<=4194304:=af.le ay
 refine S.go 12 .nil fun ac w β S=>?_
 refine dc (fun a5 ac w=>∃(i:Nat) (j:Int) (u:_) (N:_) (β:_),a5=a.length-i/\(i<=a.length)/\(aR a k=hC (a.drop i) j id)/\aj Tryz.prog Tryz.f160.ntmps w0 ab u N β ⟨[(0,.v (R a.length pa.1)),(1,.v (aa j)),(5,.v (aa (i:Int)))],[]⟩ ac w) _ ⟨0,k,_,_,_,rfl,cv,(by rfl),S.z⟩ ?_
 clear S
 rintro f1 a5 fa ac w ⟨i,j,u,N,β,rfl,hi,bn,S⟩
 refine S.rs fun S=>?_
 refine S.aI 9 .nil (decide ((i:Int)<(a.length:Int))) (fun ac w β aF cB S=>?_) (fun ac w β aF cB S=>?_)
 ·refine S.aI 17 (.cons (b6 (S.arg ay) i Tryz.underlying64) (.cons (cz (S.arg ay) 3 i 0 (aa (el a i).page)) .nil)) ((el a i).page != j) (fun ac w β bl c7 S=>?_) (fun ac w β bl c7 S=>?_)
  ·exact S.aq 7 .nil [aa (-1)] (b3 Ks)
  refine S.aI 22 (.cons (jl (x:=j) (y:=1)) (.cons (b6 (S.arg ay) i Tryz.underlying64) (.cons (cz (S.arg ay) 3 i 1 (aa (el a i).bd)) .nil))) ((el a i).bd != (aZ j)) (fun ac w β cD e_ S=>?_) (fun ac w β cD e_ S=>?_)
  ·exact S.aq 7 .nil [aa (-1)] (b3 Ks)
  refine S.ge 15 (.cons (jl (x:=(aZ j)) (y:=1)) (.cons (cg (i:Int) 1) .nil)) f1 fun ac w β S=>fa.of (a.length-(i+1)) _ _ (by omega) ⟨i+1,(aZ (aZ j)),_,_,_,rfl,?_,?_,S.z⟩
  ·exact cO
  ·clear S;(rw [bn,iv (by omega)];simp [D1,aZ,du,fQ,dj, *])
 exact S.aq 13 .nil [aa j] (b3 Ks)
theorem Tn {p:Prop} (h:p:=by clear S;(first|(rw [bn,r2 (by omega)];done)|(rw [bn,iv (by omega)];simp [DU,aZ,du,fQ,dj, *];done)|(rw [bn,iv (by omega)];simp_all [DU,aZ,du,fQ,dj];done))):p:=h
theorem Pv (w0:World) (a:List Bool) (pa:aC Bool) (ay:bT w0 a pa) (k:Int):Calls Tryz.prog 20 [R a.length pa.1,aa k].toArray w0 (fun e w'=>e= .returned (aa (aR a k))/\bu ab w0 w'):=by
 refine Calls.run ab Tryz.func20 ?_
 intro ac β S
 have fy:a.length<=4194304:=af.le ay
 refine S.go 12 .nil fun ac w β S=>?_
 refine dc (fun a5 ac w=>∃(i:Nat) (j:Int) (u:_) (N:_) (β:_),a5=a.length-i/\(i<=a.length)/\(aR a k=hC (a.drop i) j id)/\aj Tryz.prog Tryz.f20.ntmps w0 ab u N β ⟨[(0,.v (R a.length pa.1)),(1,.v (aa j)),(5,.v (aa (i:Int)))],[]⟩ ac w) _ ⟨0,k,_,_,_,rfl,cv,(by rfl),S.z⟩ ?_
 clear S
 rintro f1 a5 fa ac w ⟨i,j,u,N,β,rfl,hi,bn,S⟩
 refine S.rs fun S=>?_
 refine S.aI 9 .nil (decide ((i:Int)<(a.length:Int))) (fun ac w β aF cB S=>?_) (fun ac w β aF cB S=>?_)
 ·refine S.bb 18 (.cons (b6 (S.arg ay) i Tryz.underlying39) (.cons (cj (S.arg ay) 4 i) (.cons (oU (x:=j) (y:=3) (by decide)) .nil))) (!((el a i)==((Int.tmod j 3)==0))) (fun ac w β bl S=>?_) (fun ac w β bl S=>?_)
  ·have cR:=cn bl
   have gC:¬((el a i)=((Int.tmod j 3)==0)):=ne_of_beq_false cR
   exact S.aq 7 .nil [aa (-1)] (b3 Tn)
  have db:=b_ bl
  have fx:(el a i)=((Int.tmod j 3)==0):=eq_of_beq db
  refine S.ge 15 (.cons (jl (x:=j) (y:=1)) (.cons (cg (i:Int) 1) .nil)) f1 fun ac w β S=>fa.of (a.length-(i+1)) _ _ (by omega) ⟨i+1,(aZ j),_,_,_,rfl,?_,?_,S.z⟩
  ·exact cO
  ·clear S;(rw [bn,iv (by omega)];simp [DU,aZ,du,fQ,dj, *])
 exact S.aq 13 .nil [aa j] (b3 Tn)
theorem Kq {p:Prop} (h:p:=by clear S;(first|(rw [bn,r2 (by omega)];done)|(rw [bn,iv (by omega)];simp [DX,aZ,du,fQ,dj, *];done)|(rw [bn,iv (by omega)];simp_all [DX,aZ,du,fQ,dj];done))):p:=h
theorem YU (w0:World) (a:List c_) (pa:aC c_) (ay:bT w0 a pa) (k:Int):Calls Tryz.prog 262 [R a.length pa.1,aa k].toArray w0 (fun e w'=>e= .returned (aa (aR a k))/\bu ab w0 w'):=by
 refine Calls.run ab Tryz.func262 ?_
 intro ac β S
 have fy:a.length<=4194304:=af.le ay
 refine S.go 12 .nil fun ac w β S=>?_
 refine dc (fun a5 ac w=>∃(i:Nat) (j:Int) (u:_) (N:_) (β:_),a5=a.length-i/\(i<=a.length)/\(aR a k=hC (a.drop i) j id)/\aj Tryz.prog Tryz.f262.ntmps w0 ab u N β ⟨[(0,.v (R a.length pa.1)),(1,.v (aa j)),(5,.v (aa (i:Int)))],[]⟩ ac w) _ ⟨0,k,_,_,_,rfl,cv,(by rfl),S.z⟩ ?_
 clear S
 rintro f1 a5 fa ac w ⟨i,j,u,N,β,rfl,hi,bn,S⟩
 refine S.rs fun S=>?_
 refine S.aI 9 .nil (decide ((i:Int)<(a.length:Int))) (fun ac w β aF cB S=>?_) (fun ac w β aF cB S=>?_)
 ·refine S.aI 17 (.cons (b6 (S.arg ay) i Tryz.underlying63) (.cons (cz (S.arg ay) 3 i 0 (aa (el a i).eF)) .nil)) ((el a i).eF != j) (fun ac w β bl c7 S=>?_) (fun ac w β bl c7 S=>?_)
  ·exact S.aq 7 .nil [aa (-1)] (b3 Kq)
  refine S.aI 22 (.cons (jl (x:=j) (y:=1)) (.cons (b6 (S.arg ay) i Tryz.underlying63) (.cons (cz (S.arg ay) 3 i 1 (aa (el a i).x)) .nil))) ((el a i).x != (aZ j)) (fun ac w β cD e_ S=>?_) (fun ac w β cD e_ S=>?_)
  ·exact S.aq 7 .nil [aa (-1)] (b3 Kq)
  refine S.ge 15 (.cons (jl (x:=(aZ j)) (y:=1)) (.cons (cg (i:Int) 1) .nil)) f1 fun ac w β S=>fa.of (a.length-(i+1)) _ _ (by omega) ⟨i+1,(aZ (aZ j)),_,_,_,rfl,?_,?_,S.z⟩
  ·exact cO
  ·clear S;(rw [bn,iv (by omega)];simp [DX,aZ,du,fQ,dj, *])
 exact S.aq 13 .nil [aa j] (b3 Kq)
theorem mr {p:Prop} (h:p:=by clear S;(first|(rw [bn,r2 (by omega)];done)|(rw [bn,iv (by omega)];simp [DW,aZ,du,fQ,dj, *];done)|(rw [bn,iv (by omega)];simp_all [DW,aZ,du,fQ,dj];done))):p:=h
theorem YT (w0:World) (a:List ax) (pa:aC ax) (ay:bT w0 a pa) (k:Int):Calls Tryz.prog 161 [R a.length pa.1,aa k].toArray w0 (fun e w'=>e= .returned (aa (aR a k))/\bu ab w0 w'):=by
 refine Calls.run ab Tryz.func161 ?_
 intro ac β S
 have fy:a.length<=4194304:=af.le ay
 refine S.go 12 .nil fun ac w β S=>?_
 refine dc (fun a5 ac w=>∃(i:Nat) (j:Int) (u:_) (N:_) (β:_),a5=a.length-i/\(i<=a.length)/\(aR a k=hC (a.drop i) j id)/\aj Tryz.prog Tryz.f161.ntmps w0 ab u N β ⟨[(0,.v (R a.length pa.1)),(1,.v (aa j)),(5,.v (aa (i:Int)))],[]⟩ ac w) _ ⟨0,k,_,_,_,rfl,cv,(by rfl),S.z⟩ ?_
 clear S
 rintro f1 a5 fa ac w ⟨i,j,u,N,β,rfl,hi,bn,S⟩
 refine S.rs fun S=>?_
 refine S.aI 9 .nil (decide ((i:Int)<(a.length:Int))) (fun ac w β aF cB S=>?_) (fun ac w β aF cB S=>?_)
 ·refine S.aI 24 (.cons (b6 (S.arg ay) i Tryz.underlying71) (.cons (cz (S.arg ay) 63 i 0 (R (el a i).prog.length (pa.2 i).prog.1)) (.cons (aE fun w hw=>YU w (el a i).prog (pa.2 i).prog (bN (az.prog (d:=(el a i)) (af.el (S.arg ay) i (by omega))) hw) j) .nil))) (decide ((aR (el a i).prog j)<0)) (fun ac w β bl c7 S=>?_) (fun ac w β bl c7 S=>?_)
  ·exact S.aq 7 .nil [aa (-1)] (b3 mr)
  refine S.aI 15 (.cons (b6 (S.arg ay) i Tryz.underlying71) (.cons (cz (S.arg ay) 3 i 1 (aa (el a i).acc)) .nil)) ((el a i).acc != (aR (el a i).prog j)) (fun ac w β cD e_ S=>?_) (fun ac w β cD e_ S=>?_)
  ·exact S.aq 7 .nil [aa (-1)] (b3 mr)
  refine S.aI 22 (.cons (jl (x:=(aR (el a i).prog j)) (y:=1)) (.cons (b6 (S.arg ay) i Tryz.underlying71) (.cons (cz (S.arg ay) 3 i 2 (aa (el a i).aw)) .nil))) ((el a i).aw != (aZ (aR (el a i).prog j))) (fun ac w β et iP S=>?_) (fun ac w β et iP S=>?_)
  ·exact S.aq 7 .nil [aa (-1)] (b3 mr)
  refine S.aI 29 (.cons (jl (x:=(aZ (aR (el a i).prog j))) (y:=1)) (.cons (b6 (S.arg ay) i Tryz.underlying71) (.cons (cz (S.arg ay) 64 i 3 (R (el a i).written.length (pa.2 i).written.1)) (.cons (aE fun w hw=>Db w (el a i).written (pa.2 i).written (bN (az.written (d:=(el a i)) (af.el (S.arg ay) i (by omega))) hw) (aZ (aZ (aR (el a i).prog j)))) .nil)))) (decide ((aR (el a i).written (aZ (aZ (aR (el a i).prog j))))<0)) (fun ac w β eL h8 S=>?_) (fun ac w β eL h8 S=>?_)
  ·exact S.aq 7 .nil [aa (-1)] (b3 mr)
  refine S.aI 22 (.cons (b6 (S.arg ay) i Tryz.underlying71) (.cons (cz (S.arg ay) 64 i 4 (R (el a i).live.length (pa.2 i).live.1)) (.cons (aE fun w hw=>Db w (el a i).live (pa.2 i).live (bN (az.live (d:=(el a i)) (af.el (S.arg ay) i (by omega))) hw) (aR (el a i).written (aZ (aZ (aR (el a i).prog j))))) .nil))) (decide ((aR (el a i).live (aR (el a i).written (aZ (aZ (aR (el a i).prog j)))))<0)) (fun ac w β jD nK S=>?_) (fun ac w β jD nK S=>?_)
  ·exact S.aq 7 .nil [aa (-1)] (b3 mr)
  refine S.aI 16 (.cons (b6 (S.arg ay) i Tryz.underlying71) (.cons (cz (S.arg ay) 3 i 5 (aa (el a i).aN.aX)) .nil)) ((el a i).aN.aX != (aR (el a i).live (aR (el a i).written (aZ (aZ (aR (el a i).prog j)))))) (fun ac w β oj pb S=>?_) (fun ac w β oj pb S=>?_)
  ·exact S.aq 7 .nil [aa (-1)] (b3 mr)
  refine S.aI 23 (.cons (jl (x:=(aR (el a i).live (aR (el a i).written (aZ (aZ (aR (el a i).prog j)))))) (y:=1)) (.cons (b6 (S.arg ay) i Tryz.underlying71) (.cons (cz (S.arg ay) 3 i 6 (aa (el a i).aN.post)) .nil))) ((el a i).aN.post != (aZ (aR (el a i).live (aR (el a i).written (aZ (aZ (aR (el a i).prog j))))))) (fun ac w β jE pc S=>?_) (fun ac w β jE pc S=>?_)
  ·exact S.aq 7 .nil [aa (-1)] (b3 mr)
  refine S.bb 25 (.cons (jl (x:=(aZ (aR (el a i).live (aR (el a i).written (aZ (aZ (aR (el a i).prog j))))))) (y:=1)) (.cons (b6 (S.arg ay) i Tryz.underlying71) (.cons (cz (S.arg ay) 4 i 7 (B (el a i).aN.eV)) (.cons (oU (x:=(aZ (aZ (aR (el a i).live (aR (el a i).written (aZ (aZ (aR (el a i).prog j)))))))) (y:=3) (by decide)) .nil)))) (!((el a i).aN.eV==((Int.tmod (aZ (aZ (aR (el a i).live (aR (el a i).written (aZ (aZ (aR (el a i).prog j))))))) 3)==0))) (fun ac w β iZ S=>?_) (fun ac w β iZ S=>?_)
  ·have hj:=cn iZ
   have Im:¬((el a i).aN.eV=((Int.tmod (aZ (aZ (aR (el a i).live (aR (el a i).written (aZ (aZ (aR (el a i).prog j))))))) 3)==0)):=ne_of_beq_false hj
   exact S.aq 7 .nil [aa (-1)] (b3 mr)
  have pe:=b_ iZ
  have tc:(el a i).aN.eV=((Int.tmod (aZ (aZ (aR (el a i).live (aR (el a i).written (aZ (aZ (aR (el a i).prog j))))))) 3)==0):=eq_of_beq pe
  refine S.aI 22 (.cons (jl (x:=(aZ (aZ (aR (el a i).live (aR (el a i).written (aZ (aZ (aR (el a i).prog j)))))))) (y:=1)) (.cons (b6 (S.arg ay) i Tryz.underlying71) (.cons (cz (S.arg ay) 3 i 8 (aa (el a i).aB)) .nil))) ((el a i).aB != (aZ (aZ (aZ (aR (el a i).live (aR (el a i).written (aZ (aZ (aR (el a i).prog j))))))))) (fun ac w β gM jC S=>?_) (fun ac w β gM jC S=>?_)
  ·exact S.aq 7 .nil [aa (-1)] (b3 mr)
  refine S.aI 23 (.cons (jl (x:=(aZ (aZ (aZ (aR (el a i).live (aR (el a i).written (aZ (aZ (aR (el a i).prog j))))))))) (y:=1)) (.cons (b6 (S.arg ay) i Tryz.underlying71) (.cons (cz (S.arg ay) 3 i 9 (aa (el a i).exit.kind)) .nil))) ((el a i).exit.kind != (aZ (aZ (aZ (aZ (aR (el a i).live (aR (el a i).written (aZ (aZ (aR (el a i).prog j)))))))))) (fun ac w β gN td S=>?_) (fun ac w β gN td S=>?_)
  ·exact S.aq 7 .nil [aa (-1)] (b3 mr)
  refine S.aI 23 (.cons (jl (x:=(aZ (aZ (aZ (aZ (aR (el a i).live (aR (el a i).written (aZ (aZ (aR (el a i).prog j)))))))))) (y:=1)) (.cons (b6 (S.arg ay) i Tryz.underlying71) (.cons (cz (S.arg ay) 3 i 10 (aa (el a i).exit.page)) .nil))) ((el a i).exit.page != (aZ (aZ (aZ (aZ (aZ (aR (el a i).live (aR (el a i).written (aZ (aZ (aR (el a i).prog j))))))))))) (fun ac w β hB lN S=>?_) (fun ac w β hB lN S=>?_)
  ·exact S.aq 7 .nil [aa (-1)] (b3 mr)
  refine S.bb 25 (.cons (jl (x:=(aZ (aZ (aZ (aZ (aZ (aR (el a i).live (aR (el a i).written (aZ (aZ (aR (el a i).prog j))))))))))) (y:=1)) (.cons (b6 (S.arg ay) i Tryz.underlying71) (.cons (cz (S.arg ay) 4 i 11 (B (el a i).exit.wr)) (.cons (oU (x:=(aZ (aZ (aZ (aZ (aZ (aZ (aR (el a i).live (aR (el a i).written (aZ (aZ (aR (el a i).prog j)))))))))))) (y:=3) (by decide)) .nil)))) (!((el a i).exit.wr==((Int.tmod (aZ (aZ (aZ (aZ (aZ (aZ (aR (el a i).live (aR (el a i).written (aZ (aZ (aR (el a i).prog j))))))))))) 3)==0))) (fun ac w β lk S=>?_) (fun ac w β lk S=>?_)
  ·have lQ:=cn lk
   have uU:¬((el a i).exit.wr=((Int.tmod (aZ (aZ (aZ (aZ (aZ (aZ (aR (el a i).live (aR (el a i).written (aZ (aZ (aR (el a i).prog j))))))))))) 3)==0)):=ne_of_beq_false lQ
   exact S.aq 7 .nil [aa (-1)] (b3 mr)
  have mW:=b_ lk
  have rV:(el a i).exit.wr=((Int.tmod (aZ (aZ (aZ (aZ (aZ (aZ (aR (el a i).live (aR (el a i).written (aZ (aZ (aR (el a i).prog j))))))))))) 3)==0):=eq_of_beq mW
  refine S.aI 23 (.cons (jl (x:=(aZ (aZ (aZ (aZ (aZ (aZ (aR (el a i).live (aR (el a i).written (aZ (aZ (aR (el a i).prog j)))))))))))) (y:=1)) (.cons (b6 (S.arg ay) i Tryz.underlying71) (.cons (cz (S.arg ay) 3 i 12 (aa (el a i).exit.n)) .nil))) ((el a i).exit.n != (aZ (aZ (aZ (aZ (aZ (aZ (aZ (aR (el a i).live (aR (el a i).written (aZ (aZ (aR (el a i).prog j))))))))))))) (fun ac w β kA pd S=>?_) (fun ac w β kA pd S=>?_)
  ·exact S.aq 7 .nil [aa (-1)] (b3 mr)
  refine S.bb 24 (.cons (jl (x:=(aZ (aZ (aZ (aZ (aZ (aZ (aZ (aR (el a i).live (aR (el a i).written (aZ (aZ (aR (el a i).prog j))))))))))))) (y:=1)) (.cons (b6 (S.arg ay) i Tryz.underlying71) (.cons (cz (S.arg ay) 4 i 13 (B (el a i).halted)) (.cons (oU (x:=(aZ (aZ (aZ (aZ (aZ (aZ (aZ (aZ (aR (el a i).live (aR (el a i).written (aZ (aZ (aR (el a i).prog j)))))))))))))) (y:=3) (by decide)) .nil)))) (!((el a i).halted==((Int.tmod (aZ (aZ (aZ (aZ (aZ (aZ (aZ (aZ (aR (el a i).live (aR (el a i).written (aZ (aZ (aR (el a i).prog j))))))))))))) 3)==0))) (fun ac w β ja S=>?_) (fun ac w β ja S=>?_)
  ·have qQ:=cn ja
   have xR:¬((el a i).halted=((Int.tmod (aZ (aZ (aZ (aZ (aZ (aZ (aZ (aZ (aR (el a i).live (aR (el a i).written (aZ (aZ (aR (el a i).prog j))))))))))))) 3)==0)):=ne_of_beq_false qQ
   exact S.aq 7 .nil [aa (-1)] (b3 mr)
  have kZ:=b_ ja
  have Ip:(el a i).halted=((Int.tmod (aZ (aZ (aZ (aZ (aZ (aZ (aZ (aZ (aR (el a i).live (aR (el a i).written (aZ (aZ (aR (el a i).prog j))))))))))))) 3)==0):=eq_of_beq kZ
  refine S.aI 28 (.cons (jl (x:=(aZ (aZ (aZ (aZ (aZ (aZ (aZ (aZ (aR (el a i).live (aR (el a i).written (aZ (aZ (aR (el a i).prog j)))))))))))))) (y:=1)) (.cons (b6 (S.arg ay) i Tryz.underlying71) (.cons (cz (S.arg ay) 38 i 14 (R (el a i).seen.length (pa.2 i).seen.1)) (.cons (aE fun w hw=>Hd w (el a i).seen (pa.2 i).seen (bN (az.seen (d:=(el a i)) (af.el (S.arg ay) i (by omega))) hw) (aZ (aZ (aZ (aZ (aZ (aZ (aZ (aZ (aZ (aR (el a i).live (aR (el a i).written (aZ (aZ (aR (el a i).prog j))))))))))))))) .nil)))) (decide ((aR (el a i).seen (aZ (aZ (aZ (aZ (aZ (aZ (aZ (aZ (aZ (aR (el a i).live (aR (el a i).written (aZ (aZ (aR (el a i).prog j)))))))))))))))<0)) (fun ac w β j_ xS S=>?_) (fun ac w β j_ xS S=>?_)
  ·exact S.aq 7 .nil [aa (-1)] (b3 mr)
  refine S.ge 9 (.cons (cg (i:Int) 1) .nil) f1 fun ac w β S=>fa.of (a.length-(i+1)) _ _ (by omega) ⟨i+1,(aR (el a i).seen (aZ (aZ (aZ (aZ (aZ (aZ (aZ (aZ (aZ (aR (el a i).live (aR (el a i).written (aZ (aZ (aR (el a i).prog j))))))))))))))),_,_,_,rfl,?_,?_,S.z⟩
  ·exact cO
  ·clear S;(rw [bn,iv (by omega)];simp [DW,aZ,du,fQ,dj, *])
 exact S.aq 13 .nil [aa j] (b3 mr)
theorem Kr {p:Prop} (h:p:=by clear S;(first|(rw [bn,r2 (by omega)];done)|(rw [bn,iv (by omega)];simp [DZ,aZ,du,fQ,dj, *];done)|(rw [bn,iv (by omega)];simp_all [DZ,aZ,du,fQ,dj];done))):p:=h
theorem YV (w0:World) (a:List bQ) (pa:aC bQ) (ay:bT w0 a pa) (k:Int):Calls Tryz.prog 162 [R a.length pa.1,aa k].toArray w0 (fun e w'=>e= .returned (aa (aR a k))/\bu ab w0 w'):=by
 refine Calls.run ab Tryz.func162 ?_
 intro ac β S
 have fy:a.length<=4194304:=af.le ay
 refine S.go 12 .nil fun ac w β S=>?_
 refine dc (fun a5 ac w=>∃(i:Nat) (j:Int) (u:_) (N:_) (β:_),a5=a.length-i/\(i<=a.length)/\(aR a k=hC (a.drop i) j id)/\aj Tryz.prog Tryz.f162.ntmps w0 ab u N β ⟨[(0,.v (R a.length pa.1)),(1,.v (aa j)),(5,.v (aa (i:Int)))],[]⟩ ac w) _ ⟨0,k,_,_,_,rfl,cv,(by rfl),S.z⟩ ?_
 clear S
 rintro f1 a5 fa ac w ⟨i,j,u,N,β,rfl,hi,bn,S⟩
 refine S.rs fun S=>?_
 refine S.aI 9 .nil (decide ((i:Int)<(a.length:Int))) (fun ac w β aF cB S=>?_) (fun ac w β aF cB S=>?_)
 ·refine S.aI 24 (.cons (b6 (S.arg ay) i Tryz.underlying72) (.cons (cz (S.arg ay) 39 i 0 (R (el a i).known.length (pa.2 i).known.1)) (.cons (aE fun w hw=>Pv w (el a i).known (pa.2 i).known (bN (er.known (d:=(el a i)) (af.el (S.arg ay) i (by omega))) hw) j) .nil))) (decide ((aR (el a i).known j)<0)) (fun ac w β bl c7 S=>?_) (fun ac w β bl c7 S=>?_)
  ·exact S.aq 7 .nil [aa (-1)] (b3 Kr)
  refine S.aI 21 (.cons (b6 (S.arg ay) i Tryz.underlying72) (.cons (cz (S.arg ay) 64 i 1 (R (el a i).aY.length (pa.2 i).aY.1)) (.cons (aE fun w hw=>Db w (el a i).aY (pa.2 i).aY (bN (er.aY (d:=(el a i)) (af.el (S.arg ay) i (by omega))) hw) (aR (el a i).known j)) .nil))) (decide ((aR (el a i).aY (aR (el a i).known j))<0)) (fun ac w β cD e_ S=>?_) (fun ac w β cD e_ S=>?_)
  ·exact S.aq 7 .nil [aa (-1)] (b3 Kr)
  refine S.ge 9 (.cons (cg (i:Int) 1) .nil) f1 fun ac w β S=>fa.of (a.length-(i+1)) _ _ (by omega) ⟨i+1,(aR (el a i).aY (aR (el a i).known j)),_,_,_,rfl,?_,?_,S.z⟩
  ·exact cO
  ·clear S;(rw [bn,iv (by omega)];simp [DZ,aZ,du,fQ,dj, *])
 exact S.aq 13 .nil [aa j] (b3 Kr)
theorem q0 {p:Prop} (h:p:=by clear S;(first|(rw [bn,r2 (by omega)];done)|(rw [bn,iv (by omega)];simp [D0,aZ,du,fQ,dj, *];done)|(rw [bn,iv (by omega)];simp_all [D0,aZ,du,fQ,dj];done))):p:=h
theorem YW (w0:World) (a:List aO) (pa:aC aO) (ay:bT w0 a pa) (k:Int):Calls Tryz.prog 64 [R a.length pa.1,aa k].toArray w0 (fun e w'=>e= .returned (aa (aR a k))/\bu ab w0 w'):=by
 refine Calls.run ab Tryz.func64 ?_
 intro ac β S
 have fy:a.length<=4194304:=af.le ay
 refine S.go 12 .nil fun ac w β S=>?_
 refine dc (fun a5 ac w=>∃(i:Nat) (j:Int) (u:_) (N:_) (β:_),a5=a.length-i/\(i<=a.length)/\(aR a k=hC (a.drop i) j id)/\aj Tryz.prog Tryz.f64.ntmps w0 ab u N β ⟨[(0,.v (R a.length pa.1)),(1,.v (aa j)),(5,.v (aa (i:Int)))],[]⟩ ac w) _ ⟨0,k,_,_,_,rfl,cv,(by rfl),S.z⟩ ?_
 clear S
 rintro f1 a5 fa ac w ⟨i,j,u,N,β,rfl,hi,bn,S⟩
 refine S.rs fun S=>?_
 refine S.aI 9 .nil (decide ((i:Int)<(a.length:Int))) (fun ac w β aF cB S=>?_) (fun ac w β aF cB S=>?_)
 ·refine S.aI 24 (.cons (b6 (S.arg ay) i Tryz.underlying28) (.cons (cz (S.arg ay) 64 i 0 (R (el a i).outer.length (pa.2 i).outer.1)) (.cons (aE fun w hw=>Db w (el a i).outer (pa.2 i).outer (bN (aU.outer (d:=(el a i)) (af.el (S.arg ay) i (by omega))) hw) j) .nil))) (decide ((aR (el a i).outer j)<0)) (fun ac w β bl c7 S=>?_) (fun ac w β bl c7 S=>?_)
  ·exact S.aq 7 .nil [aa (-1)] (b3 q0)
  refine S.aI 22 (.cons (b6 (S.arg ay) i Tryz.underlying28) (.cons (cz (S.arg ay) 22 i 1 (R (el a i).out.length (pa.2 i).out.1)) (.cons (aE fun w hw=>Py w (el a i).out (pa.2 i).out (bN (aU.out (d:=(el a i)) (af.el (S.arg ay) i (by omega))) hw) (aR (el a i).outer j)) .nil))) (decide ((aR (el a i).out (aR (el a i).outer j))<0)) (fun ac w β cD e_ S=>?_) (fun ac w β cD e_ S=>?_)
  ·exact S.aq 7 .nil [aa (-1)] (b3 q0)
  refine S.aI 22 (.cons (b6 (S.arg ay) i Tryz.underlying28) (.cons (cz (S.arg ay) 39 i 2 (R (el a i).aT.length (pa.2 i).aT.1)) (.cons (aE fun w hw=>Pv w (el a i).aT (pa.2 i).aT (bN (aU.aT (d:=(el a i)) (af.el (S.arg ay) i (by omega))) hw) (aR (el a i).out (aR (el a i).outer j))) .nil))) (decide ((aR (el a i).aT (aR (el a i).out (aR (el a i).outer j)))<0)) (fun ac w β et iP S=>?_) (fun ac w β et iP S=>?_)
  ·exact S.aq 7 .nil [aa (-1)] (b3 q0)
  refine S.aI 22 (.cons (b6 (S.arg ay) i Tryz.underlying28) (.cons (cz (S.arg ay) 71 i 3 (R (el a i).U.length (pa.2 i).U.1)) (.cons (aE fun w hw=>YT w (el a i).U (pa.2 i).U (bN (aU.U (d:=(el a i)) (af.el (S.arg ay) i (by omega))) hw) (aR (el a i).aT (aR (el a i).out (aR (el a i).outer j)))) .nil))) (decide ((aR (el a i).U (aR (el a i).aT (aR (el a i).out (aR (el a i).outer j))))<0)) (fun ac w β eL h8 S=>?_) (fun ac w β eL h8 S=>?_)
  ·exact S.aq 7 .nil [aa (-1)] (b3 q0)
  refine S.aI 22 (.cons (b6 (S.arg ay) i Tryz.underlying28) (.cons (cz (S.arg ay) 38 i 4 (R (el a i).outs.length (pa.2 i).outs.1)) (.cons (aE fun w hw=>Hd w (el a i).outs (pa.2 i).outs (bN (aU.outs (d:=(el a i)) (af.el (S.arg ay) i (by omega))) hw) (aR (el a i).U (aR (el a i).aT (aR (el a i).out (aR (el a i).outer j))))) .nil))) (decide ((aR (el a i).outs (aR (el a i).U (aR (el a i).aT (aR (el a i).out (aR (el a i).outer j)))))<0)) (fun ac w β jD nK S=>?_) (fun ac w β jD nK S=>?_)
  ·exact S.aq 7 .nil [aa (-1)] (b3 q0)
  refine S.aI 15 (.cons (b6 (S.arg ay) i Tryz.underlying28) (.cons (cz (S.arg ay) 3 i 5 (aa (el a i).aB)) .nil)) ((el a i).aB != (aR (el a i).outs (aR (el a i).U (aR (el a i).aT (aR (el a i).out (aR (el a i).outer j)))))) (fun ac w β oj pb S=>?_) (fun ac w β oj pb S=>?_)
  ·exact S.aq 7 .nil [aa (-1)] (b3 q0)
  refine S.aI 22 (.cons (jl (x:=(aR (el a i).outs (aR (el a i).U (aR (el a i).aT (aR (el a i).out (aR (el a i).outer j)))))) (y:=1)) (.cons (b6 (S.arg ay) i Tryz.underlying28) (.cons (cz (S.arg ay) 3 i 6 (aa (el a i).aX)) .nil))) ((el a i).aX != (aZ (aR (el a i).outs (aR (el a i).U (aR (el a i).aT (aR (el a i).out (aR (el a i).outer j))))))) (fun ac w β jE pc S=>?_) (fun ac w β jE pc S=>?_)
  ·exact S.aq 7 .nil [aa (-1)] (b3 q0)
  refine S.aI 29 (.cons (jl (x:=(aZ (aR (el a i).outs (aR (el a i).U (aR (el a i).aT (aR (el a i).out (aR (el a i).outer j))))))) (y:=1)) (.cons (b6 (S.arg ay) i Tryz.underlying28) (.cons (cz (S.arg ay) 72 i 7 (R (el a i).tables.length (pa.2 i).tables.1)) (.cons (aE fun w hw=>YV w (el a i).tables (pa.2 i).tables (bN (aU.tables (d:=(el a i)) (af.el (S.arg ay) i (by omega))) hw) (aZ (aZ (aR (el a i).outs (aR (el a i).U (aR (el a i).aT (aR (el a i).out (aR (el a i).outer j)))))))) .nil)))) (decide ((aR (el a i).tables (aZ (aZ (aR (el a i).outs (aR (el a i).U (aR (el a i).aT (aR (el a i).out (aR (el a i).outer j))))))))<0)) (fun ac w β iZ p5 S=>?_) (fun ac w β iZ p5 S=>?_)
  ·exact S.aq 7 .nil [aa (-1)] (b3 q0)
  refine S.aI 15 (.cons (b6 (S.arg ay) i Tryz.underlying28) (.cons (cz (S.arg ay) 3 i 8 (aa (el a i).owned)) .nil)) ((el a i).owned != (aR (el a i).tables (aZ (aZ (aR (el a i).outs (aR (el a i).U (aR (el a i).aT (aR (el a i).out (aR (el a i).outer j))))))))) (fun ac w β lj uT S=>?_) (fun ac w β lj uT S=>?_)
  ·exact S.aq 7 .nil [aa (-1)] (b3 q0)
  refine S.ge 15 (.cons (jl (x:=(aR (el a i).tables (aZ (aZ (aR (el a i).outs (aR (el a i).U (aR (el a i).aT (aR (el a i).out (aR (el a i).outer j))))))))) (y:=1)) (.cons (cg (i:Int) 1) .nil)) f1 fun ac w β S=>fa.of (a.length-(i+1)) _ _ (by omega) ⟨i+1,(aZ (aR (el a i).tables (aZ (aZ (aR (el a i).outs (aR (el a i).U (aR (el a i).aT (aR (el a i).out (aR (el a i).outer j))))))))),_,_,_,rfl,?_,?_,S.z⟩
  ·exact cO
  ·clear S;(rw [bn,iv (by omega)];simp [D0,aZ,du,fQ,dj, *])
 exact S.aq 13 .nil [aa j] (b3 q0)
theorem A_ {p:Prop} (h:p:=by clear S;(first|(rw [bn,r2 (by omega)];done)|(rw [bn,iv (by omega)];simp [DV,aZ,du,fQ,dj, *];done)|(rw [bn,iv (by omega)];simp_all [DV,aZ,du,fQ,dj];done))):p:=h
theorem Pw (w0:World) (a:List aG) (pa:aC aG) (ay:bT w0 a pa) (k:Int):Calls Tryz.prog 65 [R a.length pa.1,aa k].toArray w0 (fun e w'=>e= .returned (aa (aR a k))/\bu ab w0 w'):=by
 refine Calls.run ab Tryz.func65 ?_
 intro ac β S
 have fy:a.length<=4194304:=af.le ay
 refine S.go 12 .nil fun ac w β S=>?_
 refine dc (fun a5 ac w=>∃(i:Nat) (j:Int) (u:_) (N:_) (β:_),a5=a.length-i/\(i<=a.length)/\(aR a k=hC (a.drop i) j id)/\aj Tryz.prog Tryz.f65.ntmps w0 ab u N β ⟨[(0,.v (R a.length pa.1)),(1,.v (aa j)),(5,.v (aa (i:Int)))],[]⟩ ac w) _ ⟨0,k,_,_,_,rfl,cv,(by rfl),S.z⟩ ?_
 clear S
 rintro f1 a5 fa ac w ⟨i,j,u,N,β,rfl,hi,bn,S⟩
 refine S.rs fun S=>?_
 refine S.aI 9 .nil (decide ((i:Int)<(a.length:Int))) (fun ac w β aF cB S=>?_) (fun ac w β aF cB S=>?_)
 ·refine S.aI 17 (.cons (b6 (S.arg ay) i Tryz.underlying29) (.cons (cz (S.arg ay) 3 i 0 (aa (el a i).tag)) .nil)) ((el a i).tag != j) (fun ac w β bl c7 S=>?_) (fun ac w β bl c7 S=>?_)
  ·exact S.aq 7 .nil [aa (-1)] (b3 A_)
  refine S.aI 22 (.cons (jl (x:=j) (y:=1)) (.cons (b6 (S.arg ay) i Tryz.underlying29) (.cons (cz (S.arg ay) 3 i 1 (aa (el a i).page)) .nil))) ((el a i).page != (aZ j)) (fun ac w β cD e_ S=>?_) (fun ac w β cD e_ S=>?_)
  ·exact S.aq 7 .nil [aa (-1)] (b3 A_)
  refine S.aI 22 (.cons (jl (x:=(aZ j)) (y:=1)) (.cons (b6 (S.arg ay) i Tryz.underlying29) (.cons (cz (S.arg ay) 3 i 2 (aa (el a i).host)) .nil))) ((el a i).host != (aZ (aZ j))) (fun ac w β et iP S=>?_) (fun ac w β et iP S=>?_)
  ·exact S.aq 7 .nil [aa (-1)] (b3 A_)
  refine S.aI 22 (.cons (jl (x:=(aZ (aZ j))) (y:=1)) (.cons (b6 (S.arg ay) i Tryz.underlying29) (.cons (cz (S.arg ay) 3 i 3 (aa (el a i).bd)) .nil))) ((el a i).bd != (aZ (aZ (aZ j)))) (fun ac w β eL h8 S=>?_) (fun ac w β eL h8 S=>?_)
  ·exact S.aq 7 .nil [aa (-1)] (b3 A_)
  refine S.ge 15 (.cons (jl (x:=(aZ (aZ (aZ j)))) (y:=1)) (.cons (cg (i:Int) 1) .nil)) f1 fun ac w β S=>fa.of (a.length-(i+1)) _ _ (by omega) ⟨i+1,(aZ (aZ (aZ (aZ j)))),_,_,_,rfl,?_,?_,S.z⟩
  ·exact cO
  ·clear S;(rw [bn,iv (by omega)];simp [DV,aZ,du,fQ,dj, *])
 exact S.aq 13 .nil [aa j] (b3 A_)
theorem Px (w0:World) (a:ah) (pa:cb) (ay:bT w0 a pa) (k:Int):Calls Tryz.prog 12 [GT.val a pa,aa k].toArray w0 (fun e w'=>e= .returned (aa (ou a k))/\bu ab w0 w'):=by
 refine Calls.run ab Tryz.func12 ?_
 intro ac β S
 have Ss:a.mem.length<=4194304:=af.le (bz.mem (d:=a) ay)
 have St:a.I.length<=4194304:=af.le (bz.I (d:=a) ay)
 have Sq:a.buf.length<=4194304:=af.le (bz.buf (d:=a) ay)
 have Sr:a.ag.length<=4194304:=af.le (bz.ag (d:=a) ay)
 refine S.aI 22 (.cons (aE fun w hw=>Py w a.mem pa.mem (bN (bz.mem (d:=a) (S.arg ay)) hw) k) .nil) (decide ((aR a.mem k)<0)) (fun ac w β h1 a8 S=>?_) (fun ac w β h1 a8 S=>?_)
 ·exact S.aq 7 .nil [aa (-1)] (b3 (by clear S;(simp [ou,dj, *])))
 refine S.aI 19 (.cons (aE fun w hw=>YW w a.I pa.I (bN (bz.I (d:=a) (S.arg ay)) hw) (aR a.mem k)) .nil) (decide ((aR a.I (aR a.mem k))<0)) (fun ac w β aF cB S=>?_) (fun ac w β aF cB S=>?_)
 ·exact S.aq 7 .nil [aa (-1)] (b3 (by clear S;(simp [ou,dj, *])))
 refine S.aI 19 (.cons (aE fun w hw=>Pw w a.buf pa.buf (bN (bz.buf (d:=a) (S.arg ay)) hw) (aR a.I (aR a.mem k))) .nil) (decide ((aR a.buf (aR a.I (aR a.mem k)))<0)) (fun ac w β bl c7 S=>?_) (fun ac w β bl c7 S=>?_)
 ·exact S.aq 7 .nil [aa (-1)] (b3 (by clear S;(simp [ou,dj, *])))
 refine S.aI 19 (.cons (aE fun w hw=>Pw w a.ag pa.ag (bN (bz.ag (d:=a) (S.arg ay)) hw) (aR a.buf (aR a.I (aR a.mem k)))) .nil) (decide ((aR a.ag (aR a.buf (aR a.I (aR a.mem k))))<0)) (fun ac w β cD e_ S=>?_) (fun ac w β cD e_ S=>?_)
 ·exact S.aq 7 .nil [aa (-1)] (b3 (by clear S;(simp [ou,dj, *])))
 exact S.aq 10 .nil [aa (aR a.ag (aR a.buf (aR a.I (aR a.mem k))))] (b3 (by clear S;(simp [ou,dj, *])))
theorem vR {p:Prop} (h:p:=by clear S;first|rfl|(exfalso;omega)|(exfalso;simp_all;done)|(exfalso;simp_all;omega)):p:=h
theorem YG (w0:World) (dV:ah) (oK:cb) (RY:GT.rd kU (fc w0.heap.size) w0 dV oK) (fH:Int) (fG:Int):Calls Tryz.prog 3 [GT.val dV oK,aa fH,aa fG].toArray w0 (fun e w'=>e= .returned (B true)/\bu ab w0 w'):=by
 refine Calls.run ab Tryz.func3 ?_
 intro ac β S
 have hv:=gL (aS.aW dV) 1048576
 refine S.aI 26 (.cons (aE fun w hw=>Y3 w dV oK (bN (S.arg RY) hw) 1048576 (by omega) (by omega)) .nil) (decide ((cf (aS.aW dV) 1048576)<0)) (fun ac w β an b4 S=>?_) (fun ac w β an b4 S=>?_)
 ·exact S.aq 7 .nil [B true] (a6 vR)
 have D6:bT w0 dV oK:=aS.cut RY (show aS.aW dV<=4194304 by omega)
 have an4:aS.aW dV<=1048576:=by omega
 refine S.go 6 .nil fun ac w β S=>S.cN (r:=dV) (d:=25) (De w dV oK (S.rd (S.arg D6))) fun ac w N oL dO S up bJ d7=>?_
 clear up d7
 refine S.go 2 .nil fun ac w β S=>S.rA (r:=(dt dV fH fG).1) (r':=(dt dV fH fG).2) (d:=28) (Zz w dV oL (S.rd bJ.ak) fH fG) fun ac w N bX tQ dT e3 S up bG ju d14 d15 d16=>?_
 clear up d14
 clear d15
 refine S.go 11 .nil fun ac w β S=>S.cN (r:=dV) (d:=32) (De w dV oK (S.rd (S.arg D6))) fun ac w N dg hq S up fU d22=>?_
 have d23:=J.w d22 bG.sub
 replace bG:=bG.up up
 clear up d22
 refine S.go 9 .nil fun ac w β S=>S.rA (r:=(dt dV fH fG).1) (r':=(dt dV fH fG).2) (d:=37) (Pa w dV dg (S.rd fU.ak) fH fG) fun ac w N c2 kg kS uh S up fC kb d30 d31 d32=>?_
 have d35:=J.w d30 bG.sub
 have d36:=J.w d30 fU.sub
 replace bG:=bG.up up
 replace fU:=fU.up up
 clear up d30
 clear d31
 refine S.bb 16 (.cons (aE fun w hw=>C_ w (dt dV fH fG).1 c2 (bN fC.ak hw) (dt dV fH fG).1 bX (bN bG.ak hw)) .nil) (!(decide ((dt dV fH fG).1=(dt dV fH fG).1))) (fun ac w β ja S=>?_) (fun ac w β ja S=>?_)
 ·have qQ:=cn ja
  have xR:=of_decide_eq_false qQ
  exact S.aq 13 .nil [B false] (a6 vR)
 have kZ:=b_ ja
 have Ip:=of_decide_eq_true kZ
 refine S.bb 6 .nil (!((dt dV fH fG).2==(dt dV fH fG).2)) (fun ac w β j_ S=>?_) (fun ac w β j_ S=>?_)
 ·exact absurd j_ (by simp)
 have tg:=b_ j_
 have Re:(dt dV fH fG).2=(dt dV fH fG).2:=eq_of_beq tg
 refine S.go 5 .nil fun ac w β S=>?_
 refine dI ?_
 refine S.dP (f:=5) 5 (by kernel_rfl) (by kernel_rfl) fun w S=>?_
 refine S.a9 0 [] [] [(49,.v (GT.val dV dg))] .nil fun ac S=>?_
 refine S.a9 1 [] [] [(50,.v (GT.val dV oK))] .nil fun ac S=>?_
 refine ar.one (i:=2) (by kernel_rfl) ?_
 refine id (S.dz 51 (De w dV oK (S.rd (S.arg D6))) fun ac w N rh N5 S up wc d48=>?_)
 refine ar.next S up (by kernel_rfl) ?_
 replace bG:=bG.up up
 replace fU:=fU.up up
 replace fC:=fC.up up
 clear up d48
 refine S.iI 3 [] [(52,.v (B (decide (dV=dV))))] 4 [] (.cons (aE fun w hw=>C_ w dV dg (bN fU.ak hw) dV rh (bN wc.ak hw)) .nil) fun ac w β S=>?_
 refine S.a9 4 [] [] [(53,.v (B (!(decide (dV=dV)))))] .nil fun ac S=>?_
 refine ar.done (by kernel_rfl) ?_ _
 refine S.ex fun S=>?_
 refine S.bb 1 .nil (!(decide (dV=dV))) (fun ac w β oo S=>?_) (fun ac w β oo S=>?_)
 ·have Ag:=cn oo
  have Rg:=of_decide_eq_false Ag
  exact S.aq 7 .nil [B false] (a6 vR)
 have IM:=b_ oo
 have acf:=of_decide_eq_true IM
 refine S.go 12 .nil fun ac w β S=>S.kV (hd:=ou) (d:=56) fU (PB w dV dg hq (S.fX fU) (fun b hb=>(S.sep b (fU.sub b hb)).1) 1 (by omega) (by omega)) fun ac w N fu F5 KK S up qn X0 aqg amb amc=>?_
 replace bG:=bG.bw d23 up
 replace fC:=fC.bw (J.symm d36) up
 clear up
 replace S:=S.z (σ':=⟨[(1,.v (aa fH)),(2,.v (aa fG)),(3,.p 0 0),(8,.p 1 0),(9,.v (B (dt dV fH fG).2)),(11,.p 3 0),(12,.v (B (dt dV fH fG).2)),(55,.v (aa 1)),(56,.v (aa KK))],[GT.cells dV oK,GT.cells (dt dV fH fG).1 bX,GT.cells dV dg,GT.cells (dt dV fH fG).1 c2]⟩)
 have A2:GT.cells F5 fu=GT.cells dV dg:=X0
 replace S:=S.cast (σ':=⟨[(1,.v (aa fH)),(2,.v (aa fG)),(3,.p 0 0),(8,.p 1 0),(9,.v (B (dt dV fH fG).2)),(11,.p 3 0),(12,.v (B (dt dV fH fG).2)),(55,.v (aa 1)),(56,.v (aa KK))],[GT.cells dV oK,GT.cells (dt dV fH fG).1 bX,GT.cells F5 fu,GT.cells (dt dV fH fG).1 c2]⟩) (by rw [A2])
 clear A2
 refine S.is fun S=>?_
 refine S.aI 9 .nil (decide (KK<0)) (fun ac w β x6 ach S=>?_) (fun ac w β x6 ach S=>?_)
 ·exact S.aq 19 .nil [B false] (a6 vR)
 refine S.go 6 (.cons (aE fun w hw=>C_ w (dt dV fH fG).1 c2 (bN fC.ak hw) (dt dV fH fG).1 bX (bN bG.ak hw)) .nil) fun ac w β S=>?_
 refine S.lt 65 ja fun S=>?_
 refine S.go 6 .nil fun ac w β S=>?_
 refine S.lt 69 j_ fun S=>?_
 have aqz:=aj4 dV fH fG fC.ak
 refine S.go 12 .nil fun ac w β S=>S.kV (hd:=ou) (d:=72) fC (PB w (dt dV fH fG).1 c2 kS (S.fX fC) (fun b hb=>(S.sep b (fC.sub b hb)).1) 1 (by omega) (by omega)) fun ac w N tP y9 KL S up ho X1 aqh OG amf=>?_
 replace bG:=bG.bw d35 up
 clear up
 replace S:=S.z (σ':=⟨[(1,.v (aa fH)),(2,.v (aa fG)),(3,.p 0 0),(8,.p 1 0),(9,.v (B (dt dV fH fG).2)),(11,.p 3 0),(71,.v (aa 1)),(72,.v (aa KL))],[GT.cells dV oK,GT.cells (dt dV fH fG).1 bX,GT.cells F5 fu,GT.cells (dt dV fH fG).1 c2]⟩)
 have A2:GT.cells y9 tP=GT.cells (dt dV fH fG).1 c2:=X1
 replace S:=S.cast (σ':=⟨[(1,.v (aa fH)),(2,.v (aa fG)),(3,.p 0 0),(8,.p 1 0),(9,.v (B (dt dV fH fG).2)),(11,.p 3 0),(71,.v (aa 1)),(72,.v (aa KL))],[GT.cells dV oK,GT.cells (dt dV fH fG).1 bX,GT.cells F5 fu,GT.cells y9 tP]⟩) (by rw [A2])
 clear A2
 refine S.is fun S=>?_
 refine S.aI 23 (.cons (aE fun w hw=>Px w y9 tP (bN ho.ak hw) 1) .nil) (decide ((ou y9 1)<0)) (fun ac w β DP Iv S=>?_) (fun ac w β DP Iv S=>?_)
 ·exact S.aq 7 .nil [B false] (a6 vR)
 refine S.aI 11 .nil ((ou y9 1) != KL) (fun ac w β DR Ix S=>?_) (fun ac w β DR Ix S=>?_)
 ·exact S.aq 7 .nil [B false] (a6 vR)
 refine S.go 6 .nil fun ac w β S=>S.cN (r:=dV) (d:=83) (De w dV oK (S.rd (S.arg D6))) fun ac w N rk zk S up oG d83=>?_
 replace bG:=bG.up up
 replace ho:=ho.up up
 clear up d83
 refine S.go 2 .nil fun ac w β S=>S.rA (r:=(dt dV fH fG).1) (r':=(dt dV fH fG).2) (d:=86) (Pa w dV rk (S.rd oG.ak) fH fG) fun ac w N aiT ki nt N_ S up l1 E5 d93 d94 d95=>?_
 replace bG:=bG.up up
 replace ho:=ho.up up
 clear up d93
 clear d94
 refine S.go 16 (.cons (aE fun w hw=>C_ w (dt dV fH fG).1 aiT (bN l1.ak hw) (dt dV fH fG).1 bX (bN bG.ak hw)) .nil) fun ac w β S=>?_
 refine S.lt 93 ja fun S=>?_
 refine S.go 6 .nil fun ac w β S=>?_
 refine S.lt 97 j_ fun S=>?_
 refine S.go 23 (.cons (aE fun w hw=>Px w y9 tP (bN ho.ak hw) 1) .nil) fun ac w β S=>?_
 refine S.lt 102 DP fun S=>?_
 refine S.go 11 .nil fun ac w β S=>?_
 refine S.lt 105 DR fun S=>?_
 exact S.aq 9 .nil [B true] (a6 vR)
end Go.Proofs.YtjlocpdfcanlhaaGreat
